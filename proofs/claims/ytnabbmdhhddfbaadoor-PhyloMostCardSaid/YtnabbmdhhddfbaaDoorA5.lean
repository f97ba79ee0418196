/- The first conflict of a table, in the program and in the document. -/
import Derived.Test.YtnabbmdhhddfbaaDoorA4
namespace Go.Proofs.YtnabbmdhhddfbaaDoor
open Go.RowKit Go.Shelf
/-- Set i has a conflict with a later one. -/
def cfR (l : List Nat) (i j : Nat) : Bool := decide (i < j) && !fitB (vA l i) (vA l j)
def cfRow (l : List Nat) (i : Nat) : Bool := (List.range l.length).any (cfR l i)
/-- The first conflict. -/
def confE (l : List Nat) : Option (Nat × Nat) := ((List.range l.length).find? (cfRow l)).bind fun i => ((List.range l.length).find? (cfR l i)).map fun j => (i, j)
theorem conf_no {l : List Nat} (h : ∀ i, i < l.length → cfRow l i = false) : confE l = none := by
  unfold confE
  rw [List.find?_range_eq_none.2 (fun i hi => by rw [h i hi]; rfl)]
  rfl
theorem cfRow_no {l : List Nat} {i : Nat} (h : ∀ j, i < j → j < l.length → fitB (vA l i) (vA l j) = true) : cfRow l i = false := by
  unfold cfRow
  rw [List.any_eq_false]
  intro j hj
  unfold cfR
  by_cases e : i < j
  · rw [h j e (List.mem_range.1 hj)]; simp
  · simp [e]
theorem conf_yes {l : List Nat} {i j : Nat} (h : ∀ k, k < i → cfRow l k = false) (hij : i < j) (hj : j < l.length) (hf : fitB (vA l i) (vA l j) = false) (hm : ∀ k, i < k → k < j → fitB (vA l i) (vA l k) = true) : confE l = some (i, j) := by
  have e1 : cfR l i j = true := by unfold cfR; rw [hf]; simp [hij]
  have e2 : (List.range l.length).find? (cfRow l) = some i := by
    rw [List.find?_range_eq_some]
    refine ⟨?_, List.mem_range.2 (by omega), fun k hk => by rw [h k hk]; rfl⟩
    unfold cfRow
    rw [List.any_eq_true]
    exact ⟨j, List.mem_range.2 hj, e1⟩
  have e3 : (List.range l.length).find? (cfR l i) = some j := by
    rw [List.find?_range_eq_some]
    refine ⟨e1, List.mem_range.2 hj, fun k hk => ?_⟩
    unfold cfR
    by_cases e : i < k
    · rw [hm k e hk]; simp
    · simp [e]
  unfold confE
  rw [e2]
  show ((List.range l.length).find? (cfR l i)).map _ = _
  rw [e3]; rfl
/-- What Conflict answers. -/
def cfV (L : Int) (l : List Nat) : Value := if chkT L l ≠ 0 then .tuple #[.int .i64 0, .int .i64 0, .bool false, .int .i64 (chkT L l)] else
  match confE l with
  | none => .tuple #[.int .i64 0, .int .i64 0, .bool false, .int .i64 0]
  | some p => .tuple #[.int .i64 p.1, .int .i64 p.2, .bool true, .int .i64 0]
theorem cfV_bad {L : Int} {l : List Nat} (h : chkT L l ≠ 0) : cfV L l = .tuple #[.int .i64 0, .int .i64 0, .bool false, .int .i64 (chkT L l)] := if_pos h
theorem cfV_no {L : Int} {l : List Nat} (h : chkT L l = 0) (h2 : confE l = none) : cfV L l = .tuple #[.int .i64 0, .int .i64 0, .bool false, .int .i64 0] := by unfold cfV; rw [if_neg (fun h3 => h3 h), h2]
theorem cfV_yes {L : Int} {l : List Nat} {i j : Nat} (h : chkT L l = 0) (h2 : confE l = some (i, j)) : cfV L l = .tuple #[.int .i64 i, .int .i64 j, .bool true, .int .i64 0] := by unfold cfV; rw [if_neg (fun h3 => h3 h), h2]
theorem idxF_cases (p : Nat → Bool) (l : List Nat) : (idxF p l = -1 ∧ ∀ j, j < l.length → p (vA l j) = false) ∨ ∃ k : Nat, idxF p l = k ∧ k < l.length ∧ p (vA l k) = true ∧ ∀ j, j < k → p (vA l j) = false := by
  unfold idxF
  by_cases h : l.any p = true
  · right
    rw [if_pos h]
    have hx : l.findIdx p < l.length := by
      rw [List.any_eq_true] at h
      obtain ⟨x, hx, hp⟩ := h
      exact List.findIdx_lt_length_of_exists ⟨x, hx, hp⟩
    refine ⟨l.findIdx p, rfl, hx, ?_, fun j hj => ?_⟩
    · rw [vA_get hx]; exact List.findIdx_getElem
    · rw [vA_get (by omega)]
      have := List.not_of_lt_findIdx hj
      simpa using this
  · left
    rw [if_neg h]
    refine ⟨rfl, fun j hj => ?_⟩
    simp only [Bool.not_eq_true, List.any_eq_false] at h
    rw [vA_get hj]
    have := h l[j] (List.getElem_mem hj)
    simpa using this
theorem vA_drop (l : List Nat) (m j : Nat) : vA (l.drop m) j = vA l (m + j) := by simp [vA]
theorem rd_dropV {w : World} {b o : Nat} {l : List Nat} (h : Rd w (some ⟨b, o, none⟩) (fl encV l)) (k : Nat) : Rd w (some ⟨b, o + k, none⟩) (fl encV (l.drop k)) := by
  intro h0
  have hl : 0 < (l.drop k).length := by
    rw [fl_length encV_len] at h0
    omega
  rw [List.length_drop] at hl
  obtain ⟨b', o', e, hb, hc⟩ := rdV h (by omega)
  simp only [Option.some.injEq, Addr.mk.injEq, and_true] at e
  obtain ⟨rfl, rfl⟩ := e
  refine ⟨b, o + k, rfl, hb, fun i hi => ?_⟩
  rw [fl_length encV_len, Nat.mul_one, List.length_drop] at hi
  have h1 := hc (k + i) (by omega)
  have h2 := fl_getElem? encV_len (l.drop k) i 0 (by omega)
  rw [Nat.mul_one, Nat.add_zero] at h2
  rw [List.getD_eq_getElem?_getD, h2]
  rw [List.getElem?_eq_getElem (by rw [List.length_drop]; omega)]
  rw [← Nat.add_assoc] at h1
  rw [h1, vA_get (by omega)]
  simp [encV]
set_option maxHeartbeats 1000000 in
theorem cf1_any (x o S : Nat) (w : World) (hx : x < 18446744073709551616) (ho : o < 18446744073709551616) (hB : Blk w S #[.int .u64 x] 44) :
    Calls Tryd.prog 41 #[.int .u64 o, .pointer (some ⟨S, 0, none⟩)] w fun e w' => e = .returned (.bool (!fitB x o)) ∧ w' = w := by
  have e0 : w.cell? ⟨S, 0, none⟩ = some (.int .u64 x) := hB.cell 0
  go_enter Tryd.func41, Tryd.ntmps41
  go_wp2_with fail
  refine (fits_any x o w hx ho).mono ?_
  rintro e w' ⟨rfl, rfl⟩
  obtain ⟨b, hb⟩ : ∃ b, fitB x o = b := ⟨_, rfl⟩
  have HBB := Lib.hid hb
  rw [hb]
  clear hb
  go_wp2_with fail
  go_ret
  exact ⟨by rw [HBB.out]; rfl, rfl⟩
set_option maxRecDepth 100000 in
set_option maxHeartbeats 1000000 in
theorem rconf_any (L : Int) (a : Option Addr) (N c : Nat) (l : List Nat) (w : World) (hl : l.length = N) (hN : N ≤ 1152921504606846976) (hA : Rd w a (fl encV l)) (hF : FitV l) :
    Calls Tryd.prog 19 #[.agg #[.int .i64 L, .slice a N c]] w fun e w' => e = .returned (cfV L l) ∧ Below w.heap.size w w' := by
  have hb0 := bl_alloc (Below.refl _ w) (.cells #[.int .i64 L, .slice a N c] 32)
  have hB := Blk.new w #[.int .i64 L, .slice a N c] 32
  have HL := Lib.hid hl
  have HF := Lib.hid hF
  have HC := Lib.hid (rtchk_any L a N c l (w.alloc (.cells #[.int .i64 L, .slice a N c] 32)) hl hN (hA.bl hb0) hF)
  have HA := Lib.hid (hA.bl hb0)
  clear hl hA hF
  go_enter Tryd.func19, Tryd.ntmps19
  go_wp2_with fail
  refine HC.out.mono ?_
  rintro e w2 ⟨rfl, hb2⟩
  have hb3 := bl_trans hb0 hb2
  have hB2 := hB.below hb2
  have HA2 := Lib.hid (HA.out.bl hb2)
  obtain ⟨E, hE⟩ : ∃ E, chkT L l = E := ⟨_, rfl⟩
  rw [hE]
  have HE := Lib.hid hE
  clear hE HC HA hB hb0 hb2
  by_cases h0 : E = 0
  · have d0 : (E == 0) = true := by simp [h0]
    subst h0
    obtain ⟨X, hX⟩ : ∃ X, X = w.heap.size := ⟨_, rfl⟩
    rw [← hX] at hB2 ⊢
    have e0 : w2.cell? ⟨X, 0, none⟩ = some (.int .i64 L) := hB2.cell 0
    have e1 : w2.cell? ⟨X, 1, none⟩ = some (.slice a N c) := hB2.cell 1
    have HB3 := Lib.hid hb3
    clear hX hB2 hb3
    go_wp2_with fail
    go_loopw [7, 8] (fun x _ wr => ∃ i : Nat, i ≤ N ∧ x = .int .i64 i ∧ Hid (∀ k, k < i → cfRow l k = false) ∧ ∃ nq, wr = w2.drewN nq) (fun x _ _ => N - (intOf x).toNat)
    case atStart => exact ⟨0, by omega, rfl, fun k h => absurd h (by omega), 0, rfl⟩
    case round =>
      obtain ⟨i, hi, rfl, hrow, nq, rfl⟩ := hrel
      by_cases hlt : i < N
      · go_wp2_with fail
        go_loopw [8] (fun x wr => ∃ j : Nat, i < j ∧ j ≤ N ∧ x = .int .i64 j ∧ Hid (∀ k, i < k → k < j → fitB (vA l i) (vA l k) = true) ∧ ∃ nq, wr = w2.drewN nq) (fun x _ => N - (intOf x).toNat)
        case atStart => exact ⟨i + 1, by omega, by omega, by go_num, fun k h1 h2 => absurd h2 (by omega), nq, rfl⟩
        case round =>
          obtain ⟨j, hj1, hj2, rfl, hfit, nq2, rfl⟩ := hrel
          by_cases hlt2 : j < N
          · obtain ⟨b, o, rfl, hb, hc⟩ := rdV HA2.out (by rw [HL.out]; omega)
            have Gi := hc i (by rw [HL.out]; exact hlt)
            have Gj := hc j (by rw [HL.out]; exact hlt2)
            have fi := HF.out i (by rw [HL.out]; exact hlt)
            have fj := HF.out j (by rw [HL.out]; exact hlt2)
            have HR := Lib.hid (fun (W : World) (n : Nat) => (rfit_any (vA l i) (vA l j) (W.drewN n) fi fj).mono fun e w' (h : e = .returned (.bool (fitB (vA l i) (vA l j))) ∧ w' = W.drewN n) => (⟨h.1, n, h.2⟩ : e = .returned (.bool (fitB (vA l i) (vA l j))) ∧ ∃ m, w' = W.drewN m))
            obtain ⟨tb, htb⟩ : ∃ tb, fitB (vA l i) (vA l j) = tb := ⟨_, rfl⟩
            have HTB := Lib.hid htb
            rw [htb] at HR
            obtain ⟨wq, hwq⟩ : ∃ wq, wq = w2.drewN nq2 := ⟨_, rfl⟩
            replace Gi : wq.cell? ⟨b, o + i, none⟩ = some (.int .u64 (vA l i)) := by rw [hwq]; exact Gi
            replace Gj : wq.cell? ⟨b, o + j, none⟩ = some (.int .u64 (vA l j)) := by rw [hwq]; exact Gj
            have e1' : wq.cell? ⟨X, 1, none⟩ = some (.slice (some ⟨b, o, none⟩) N c) := by rw [hwq]; exact e1
            have HWQ : Hid (∀ n, ∃ m, wq.drewN n = w2.drewN m) := fun n => ⟨nq2 + n, by rw [hwq, drewN_add]⟩
            have HWB : Hid (∀ n, Below w.heap.size w (wq.drewN n)) := fun n => by rw [hwq]; exact bl_drewN (bl_drewN HB3.out nq2) n
            rw [← hwq]
            have HE1 := Lib.hid e1
            clear hc htb hwq e1 e0
            obtain ⟨x, hx⟩ : ∃ x, vA l i = x := ⟨_, rfl⟩
            obtain ⟨y, hy⟩ : ∃ y, vA l j = y := ⟨_, rfl⟩
            have HXY := Lib.hid (And.intro hx hy)
            rw [hx] at Gi fi HR
            rw [hy] at Gj fj HR
            clear hx hy
            go_upto_region 10 with fail
            go_quiet ((go_at_call 44; exact HR.out _ _))
            have HW1 := HWQ.out nq
            have HW2 := HWB.out nq
            cases tb with
            | true =>
              have hfit2 : Hid (∀ k, i < k → k < j + 1 → fitB (vA l i) (vA l k) = true) := fun k h1 h2 => by
                by_cases e : k = j
                · rw [e]; exact HTB.out
                · exact hfit.out k h1 (by omega)
              go_wp2_with fail
              go_roundw
              case rel => exact ⟨j + 1, by omega, by omega, by go_num, hfit2, HW1⟩
              case measure => simp [intOf]; omega
            | false =>
              have hy : Hid (cfV L l = .tuple #[.int .i64 i, .int .i64 j, .bool true, .int .i64 0]) := cfV_yes HE.out (conf_yes hrow.out (by omega) (by rw [HL.out]; exact hlt2) HTB.out (fun k h1 h2 => hfit.out k h1 h2))
              go_wp2_with fail
              exact bodyPost_ret (v := .tuple #[.int .i64 i, .int .i64 j, .bool true, .int .i64 0]) (by simp [results, Tryd.results19, go_sem]) rfl ⟨by rw [hy.out], HW2⟩
          · have hrow2 : Hid (∀ k, k < i + 1 → cfRow l k = false) := fun k hk => by
              by_cases e : k = i
              · rw [e]; exact cfRow_no fun j h1 h2 => hfit.out j h1 (by rw [HL.out] at h2; omega)
              · exact hrow.out k (by omega)
            go_wp2_with fail
            go_roundw
            case rel => exact ⟨i + 1, by omega, by go_num, hrow2, nq2, rfl⟩
            case measure => simp [intOf]; omega
      · have hy : Hid (cfV L l = .tuple #[.int .i64 0, .int .i64 0, .bool false, .int .i64 0]) := cfV_no HE.out (conf_no fun k hk => hrow.out k (by rw [HL.out] at hk; omega))
        go_wp2_with fail
        exact bodyPost_ret (v := .tuple #[.int .i64 0, .int .i64 0, .bool false, .int .i64 0]) (by simp [results, Tryd.results19, go_sem]) rfl ⟨by rw [hy.out], bl_drewN HB3.out nq⟩
  · have d0 : (E == 0) = false := by simp [h0]
    have hy : Hid (cfV L l = .tuple #[.int .i64 0, .int .i64 0, .bool false, .int .i64 E]) := by show _ = _; rw [cfV_bad (by rw [HE.out]; exact h0), HE.out]
    have HB3 := Lib.hid hb3
    clear h0 hb3
    go_wp2_with fail
    exact bodyPost_ret (v := .tuple #[.int .i64 0, .int .i64 0, .bool false, .int .i64 E]) (by simp [results, Tryd.results19, go_sem]) rfl ⟨by rw [hy.out], HB3.out⟩
set_option maxRecDepth 100000 in
set_option maxHeartbeats 1000000 in
theorem conf_any (L : Int) (a : Option Addr) (N c : Nat) (l : List Nat) (w : World) (hl : l.length = N) (hN : N ≤ 1152921504606846976) (hNc : N ≤ c) (hc : c ≤ 9223372036854775807) (hA : Rd w a (fl encV l)) (hF : FitV l) :
    Calls Tryd.prog 18 #[.agg #[.int .i64 L, .slice a N c]] w fun e w' => e = .returned (cfV L l) ∧ Below w.heap.size w w' := by
  have hb0 := bl_alloc (Below.refl _ w) (.cells #[.int .i64 L, .slice a N c] 24)
  have hB := Blk.new w #[.int .i64 L, .slice a N c] 24
  have HL := Lib.hid hl
  have HF := Lib.hid hF
  have HC := Lib.hid (tchk_any L a N c l (w.alloc (.cells #[.int .i64 L, .slice a N c] 24)) hl hN (hA.bl hb0) hF)
  have HA := Lib.hid (hA.bl hb0)
  clear hl hA hF
  go_enter Tryd.func18, Tryd.ntmps18
  go_wp2_with fail
  refine HC.out.mono ?_
  rintro e w2 ⟨rfl, hb2⟩
  have hb3 := bl_trans hb0 hb2
  have hB2 := hB.below hb2
  have HA2 := Lib.hid (HA.out.bl hb2)
  obtain ⟨E, hE⟩ : ∃ E, chkT L l = E := ⟨_, rfl⟩
  rw [hE]
  have HE := Lib.hid hE
  clear hE HC HA hB hb0 hb2
  by_cases h0 : E = 0
  · have d0 : (E == 0) = true := by simp [h0]
    subst h0
    obtain ⟨X, hX⟩ : ∃ X, X = w.heap.size := ⟨_, rfl⟩
    rw [← hX] at hB2 ⊢
    have HB2 := Lib.hid hB2
    have HB3 := Lib.hid hb3
    have hbz := Below.refl w2.heap.size w2
    have e0 : w2.cell? ⟨X, 0, none⟩ = some (.int .i64 L) := hB2.cell 0
    have e1 : w2.cell? ⟨X, 1, none⟩ = some (.slice a N c) := hB2.cell 1
    clear hX hB2 hb3
    go_wp2_with fail
    clear e0 e1
    go_loopw [18, 7, 8, 9] (fun x _ _ _ wr => ∃ i : Nat, i ≤ N ∧ x = .int .i64 i ∧ Hid (∀ k, k < i → cfRow l k = false) ∧ Below w2.heap.size w2 wr) (fun x _ _ _ _ => N - (intOf x).toNat)
    case atStart => exact ⟨0, by omega, rfl, fun k h => absurd h (by omega), hbz⟩
    case round =>
      obtain ⟨i, hi, rfl, hrow, hbl⟩ := hrel
      clear hbz
      by_cases hlt : i < N
      · obtain ⟨b, o, hab, hb, hcs⟩ := rdV HA2.out (by rw [HL.out]; omega)
        have Gi := (hbl.cell (p := ⟨b, o + i, none⟩) hb).trans (hcs i (by rw [HL.out]; exact hlt))
        have fi := HF.out i (by rw [HL.out]; exact hlt)
        obtain ⟨x, hx⟩ : ∃ x, vA l i = x := ⟨_, rfl⟩
        have HX := Lib.hid hx
        rw [hx] at Gi fi
        have hBw := HB2.out.below hbl
        have e1 : (wr.alloc (.cells #[.int .u64 x] 44)).cell? ⟨X, 1, none⟩ = some (.slice a N c) := (hBw.alloc (.cells #[.int .u64 x] 44)).cell 1
        have hbl1 := bl_alloc hbl (.cells #[.int .u64 x] 44)
        have hS := Blk.new wr #[.int .u64 x] 44
        have HRD := Lib.hid (HA2.out.below hbl1 (Nat.le_refl _))
        have hi1 : (i : Int) + 1 ≤ (c : Int) := by omega
        obtain ⟨S, hS0⟩ : ∃ S, S = wr.heap.size := ⟨_, rfl⟩
        have HIX := Lib.hid (fun (a' : Option Addr) (c' : Nat) (hr : Rd (wr.alloc (.cells #[.int .u64 x] 44)) a' (fl encV (l.drop (i + 1)))) => indexF_any 41 (enters_of Tryd.func41 (by kernel_rfl) rfl) #[.pointer (some ⟨wr.heap.size, 0, none⟩)] (fun o => !fitB x o) a' (N - (i + 1)) c' (l.drop (i + 1)) (wr.alloc (.cells #[.int .u64 x] 44)) (by rw [List.length_drop, HL.out]) (by omega) hr (fun k hk W hW => (cf1_any x (vA (l.drop (i + 1)) k) wr.heap.size W fi (by rw [vA_drop]; exact HF.out _ (by rw [HL.out]; omega)) (hS.below hW)).mono fun e w' hh => (⟨hh.1, by rw [hh.2]; exact Below.refl _ _⟩ : e = .returned (.bool (!fitB x (vA (l.drop (i + 1)) k))) ∧ Below W.heap.size W w')))
        have HHL := Lib.hid (show c = i + 1 → l.drop (i + 1) = [] from fun h => List.drop_eq_nil_of_le (by rw [HL.out]; omega))
        have HIC := idxF_cases (fun o => !fitB x o) (l.drop (i + 1))
        have HBE := Lib.hid (HB3.out.trans (hbl1.mono HB3.out.size))
        subst hab
        clear hx hcs hBw hS hS0
        obtain ⟨kk, hkk⟩ : ∃ kk, idxF (fun o => !fitB x o) (l.drop (i + 1)) = kk := ⟨_, rfl⟩
        rw [hkk] at HIX HIC
        clear hkk
        rcases HIC with ⟨rfl, hall⟩ | ⟨k, rfl, hk, hp, hmin⟩
        · have hrow2 : Hid (∀ k, k < i + 1 → cfRow l k = false) := fun k hk => by
            by_cases e : k = i
            · rw [e]
              refine cfRow_no fun j h1 h2 => ?_
              have := hall (j - (i + 1)) (by rw [List.length_drop]; omega)
              rw [vA_drop, show i + 1 + (j - (i + 1)) = j by omega] at this
              rw [HX.out]
              simpa using this
            · exact hrow.out k (by omega)
          clear hall
          go_wp2_with fail
          all_goals
            have HCI := Lib.hid h
            clear h
            refine (HIX.out _ _ (by first | exact rd_dropV HRD.out (i + 1) | (rw [HHL.out HCI.out]; exact Rd.nil _ _))).mono ?_
            rintro e w3 ⟨rfl, hb4⟩
            try rw [← HCI.out]
            have hbl3 := hbl1.trans (hb4.mono hbl1.size)
            go_wp2_with fail
            go_roundw
            case rel => exact ⟨i + 1, by omega, by go_num, hrow2, hbl3⟩
            case measure => simp [intOf]; omega
        · rw [List.length_drop, HL.out] at hk
          have hy : Hid (cfV L l = .tuple #[.int .i64 i, .int .i64 ((i + 1 + k : Nat) : Int), .bool true, .int .i64 0]) := cfV_yes HE.out (conf_yes hrow.out (by omega) (by rw [HL.out]; omega) (by
              rw [vA_drop] at hp
              rw [HX.out]
              simpa using hp) (fun j h1 h2 => by
              have := hmin (j - (i + 1)) (by omega)
              rw [vA_drop, show i + 1 + (j - (i + 1)) = j by omega] at this
              rw [HX.out]
              simpa using this))
          clear hmin hp
          go_wp2_with fail
          all_goals
            refine (HIX.out _ _ (rd_dropV HRD.out (i + 1))).mono ?_
            rintro e w3 ⟨rfl, hb4⟩
            have hbl3 := Lib.hid (HBE.out.trans (hb4.mono HBE.out.size))
            go_wp2_with fail
            exact bodyPost_ret (v := .tuple #[.int .i64 i, .int .i64 ((i : Int) + 1 + k), .bool true, .int .i64 0]) (by simp [results, Tryd.results18, go_sem]) rfl ⟨by rw [hy.out]; simp, hbl3.out⟩
      · have hy : Hid (cfV L l = .tuple #[.int .i64 0, .int .i64 0, .bool false, .int .i64 0]) := cfV_no HE.out (conf_no fun k hk => hrow.out k (by rw [HL.out] at hk; omega))
        have HBE := Lib.hid (HB3.out.trans (hbl.mono HB3.out.size))
        go_wp2_with fail
        exact bodyPost_ret (v := .tuple #[.int .i64 0, .int .i64 0, .bool false, .int .i64 0]) (by simp [results, Tryd.results18, go_sem]) rfl ⟨by rw [hy.out], HBE.out⟩
  · have d0 : (E == 0) = false := by simp [h0]
    have hy : Hid (cfV L l = .tuple #[.int .i64 0, .int .i64 0, .bool false, .int .i64 E]) := by show _ = _; rw [cfV_bad (by rw [HE.out]; exact h0), HE.out]
    have HB3 := Lib.hid hb3
    clear h0 hb3
    go_wp2_with fail
    exact bodyPost_ret (v := .tuple #[.int .i64 0, .int .i64 0, .bool false, .int .i64 E]) (by simp [results, Tryd.results18, go_sem]) rfl ⟨by rw [hy.out], HB3.out⟩
end Go.Proofs.YtnabbmdhhddfbaaDoor
