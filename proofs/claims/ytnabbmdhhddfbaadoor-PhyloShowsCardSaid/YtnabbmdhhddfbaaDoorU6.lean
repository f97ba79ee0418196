/- The document's Groups at every table. The statement PhyloGroups: the walk. phylo.Fits at every table and tree. The document's tree: children. The document's tree: letters, names. The document's tree: Check. The document's tree: Leaves, node. The document's check of a table and a tree. The document's tree: the way from the root. The document's tree: the deepest common node. -/
import Derived.Test.YtnabbmdhhddfbaaDoorU2
import Derived.Test.YtnabbmdhhddfbaaDoorU1
import Derived.Test.YtnabbmdhhddfbaaDoorU5
import Derived.Test.YtnabbmdhhddfbaaDoorU3
import Derived.Test.YtnabbmdhhddfbaaDoorU4
namespace Go.Proofs.YtnabbmdhhddfbaaDoor
open Go Go.RowKit Go.Shelf
theorem encV_oneL : ∀ x : Nat, ∀ u ∈ encV x, u.oneCell' = true := fun x u hu => by simp [encV] at hu; subst hu; rfl
theorem rd_takeV {w : World} {a : Option Addr} {l : List Nat} (h : Rd w a (fl encV l)) (k : Nat) : Rd w a (fl encV (l.take k)) := by
  intro h0
  rw [fl_length encV_len] at h0
  have h1 : 0 < l.length := by rw [List.length_take] at h0; omega
  obtain ⟨b, o, e, hb, hc⟩ := rd_elem encV_len h (by omega) h1
  refine ⟨b, o, e, hb, fun i hi => ?_⟩
  rw [fl_length encV_len, List.length_take] at hi
  have := hc i (by omega) 0 (by omega)
  simp only [Nat.mul_one, Nat.add_zero] at this
  rw [this]
  have h2 := fl_getElem? encV_len (l.take k) i 0 (by omega)
  rw [Nat.mul_one, Nat.add_zero] at h2
  rw [List.getD_eq_getElem?_getD, h2, List.getElem?_take, if_pos (by omega), List.getElem?_eq_getElem (l := l) (show i < l.length by omega)]
  rfl
theorem befN_le (z : Nat) (out : List Nat) : befN z out ≤ out.length := by
  unfold befN
  have := (List.takeWhile_sublist (fun y => setBef y z) (l := out)).length_le
  exact this
theorem befN_lt {z : Nat} {out : List Nat} {j : Nat} (h : j < befN z out) : setBef (vA out j) z = true := by
  have hl := befN_le z out
  have h1 : (out.takeWhile (fun y => setBef y z))[j]'h ∈ out.takeWhile (fun y => setBef y z) := List.getElem_mem _
  have h2 := List.all_eq_true.1 (List.all_takeWhile (l := out) (p := fun y => setBef y z)) _ h1
  have hp := (List.takeWhile_prefix (fun y => setBef y z) (l := out))
  rw [hp.getElem h] at h2
  rw [vA_get (by omega)]
  exact h2
theorem befN_at {z : Nat} {out : List Nat} (h : befN z out < out.length) : setBef (vA out (befN z out)) z = false := by
  have h1 := List.takeWhile_append_dropWhile (p := fun y => setBef y z) (l := out)
  have hne : out.dropWhile (fun y => setBef y z) ≠ [] := by
    intro e
    rw [e, List.append_nil] at h1
    unfold befN at h
    rw [h1] at h
    omega
  have h2 := List.head_dropWhile_not (fun y => setBef y z) hne
  have h3 : vA out (befN z out) = (out.dropWhile (fun y => setBef y z)).head hne := by
    rw [vA_get h]
    have h4 : out[befN z out]? = (out.takeWhile (fun y => setBef y z) ++ out.dropWhile (fun y => setBef y z))[befN z out]? := by rw [h1]
    rw [List.getElem?_append_right (by unfold befN; exact Nat.le_refl _)] at h4
    have hh : (out.takeWhile (fun y => setBef y z)).length < out.length := h
    unfold befN at h4 ⊢
    rw [Nat.sub_self, ← List.head?_eq_getElem?, List.head?_eq_some_head hne, List.getElem?_eq_getElem hh] at h4
    exact Option.some.inj h4
  rw [h3]
  simpa using h2
/-- While the place is looked for: k ≤ befN, and behind the last 'before' it is found. -/
theorem befN_eq {z : Nat} {out : List Nat} {k : Nat} (h : k ≤ befN z out) (h2 : k = out.length ∨ setBef (vA out k) z = false) : k = befN z out := by
  have hl := befN_le z out
  rcases h2 with h2 | h2
  · omega
  · rcases Nat.lt_or_ge k (befN z out) with h3 | h3
    · rw [befN_lt h3] at h2; cases h2
    · omega
theorem befN_next {z : Nat} {out : List Nat} {k : Nat} (h : k ≤ befN z out) (hk : k < out.length) (h2 : setBef (vA out k) z = true) : k + 1 ≤ befN z out := by
  rcases Nat.lt_or_ge k (befN z out) with h3 | h3
  · omega
  · obtain rfl : k = befN z out := by omega
    rw [befN_at hk] at h2; cases h2
theorem all_takeV {p : Nat → Bool} {l : List Nat} {k : Nat} (h : k < l.length) : (l.take (k + 1)).all p = ((l.take k).all p && p (vA l k)) := by
  rw [List.take_succ_eq_append_getElem h, List.all_append, vA_get h]
  simp
/-- s[k:] of a slice that is read as a list. -/
theorem slice_from {w0 : World} (A : Option Addr) (q cb k : Nat) (out : List Nat) (hk : k ≤ q) (hcap : q ≤ cb) (hR : Rd w0 A (fl encV out)) (hq : q = out.length) (hA0 : A = none → q = 0) :
    ∃ A', (∀ W, Sem.run Tryd.prog (Instr.slice 22 (.slice A q cb) (some (.int .i64 (k : Int))) none none) W = .ok (.slice A' (q - k) (cb - k)) W) ∧ Rd w0 A' (fl encV (out.drop k)) ∧ (A' = none → q - k = 0) := by
  have hl1 : (k : Int) ≤ (q : Int) := by omega
  refine ⟨if cb = k then A else A.map (·.add k), fun W => ?_, ?_, ?_⟩
  · by_cases e : cb = k
    · subst e
      simp [go_sem, hl1]
    · simp [go_sem, hl1, e]
  · intro h0
    have h1 : 0 < (out.drop k).length := by rw [fl_length encV_len] at h0; omega
    rw [List.length_drop] at h1
    obtain ⟨b, o, rfl, hb, hc⟩ := rdV hR (by omega)
    rw [if_neg (by omega)]
    have h2 := rd_dropV hR k h0
    have e : (some (⟨b, o, none⟩ : Addr)).map (·.add k) = some ⟨b, o + k, none⟩ := by
      by_cases e0 : k = 0
      · subst e0; rfl
      · simp [Addr.add, e0]
    rw [e]; exact h2
  · intro h
    split at h
    · omega
    · cases hA : A with
      | none => have := hA0 hA; omega
      | some x => rw [hA] at h; cases h
set_option maxRecDepth 100000 in
set_option maxHeartbeats 4000000 in
theorem rgrp_any (L : Int) (a : Option Addr) (N c : Nat) (l : List Nat) (w : World) (hl : l.length = N) (hN : N ≤ 1152921504606846976) (hA : Rd w a (fl encV l)) (hF : FitV l) :
    Calls Tryd.prog 29 #[.agg #[.int .i64 L, .slice a N c]] w fun e w' => ∃ v', e = .returned (.tuple #[v', .int .i64 (chkT L l)]) ∧ (chkT L l ≠ 0 → v' = .slice none 0 0) ∧ (chkT L l = 0 → w'.ownsRow w.heap.size 44 1 v' (grpsN L.toNat l).length (fl encV (grpsN L.toNat l))) ∧ Below w.heap.size w w' := by
  have hb0 := bl_alloc (Below.refl _ w) (.cells #[.int .i64 L, .slice a N c] 32)
  have hB := Blk.new w #[.int .i64 L, .slice a N c] 32
  have HL := Lib.hid hl
  have HF := Lib.hid hF
  have HC := Lib.hid (rtchk_any L a N c l (w.alloc (.cells #[.int .i64 L, .slice a N c] 32)) hl hN (hA.bl hb0) hF)
  have HA := Lib.hid (hA.bl hb0)
  clear hl hA hF
  obtain ⟨X, hX⟩ : ∃ X, X = w.heap.size := ⟨_, rfl⟩
  go_enter Tryd.func29, Tryd.ntmps29
  go_wp2_with fail
  refine HC.out.mono ?_
  rintro e w2 ⟨rfl, hb2⟩
  have hb3 := bl_trans hb0 hb2
  have hB2 := hB.below hb2
  have HA2 := Lib.hid (HA.out.bl hb2)
  rw [← hX] at hB2 ⊢
  have HB3 := Lib.hid hb3
  have e1 : w2.cell? ⟨X, 1, none⟩ = some (.slice a N c) := hB2.cell 1
  have HBX := Lib.hid hB2
  have HX := Lib.hid hX
  obtain ⟨E, hE⟩ : ∃ E, chkT L l = E := ⟨_, rfl⟩
  rw [hE]
  have HE := Lib.hid hE
  clear hE hX hB2 hb3 hB hb0 hb2 HA HC
  by_cases h0 : E = 0
  · have d0 : (E == 0) = true := by simp [h0]
    subst h0
    have hk : 0 ≤ L ∧ L ≤ 32 ∧ l.length ≤ 64 := by
      have h := HE.out
      unfold chkT at h
      by_cases q : L < 0 ∨ 32 < L
      · rw [if_pos q] at h; omega
      · rw [if_neg q] at h
        by_cases q2 : 64 < l.length
        · rw [if_pos q2] at h; omega
        · exact ⟨by omega, by omega, by omega⟩
    obtain ⟨M, rfl⟩ : ∃ M : Nat, L = M := ⟨L.toNat, by omega⟩
    have hM : M ≤ 32 := by omega
    have hn64 : N ≤ 64 := by have := HL.out; omega
    have HGF : Hid (refG M l N = grpsN M l) := by have h := refG_eq (L := M) HF.out; rw [HL.out] at h; exact h
    clear hk d0
    go_upto_region 6 with fail
    go_loopw [6, 5] (fun x v wr => ∃ i : Nat, i ≤ N ∧ x = .int .i64 i ∧ Hid (wr.ownsRow w2.heap.size 44 1 v (refG M l i).length (fl encV (refG M l i))) ∧ Hid (Below w2.heap.size w2 wr)) (fun x _ _ => N - (intOf x).toNat)
    case atStart => exact ⟨0, by omega, rfl, World.ownsRow_nil _ _ _ _, Below.refl _ _⟩
    case round =>
      clear e1
      obtain ⟨i, hi, rfl, how, hbl⟩ := hrel
      have hbx := HBX.out.below hbl.out
      have e0 : wr.cell? ⟨X, 0, none⟩ = some (.int .i64 M) := hbx.cell 0
      have e1 : wr.cell? ⟨X, 1, none⟩ = some (.slice a N c) := hbx.cell 1
      by_cases hin : i < N
      · have HR := Lib.hid (HA2.out.bl hbl.out)
        obtain ⟨ba, oa, rfl, hba, hca⟩ := rdV HR.out (by rw [HL.out]; omega)
        have G := hca i (by rw [HL.out]; exact hin)
        have hx := HF.out i (by rw [HL.out]; exact hin)
        have hgs : Hid (refG M l (i + 1) = if okR M l (vA l i) (refG M l i) then insG (vA l i) (refG M l i) else refG M l i) := rfl
        have hlo := refG_le M l i
        obtain ⟨out, hout⟩ : ∃ x, x = refG M l i := ⟨_, rfl⟩
        rw [← hout] at how hgs hlo
        obtain ⟨q, hq⟩ : ∃ q, q = out.length := ⟨_, rfl⟩
        rw [← hq] at how hlo
        have HQ := Lib.hid hq
        have hok : Hid (∀ z, okR M l z out = (((decide (2 ≤ cntB z 64) && !decide (z = 2 ^ M - 1)) && l.all (fitB z)) && out.all (fun y => !decide (y = z)))) := fun _ => rfl
        have HFO : Hid (∀ j, j < q → vA out j < 18446744073709551616) := fun j hj => by
          have hm : vA out j ∈ grpL M l i := by
            rw [← (refG_ok (L := M) HF.out i (by rw [HL.out]; omega)).2, ← hout, vA_get (by rw [← hq]; exact hj)]
            exact List.getElem_mem _
          exact grpL_lt HF.out i _ hm
        have hcl := cntB_le (vA l i) 64
        have HSZ := Lib.hid (fun W => size_any (vA l i) W hx)
        have HRA := Lib.hid (fun W => rall_any M (some ⟨ba, oa, none⟩) N c W hM)
        obtain ⟨Ab, cb, rfl, _⟩ := owns_slice how.out
        clear hca hout hq hbx
        generalize vA l i = z at *
        have hok := Lib.hid (hok.out z)
        obtain ⟨cn, hcn⟩ : ∃ x, cntB z 64 = x := ⟨_, rfl⟩
        rw [hcn] at HSZ hcl hok
        clear hcn
        have hok := Lib.hid hok.out
        obtain ⟨al, hal⟩ : ∃ x, 2 ^ M - 1 = x := ⟨_, rfl⟩
        rw [hal] at HRA hok
        clear hal
        go_upto_region 9 with fail
        go_cut [8] (fun s wx => s = .bool (decide (2 ≤ cn) && !decide (z = al)) ∧ Below wr.heap.size wr wx)
        case first =>
          clear hok
          by_cases h2 : 2 ≤ cn
          · have d1 : decide ((2 : Int) ≤ (cn : Int)) = true := decide_eq_true (by omega)
            have d2 : decide (2 ≤ cn) = true := decide_eq_true h2
            have HD2 := Lib.hid d2
            by_cases h3 : z = al
            · have t1 : ((z : Int) != (al : Int)) = false := by simp [h3]
              have HD3 := Lib.hid (decide_eq_true h3)
              clear h3
              go_wp2_with fail
              refine (HSZ.out _).mono ?_
              rintro e w3 ⟨rfl, rfl⟩
              go_wp2_with fail
              refine (HRA.out _).mono ?_
              rintro e w4 ⟨rfl, hb4⟩
              go_wp2_with fail
              go_meet
              exact ⟨by rw [HD2.out, HD3.out]; rfl, hb4⟩
            · have t1 : ((z : Int) != (al : Int)) = true := by simp; omega
              have HD3 := Lib.hid (decide_eq_false h3)
              clear h3
              go_wp2_with fail
              refine (HSZ.out _).mono ?_
              rintro e w3 ⟨rfl, rfl⟩
              go_wp2_with fail
              refine (HRA.out _).mono ?_
              rintro e w4 ⟨rfl, hb4⟩
              go_wp2_with fail
              go_meet
              exact ⟨by rw [HD2.out, HD3.out]; rfl, hb4⟩
          · have d1 : decide ((2 : Int) ≤ (cn : Int)) = false := decide_eq_false (by omega)
            have d2 : decide (2 ≤ cn) = false := decide_eq_false h2
            have HD2 := Lib.hid d2
            go_wp2_with fail
            refine (HSZ.out _).mono ?_
            rintro e w3 ⟨rfl, rfl⟩
            go_wp2_with fail
            go_meet
            exact ⟨by rw [HD2.out]; rfl, Below.refl _ _⟩
        case rest =>
          obtain ⟨rfl, hbc⟩ := hcut
          have HOW := Lib.hid (owns_below how.out hbc)
          have HBC := Lib.hid (bl_trans hbl.out hbc)
          have HRC := Lib.hid (HR.out.bl hbc)
          have f1 : wc.cell? ⟨X, 1, none⟩ = some (.slice (some ⟨ba, oa, none⟩) N c) := (HBX.out.below HBC.out).cell 1
          obtain ⟨b12, hb12⟩ : ∃ b, (decide (2 ≤ cn) && !decide (z = al)) = b := ⟨_, rfl⟩
          rw [hb12] at hok ⊢
          clear e0 e1 hb12 hbc how hbl HR G
          obtain ⟨wo, rfl⟩ : ∃ x : World, x = wc := ⟨_, rfl⟩
          go_upto_region 11 with fail
          go_loopw [9, 8] (fun x v wx => ∃ k : Nat, k ≤ N ∧ x = .int .i64 k ∧ v = .bool (b12 && (l.take k).all (fitB z)) ∧ wx = wo) (fun x _ _ => N - (intOf x).toNat)
          case atStart => exact ⟨0, by omega, rfl, by simp, rfl⟩
          case round =>
            obtain ⟨k, hk, rfl, rfl, rfl⟩ := hrel
            by_cases hkn : k < N
            · obtain ⟨b', o', e', hb', hca⟩ := rdV HRC.out (by rw [HL.out]; omega)
              have e2 := Option.some.inj e'
              obtain rfl := (Addr.mk.inj e2).1
              obtain rfl := (Addr.mk.inj e2).2.1
              have G := hca k (by rw [HL.out]; exact hkn)
              have hy := HF.out k (by rw [HL.out]; exact hkn)
              have hst := Lib.hid (all_takeV (p := fitB z) (l := l) (k := k) (by rw [HL.out]; exact hkn))
              have HFT := Lib.hid (fun W => rfit_any z (vA l k) W hx hy)
              clear hca e' e2 hy
              generalize vA l k = y at *
              obtain ⟨fb, hfb⟩ : ∃ b, fitB z y = b := ⟨_, rfl⟩
              rw [hfb] at HFT hst
              clear hfb
              obtain ⟨ok, hok2⟩ : ∃ b, (b12 && (l.take k).all (fitB z)) = b := ⟨_, rfl⟩
              have HN2 : Hid ((b12 && (l.take (k + 1)).all (fitB z)) = (ok && fb)) := by show _ = _; rw [hst.out, ← Bool.and_assoc, hok2]
              rw [hok2]
              clear hok2 hst
              cases ok with
              | true =>
                go_wp2_with fail
                refine (HFT.out _).mono ?_
                rintro e w3 ⟨rfl, rfl⟩
                go_wp2_with fail
                go_roundw
                case rel => exact ⟨k + 1, by omega, by go_num, by rw [HN2.out]; rfl, by trivial⟩
                case measure => simp [intOf]; omega
              | false =>
                go_wp2_with fail
                go_roundw
                case rel => exact ⟨k + 1, by omega, by go_num, by rw [HN2.out]; rfl, by trivial⟩
                case measure => simp [intOf]; omega
            · obtain rfl : N = k := by omega
              have hall : l.take N = l := List.take_of_length_le (by rw [HL.out]; exact Nat.le_refl _)
              rw [hall]
              obtain ⟨b13, hb13⟩ : ∃ b, (b12 && l.all (fitB z)) = b := ⟨_, rfl⟩
              rw [hb13] at hok ⊢
              clear hb13 hall
              obtain ⟨wp, rfl⟩ : ∃ x : World, x = wr := ⟨_, rfl⟩
              go_upto_region 15 with fail
              go_loopw [10, 8] (fun x v wx => ∃ k : Nat, k ≤ q ∧ x = .int .i64 k ∧ v = .bool (b13 && (out.take k).all (fun y => !decide (y = z))) ∧ wx = wp) (fun x _ _ => q - (intOf x).toNat)
              case atStart => exact ⟨0, by omega, rfl, by simp, rfl⟩
              case round =>
                obtain ⟨k, hk, rfl, rfl, rfl⟩ := hrel
                by_cases hkq : k < q
                · obtain ⟨b8, o8, rfl, _, hc8⟩ := rdV (rd_of_owns HOW.out) (by rw [← HQ.out]; omega)
                  have G := hc8 k (by rw [← HQ.out]; exact hkq)
                  have hst := Lib.hid (all_takeV (p := fun y => !decide (y = z)) (l := out) (k := k) (by rw [← HQ.out]; exact hkq))
                  clear hc8
                  generalize vA out k = y at *
                  obtain ⟨ok, hok2⟩ : ∃ b, (b13 && (out.take k).all (fun y => !decide (y = z))) = b := ⟨_, rfl⟩
                  have HN2 : Hid ((b13 && (out.take (k + 1)).all (fun y => !decide (y = z))) = (ok && !decide (y = z))) := by show _ = _; rw [hst.out, ← Bool.and_assoc, hok2]
                  rw [hok2]
                  clear hok2 hst
                  cases ok with
                  | true =>
                    by_cases hyz : y = z
                    · have t1 : ((y : Int) != (z : Int)) = false := by simp [hyz]
                      have HD := Lib.hid (decide_eq_true hyz)
                      clear hyz
                      go_wp2_with fail
                      go_roundw
                      case rel => exact ⟨k + 1, by omega, by go_num, by rw [HN2.out, HD.out]; rfl, by trivial⟩
                      case measure => simp [intOf]; omega
                    · have t1 : ((y : Int) != (z : Int)) = true := by simp; omega
                      have HD := Lib.hid (decide_eq_false hyz)
                      clear hyz
                      go_wp2_with fail
                      go_roundw
                      case rel => exact ⟨k + 1, by omega, by go_num, by rw [HN2.out, HD.out]; rfl, by trivial⟩
                      case measure => simp [intOf]; omega
                  | false =>
                    go_wp2_with fail
                    go_roundw
                    case rel => exact ⟨k + 1, by omega, by go_num, by rw [HN2.out]; rfl, by trivial⟩
                    case measure => simp [intOf]; omega
                · obtain rfl : q = k := by omega
                  have hall : out.take q = out := List.take_of_length_le (by rw [← HQ.out]; exact Nat.le_refl _)
                  rw [hall]
                  rw [← hok.out]
                  obtain ⟨kp, hkp⟩ : ∃ b, okR M l z out = b := ⟨_, rfl⟩
                  rw [hkp] at hgs ⊢
                  clear hkp hall hok
                  cases kp with
                  | false =>
                    have hg2 : Hid (refG M l (i + 1) = out) := hgs.out
                    go_wp2_with fail
                    go_roundw
                    case rel => exact ⟨i + 1, by omega, by go_num, by rw [hg2.out, ← HQ.out]; exact HOW, HBC⟩
                    case measure => simp [intOf]; omega
                  | true =>
                    have hg2 : Hid (refG M l (i + 1) = insG z out) := hgs.out
                    have hble := befN_le z out
                    rw [← HQ.out] at hble
                    obtain ⟨wq, rfl⟩ : ∃ x : World, x = wr := ⟨_, rfl⟩
                    go_upto_block 6 with fail
                    go_cut [11] (fun s wx => s = .int .i64 (befN z out : Nat) ∧ wx = wq)
                    case first =>
                      go_upto_region 20 with fail
                      go_loopw [11] (fun x wx => ∃ k : Nat, k ≤ befN z out ∧ x = .int .i64 k ∧ wx = wq) (fun x _ => q - (intOf x).toNat)
                      case atStart => exact ⟨0, by omega, rfl, rfl⟩
                      case round =>
                        obtain ⟨k, hk, rfl, rfl⟩ := hrel
                        have HEND : Hid (∀ k, k = befN z out → True) := fun _ _ => trivial
                        by_cases hkq : k < q
                        · obtain ⟨b8, o8, rfl, _, hc8⟩ := rdV (rd_of_owns HOW.out) (by rw [← HQ.out]; omega)
                          have G := hc8 k (by rw [← HQ.out]; exact hkq)
                          have hy := HFO.out k hkq
                          have HBE := Lib.hid (fun W => before_any (vA out k) z W hy hx)
                          have HNX : Hid (setBef (vA out k) z = true → k + 1 ≤ befN z out) := fun h => befN_next hk (by rw [← HQ.out]; exact hkq) h
                          have HEQ : Hid (setBef (vA out k) z = false → k = befN z out) := fun h => befN_eq hk (.inr h)
                          clear hc8 hy
                          generalize vA out k = y at *
                          obtain ⟨sb, hsb⟩ : ∃ b, setBef y z = b := ⟨_, rfl⟩
                          rw [hsb] at HBE HNX HEQ
                          clear hsb
                          cases sb with
                          | true =>
                            have hk1 := HNX.out rfl
                            go_wp2_with fail
                            refine (HBE.out _).mono ?_
                            rintro e w3 ⟨rfl, rfl⟩
                            go_wp2_with fail
                            go_roundw
                            case rel => exact ⟨k + 1, by omega, by go_num, by trivial⟩
                            case measure => simp [intOf]; omega
                          | false =>
                            have hk1 := Lib.hid (HEQ.out rfl)
                            go_wp2_with fail
                            refine (HBE.out _).mono ?_
                            rintro e w3 ⟨rfl, rfl⟩
                            go_wp2_with fail
                            go_meet
                            exact ⟨by rw [← hk1.out], rfl⟩
                        · have hk1 := Lib.hid (befN_eq hk (.inl (by rw [← HQ.out]; omega)))
                          go_wp2_with fail
                          go_meet
                          exact ⟨by rw [← hk1.out], rfl⟩
                    case rest =>
                      obtain ⟨rfl, rfl⟩ := hcut
                      obtain ⟨k, hk⟩ : ∃ k, k = befN z out := ⟨_, rfl⟩
                      rw [← hk] at hble ⊢
                      have HK := Lib.hid hk
                      clear hk
                      have hcap : q ≤ cb ∧ cb ≤ 9223372036854775807 := by
                        rcases HOW.out.2 with ⟨hv, hn⟩ | ⟨g, cap', cur, hv, hg, hh, hn, hm, _⟩
                        · cases hv; exact ⟨by omega, by omega⟩
                        · cases hv; exact ⟨hn, by unfold maxLen at hm; omega⟩
                      obtain ⟨hcap1, hcap2⟩ := hcap
                      have hkcb : k ≤ cb := by omega
                      have hown0 : (wc.alloc (.cells #[] 44)).ownsRow wc.heap.size 44 1 (.slice (some ⟨wc.heap.size, 0, none⟩) 0 0) 0 (fl encV []) := owns_made (k := 1) (cs := #[]) (Nat.le_refl _) rfl (by unfold maxLen; omega)
                      have hb1 := bl_alloc (Below.refl wc.heap.size wc) (.cells #[] 44)
                      have HRO := Lib.hid (rd_of_owns HOW.out)
                      have HA0 : Hid (Ab = none → q = 0) := fun e => by
                        rcases HOW.out.2 with ⟨hv, hn⟩ | ⟨g, cap', cur, hv, _⟩
                        · exact hn
                        · rw [e] at hv; cases hv
                      have HT : Hid (k = (out.take k).length) := by show _ = _; rw [List.length_take, ← HQ.out]; omega
                      obtain ⟨w5, hw5⟩ : ∃ x, x = wc.alloc (.cells #[] 44) := ⟨_, rfl⟩
                      obtain ⟨B5, hB5⟩ : ∃ x, x = wc.heap.size := ⟨_, rfl⟩
                      have HOWN0 := Lib.hid hown0
                      have HB1 := Lib.hid hb1
                      have HRT := Lib.hid (rd_takeV (HRO.out.bl hb1) k)
                      clear hown0 hb1 hw5 hB5
                      go_upto_region 23 with (at_builtin; refine wpList_pushs rfl encV_len (by decide) encV_oneL Tryd.underlying22 info_V rfl (.tmp 87) (.tmp 90) rfl (.slice (some ⟨wc.heap.size, 0, none⟩) 0 0) [] 0 rfl rfl HOWN0.out Ab k cb (out.take k) HT.out rfl HRT.out (fun e => by have := HA0.out e; omega) (by omega) (by decide) HB1.out.size ?_; intro v1 w6 h1 h2 h3; rw [Nat.zero_add, List.nil_append] at h1; have H1 := Lib.hid h1; have H2 := Lib.hid h2; clear h1 h2 h3)
                      have HOO := Lib.hid (fun (r : Nat) (e : v1.ownBlock = some r) => (H1.out.lt r e).1)
                      have HB6 := Lib.hid (bl_grown HB1.out H2.out (fun r e => by have := (HOWN0.out.lt r e).1; exact this))
                      have hbase6 : wc.heap.size ≤ (w6.alloc (.cells #[.int .u64 z] 44)).heap.size := (bl_alloc HB6.out _).size
                      go_upto_region 24 with (at_builtin; refine push_V rfl (.tmp 92) (.tmp 94) rfl wc.heap.size v1 (out.take k) k HT.out rfl (H1.out.alloc _) _ _ z rfl (Blk.new _ _ _) (by omega) hbase6 ?_; intro g7 c7 w7 h1 h2 h3 h4; have H71 := Lib.hid h1; have H72 := Lib.hid h2; clear h1 h2 h3)
                      have HB7 := Lib.hid (bl_grown (bl_alloc HB6.out (.cells #[.int .u64 z] 44)) H72.out (fun r e => HOO.out r e))
                      obtain ⟨A', hsl, hRA', hA'0⟩ := slice_from (w0 := w7) Ab q cb k out hble hcap1 (HRO.out.bl HB7.out) HQ.out HA0.out
                      have HRA2 := Lib.hid hRA'
                      have HDL : Hid (q - k = (out.drop k).length) := by show _ = _; rw [List.length_drop, ← HQ.out]
                      have HT2 : Hid (k + 1 = (out.take k ++ [z]).length) := by show _ = _; rw [List.length_append, ← HT.out]; rfl
                      clear hRA'
                      go_wp2_with (at_builtin; refine wpList_pushs rfl encV_len (by decide) encV_oneL Tryd.underlying22 info_V rfl (.tmp 96) (.tmp 99) rfl (.slice (some ⟨g7, 0, none⟩) (k + 1) c7) (out.take k ++ [z]) (k + 1) HT2.out rfl H71.out A' (q - k) (cb - k) (out.drop k) HDL.out rfl HRA2.out hA'0 (by omega) (by decide) HB7.out.size ?_; intro v8 w8 h1 h2 h3; have H81 := Lib.hid h1; have H82 := Lib.hid h2; clear h1 h2 h3)
                      have HB8 := Lib.hid (bl_grown HB7.out H82.out (fun r e => (H71.out.lt r e).1))
                      have hlen : (insG z out).length = k + 1 + (q - k) := by
                        unfold insG
                        rw [← HK.out, List.length_append, ← HT2.out, ← HDL.out]
                      have hin2 : out.take k ++ [z] ++ out.drop k = insG z out := by unfold insG; rw [← HK.out]
                      have h9 : w8.ownsRow w2.heap.size 44 1 v8 (refG M l (i + 1)).length (fl encV (refG M l (i + 1))) := by
                        rw [hg2.out, hlen, ← hin2]
                        exact owns_mono H81.out HBC.out.size
                      go_roundw
                      case rel => exact ⟨i + 1, by omega, by go_num, h9, bl_trans HBC.out HB8.out⟩
                      case measure => simp [intOf]; omega
      · obtain rfl : N = i := by omega
        obtain ⟨Ab, cb, rfl, _⟩ := owns_slice how.out
        have HO9 := Lib.hid (owns_mono how.out HB3.out.size)
        rw [HGF.out] at HO9 ⊢
        obtain ⟨z, hz⟩ : ∃ z, z = (grpsN M l).length := ⟨_, rfl⟩
        rw [← hz] at HO9 ⊢
        have HZ := Lib.hid hz
        have HB9 := Lib.hid (bl_trans HB3.out hbl.out)
        clear how hbl hz
        go_wp2_with fail
        exact bodyPost_ret (v := .tuple #[.slice Ab z cb, .int .i64 0]) (by simp [results, Tryd.results29, go_sem]) rfl ⟨_, by rw [HE.out], fun h => absurd HE.out h, fun _ => by rw [Int.toNat_natCast, ← HZ.out]; exact HO9.out, HB9.out⟩
  · have d0 : (E == 0) = false := by simp [h0]
    have d1 : (E != 0) = true := by simp [h0]
    have h00 := Lib.hid h0
    clear h0
    go_wp2_with fail
    exact bodyPost_ret (v := .tuple #[.slice none 0 0, .int .i64 E]) (by simp [results, Tryd.results29, go_sem]) rfl ⟨_, by rw [HE.out], fun _ => rfl, fun h => absurd (HE.out.symm.trans h) h00.out, HB3.out⟩
end Go.Proofs.YtnabbmdhhddfbaaDoor
namespace Go.Proofs.YtnabbmdhhddfbaaDoor
open Go Go.RowKit Go.Shelf
set_option maxHeartbeats 1000000 in
theorem few_any (L : Int) (a : Option Addr) (N c : Nat) (w : World) : Calls Tryd.prog 13 #[.agg #[.int .i64 L, .slice a N c]] w fun e w' => e = .returned (.bool (decide (N ≤ 20) || (decide (64 < N) && decide (N < 70)))) ∧ Below w.heap.size w w' := by
  have hb0 : Below w.heap.size w (w.alloc (.cells #[.int .i64 L, .slice a N c] 24)) := bl_alloc (Below.refl _ _) _
  by_cases h1 : N ≤ 20
  · have d1 : decide ((N : Int) ≤ 20) = true := decide_eq_true (by omega)
    have HD := Lib.hid (decide_eq_true h1)
    clear h1
    go_enter Tryd.func13, Tryd.ntmps13
    go_wp2_with fail
    go_ret
    exact ⟨by rw [HD.out]; rfl, hb0⟩
  · have d1 : decide ((N : Int) ≤ 20) = false := decide_eq_false (by omega)
    have HD := Lib.hid (decide_eq_false h1)
    by_cases h2 : 64 < N
    · have d2 : decide (64 < (N : Int)) = true := decide_eq_true (by omega)
      have HD2 := Lib.hid (decide_eq_true h2)
      by_cases h3 : N < 70
      · have d3 : decide ((N : Int) < 70) = true := decide_eq_true (by omega)
        have HD3 := Lib.hid (decide_eq_true h3)
        clear h1 h2 h3
        go_enter Tryd.func13, Tryd.ntmps13
        go_wp2_with fail
        go_ret
        exact ⟨by rw [HD.out, HD2.out, HD3.out]; rfl, hb0⟩
      · have d3 : decide ((N : Int) < 70) = false := decide_eq_false (by omega)
        have HD3 := Lib.hid (decide_eq_false h3)
        clear h1 h2 h3
        go_enter Tryd.func13, Tryd.ntmps13
        go_wp2_with fail
        go_ret
        exact ⟨by rw [HD.out, HD2.out, HD3.out]; rfl, hb0⟩
    · have d2 : decide (64 < (N : Int)) = false := decide_eq_false (by omega)
      have HD2 := Lib.hid (decide_eq_false h2)
      clear h1 h2
      go_enter Tryd.func13, Tryd.ntmps13
      go_wp2_with fail
      go_ret
      exact ⟨by rw [HD.out, HD2.out]; rfl, hb0⟩
/-- What both answer. -/
def gpL (L : Int) (l : List Nat) : List Nat := if chkT L l = 0 then grpsN L.toNat l else []
def GpPost (w : World) (L : Int) (l : List Nat) (e : Ending) (w' : World) : Prop := ∃ v', e = .returned (.tuple #[v', .int .i64 (chkT L l)]) ∧ w'.ownsRow w.heap.size 44 1 v' (gpL L l).length (fl encV (gpL L l)) ∧ Below w.heap.size w w'
theorem gpPost_of {w w' : World} {L : Int} {l : List Nat} {e : Ending} (h : ∃ v', e = .returned (.tuple #[v', .int .i64 (chkT L l)]) ∧ (chkT L l ≠ 0 → v' = .slice none 0 0) ∧ (chkT L l = 0 → w'.ownsRow w.heap.size 44 1 v' (grpsN L.toNat l).length (fl encV (grpsN L.toNat l))) ∧ Below w.heap.size w w') : GpPost w L l e w' := by
  obtain ⟨v', h1, h2, h3, h4⟩ := h
  refine ⟨v', h1, ?_, h4⟩
  unfold gpL
  by_cases q : chkT L l = 0
  · rw [if_pos q]; exact h3 q
  · rw [if_neg q, h2 q]; exact World.ownsRow_nil _ _ _ _
theorem gpL_le (L : Int) (l : List Nat) : (gpL L l).length ≤ 64 := by
  unfold gpL
  by_cases q : chkT L l = 0
  · rw [if_pos q, grpsN_len]
    have h1 := grpsU_le L.toNat l
    unfold chkT at q
    by_cases q1 : L < 0 ∨ 32 < L
    · rw [if_pos q1] at q; omega
    · rw [if_neg q1] at q
      by_cases q2 : 64 < l.length
      · rw [if_pos q2] at q; omega
      · omega
  · rw [if_neg q]; simp
set_option maxRecDepth 100000 in
set_option maxHeartbeats 4000000 in
theorem gplaw_any (L : Int) (a : Option Addr) (N c : Nat) (l : List Nat) (w : World) (hl : l.length = N) (hN : N ≤ 1152921504606846976) (hA : Rd w a (fl encV l)) (hF : FitV l) :
    Calls Tryd.prog 7 #[.agg #[.int .i64 L, .slice a N c]] w fun e w' => e = .returned (.bool true) ∧ Below w.heap.size w w' := by
  have hb0 := bl_alloc (Below.refl _ w) (.cells #[.int .i64 L, .slice a N c] 24)
  have hB := Blk.new w #[.int .i64 L, .slice a N c] 24
  have HL := Lib.hid hl
  have HF := Lib.hid hF
  have HA := Lib.hid (hA.bl hb0)
  have HB0 := Lib.hid hb0
  have HBX := Lib.hid hB
  have HW := Lib.hid works_any
  have hle := gpL_le L l
  clear hl hA hF hb0 hB
  obtain ⟨X, hX⟩ : ∃ x, x = w.heap.size := ⟨_, rfl⟩
  rw [← hX] at HBX
  go_enter Tryd.func7, Tryd.ntmps7
  go_wp2_with fail
  refine (few_any L a N c _).mono ?_
  rintro e w1 ⟨rfl, hb1⟩
  have HB1 := Lib.hid (bl_trans HB0.out hb1)
  have HA1 := Lib.hid (HA.out.bl hb1)
  have HBX1 := Lib.hid (HBX.out.below hb1)
  rw [← hX]
  have HX := Lib.hid hX
  clear hb1 hX HB0 HA HBX
  obtain ⟨fb, hfb⟩ : ∃ b, (decide (N ≤ 20) || (decide (64 < N) && decide (N < 70))) = b := ⟨_, rfl⟩
  rw [hfb]
  clear hfb
  cases fb with
  | false =>
    go_wp2_with fail
    refine (HW.out _).mono ?_
    rintro e w2 ⟨rfl, hb2⟩
    go_wp2_with fail
    go_ret
    exact ⟨rfl, bl_trans HB1.out hb2⟩
  | true =>
    have e0 : w1.cell? ⟨X, 0, none⟩ = some (.int .i64 L) := HBX1.out.cell 0
    have e1 : w1.cell? ⟨X, 1, none⟩ = some (.slice a N c) := HBX1.out.cell 1
    go_wp2_with fail
    refine (grp_any L a N c l w1 HL.out hN HA1.out HF.out).mono ?_
    rintro e w2 h2
    obtain ⟨v, rfl, ho, hb2⟩ := gpPost_of h2
    have HB2 := Lib.hid (bl_trans HB1.out hb2)
    have HA2 := Lib.hid (HA1.out.bl hb2)
    have HBX2 := Lib.hid (HBX1.out.below hb2)
    have HO2 := Lib.hid ho
    have f0 : w2.cell? ⟨X, 0, none⟩ = some (.int .i64 L) := HBX2.out.cell 0
    have f1 : w2.cell? ⟨X, 1, none⟩ = some (.slice a N c) := HBX2.out.cell 1
    clear h2 ho hb2 e0 e1 HB1 HA1 HBX1
    go_wp2_with fail
    refine (other_any L a N c _).mono ?_
    rintro e w3 ⟨rfl, hb3⟩
    have HB3 := Lib.hid (bl_trans HB2.out hb3)
    have HA3 := Lib.hid (HA2.out.bl hb3)
    have HO3 := Lib.hid (owns_below HO2.out hb3)
    clear hb3 f0 f1 HB2 HA2 HBX2 HO2
    go_wp2_with fail
    refine (rgrp_any L a N c l w3 HL.out hN HA3.out HF.out).mono ?_
    rintro e w4 h4
    obtain ⟨v', rfl, ho4, hb4⟩ := gpPost_of h4
    have ho3 := owns_below HO3.out hb4
    obtain ⟨A1, c1, rfl, _⟩ := owns_slice ho3
    obtain ⟨A2, c2, rfl, _⟩ := owns_slice ho4
    have HB4 := Lib.hid (bl_trans HB3.out hb4)
    have HR1 := Lib.hid (rd_of_owns ho3)
    have HR2 := Lib.hid (rd_of_owns ho4)
    obtain ⟨zs, hzs⟩ : ∃ z, z = gpL L l := ⟨_, rfl⟩
    rw [← hzs] at HR1 HR2 hle ⊢
    obtain ⟨z, hz⟩ : ∃ z, z = zs.length := ⟨_, rfl⟩
    obtain ⟨E, hE⟩ : ∃ z, z = chkT L l := ⟨_, rfl⟩
    rw [← hz] at hle ⊢
    rw [← hE]
    have HZ := Lib.hid hz
    clear h4 ho3 ho4 hb4 HB3 HO3 hz hE hzs HA3
    go_wp2_with fail
    go_loopw [7] (fun x wx => ∃ k : Nat, k ≤ z ∧ x = .int .i64 k ∧ Hid (Below w4.heap.size w4 wx)) (fun x _ => z - (intOf x).toNat)
    case atStart => exact ⟨0, by omega, rfl, Below.refl _ _⟩
    case round =>
      obtain ⟨k, hk, rfl, hb⟩ := hrel
      by_cases hkz : k < z
      · obtain ⟨b1, o1, rfl, _, hc1⟩ := rdV (HR1.out.bl hb.out) (by rw [← HZ.out]; omega)
        obtain ⟨b2, o2, rfl, _, hc2⟩ := rdV (HR2.out.bl hb.out) (by rw [← HZ.out]; omega)
        have g1 := hc1 k (by rw [← HZ.out]; exact hkz)
        have g2 := hc2 k (by rw [← HZ.out]; exact hkz)
        clear hc1 hc2
        generalize vA zs k = y at *
        have t1 : ((y : Int) != (y : Int)) = false := by simp
        go_wp2_with fail
        go_quiet (fail)
        go_wp2_with fail
        go_roundw
        case rel => exact ⟨k + 1, by omega, by go_num, bl_drewN hb.out nq⟩
        case measure => simp [intOf]; omega
      · go_wp2_with fail
        refine (HW.out _).mono ?_
        rintro e w6 ⟨rfl, hb6⟩
        go_wp2_with fail
        go_ret
        exact ⟨rfl, bl_trans HB4.out (bl_trans hb.out hb6)⟩
end Go.Proofs.YtnabbmdhhddfbaaDoor
namespace Go.Proofs.YtnabbmdhhddfbaaDoor
open Go Go.RowKit Go.Shelf
theorem pos1_any (x : Int) (w : World) : Calls Tryd.prog 54 #[.int .i64 x] w fun e w' => e = .returned (.bool (decide (0 < x))) ∧ w' = w := by
  go_enter Tryd.func54, Tryd.ntmps54
  go_wp2_with fail
  go_ret
  exact ⟨rfl, rfl⟩
/-- Was none lost? -/
def fitsB (L : Int) (l : List Nat) (t : List Nd) : Bool := decide (chkP L l t = 0) && !(iN (lossL L l t)).any (fun x => decide (0 < x))
theorem lossL_le (L : Int) (l : List Nat) (t : List Nd) : (lossL L l t).length ≤ l.length := by
  unfold lossL; split <;> simp
set_option maxHeartbeats 1000000 in
theorem pfits_any (L : Int) (a : Option Addr) (N c : Nat) (l : List Nat) (b : Option Addr) (n d : Nat) (t : List Nd) (w : World) (hl : l.length = N) (hN : N ≤ 1152921504606846976) (hA : Rd w a (fl encV l)) (hF : FitV l)
    (ht : t.length = n) (hn60 : n ≤ 1152921504606846976) (hnd : n ≤ d) (hd : d ≤ 9223372036854775807) (hB : Rd w b (fl encNd t)) (hS : ∀ v, v < n → (nS t v).size ≤ 9223372036854775807) :
    Calls Tryd.prog 26 #[.agg #[.int .i64 L, .slice a N c], .slice b n d] w fun e w' => e = .returned (.tuple #[.bool (fitsB L l t), .int .i64 (chkP L l t)]) ∧ Below w.heap.size w w' := by
  have hb0 := bl_alloc (Below.refl _ w) (.cells #[.int .i64 L, .slice a N c] 24)
  have HC := Lib.hid (losses_any L a N c l b n d t (w.alloc (.cells #[.int .i64 L, .slice a N c] 24)) hl hN (hA.bl hb0) hF ht hn60 hnd hd (hB.bl hb0) hS)
  have HLE : Hid ((lossL L l t).length ≤ N) := by show _ ≤ _; rw [← hl]; exact lossL_le L l t
  have HB0 := Lib.hid hb0
  clear hl hA hF ht hn60 hnd hd hB hS hb0
  go_enter Tryd.func26, Tryd.ntmps26
  go_wp2_with fail
  refine HC.out.mono ?_
  rintro e w2 ⟨v, rfl, ho, hb2⟩
  have HB2 := Lib.hid (bl_trans HB0.out hb2)
  have hle := HLE.out
  have HFB : Hid (fitsB L l t = (decide (chkP L l t = 0) && !(iN (lossL L l t)).any (fun x => decide (0 < x)))) := rfl
  obtain ⟨ls, hls⟩ : ∃ x, x = lossL L l t := ⟨_, rfl⟩
  obtain ⟨E, hE⟩ : ∃ x, x = chkP L l t := ⟨_, rfl⟩
  rw [← hls] at ho hle HFB
  rw [← hE] at HFB ⊢
  obtain ⟨z, hz⟩ : ∃ x, x = ls.length := ⟨_, rfl⟩
  rw [← hz] at ho hle
  obtain ⟨A1, c1, rfl, _⟩ := owns_slice ho
  have HCF := Lib.hid (containsI_any 54 (enters_of Tryd.func54 (by kernel_rfl) rfl) #[] (fun x => decide (0 < x)) A1 z c1 (iN ls) w2 (by rw [iN_len, ← hz]) (by omega) (rd_of_owns ho) (fun i _ W _ => (pos1_any (iA (iN ls) i) W).mono fun e w' h => ⟨h.1, by rw [h.2]; exact Below.refl _ _⟩))
  have HE := Lib.hid hE
  clear HC HB0 HLE ho hb2 hls hE hz
  by_cases h0 : E = 0
  · subst h0
    go_wp2_with fail
    refine HCF.out.mono ?_
    rintro e w3 ⟨rfl, hb3⟩
    obtain ⟨bb, hbb⟩ : ∃ x, (iN ls).any (fun x => decide (0 < x)) = x := ⟨_, rfl⟩
    rw [hbb] at HFB ⊢
    have HB3 := Lib.hid (bl_trans HB2.out hb3)
    clear hbb hb3 HCF
    go_wp2_with fail
    exact bodyPost_ret (v := .tuple #[.bool (!bb), .int .i64 0]) (by simp [results, Tryd.results26, go_sem]) rfl ⟨by rw [← HE.out, HFB.out]; simp, HB3.out⟩
  · have d0 : (E == 0) = false := by simp [h0]
    have d1 : decide (E = 0) = false := by simp [h0]
    have HD := Lib.hid d1
    clear h0 HCF
    go_wp2_with fail
    exact bodyPost_ret (v := .tuple #[.bool false, .int .i64 E]) (by simp [results, Tryd.results26, go_sem]) rfl ⟨by rw [← HE.out, HFB.out, HD.out]; rfl, HB2.out⟩
end Go.Proofs.YtnabbmdhhddfbaaDoor
namespace Go.Proofs.YtnabbmdhhddfbaaDoor
open Go Go.RowKit Go.Shelf
set_option maxRecDepth 100000 in
set_option maxHeartbeats 2000000 in
theorem rkids_any (v : Nat) (a : Option Addr) (n c : Nat) (t : List Nd) (w : World) (hn : t.length = n) (hN : n ≤ 1000) (hA : Rd w a (fl encNd t)) (h0 : nP t 0 < 0) :
    Calls Tryd.prog 85 #[.slice a n c, .int .i64 v] w fun e w' => ∃ x, e = .returned x ∧ w'.ownsRow w.heap.size 3 1 x (famL t n v).length (fl encI (iN (famL t n v))) ∧ Below w.heap.size w w' := by
  have HN := Lib.hid hn
  have HA := Lib.hid hA
  have H0 := Lib.hid h0
  clear hn hA h0
  go_enter Tryd.func85, Tryd.ntmps85
  go_wp2_with fail
  go_loopw [6, 5] (fun x u wr => ∃ k q : Nat, k ≤ n ∧ x = .int .i64 k ∧ q = (famL t k v).length ∧ Hid (wr.ownsRow w.heap.size 3 1 u q (fl encI (iN (famL t k v)))) ∧ Hid (Below w.heap.size w wr)) (fun x _ _ => n - (intOf x).toNat)
  case atStart => exact ⟨0, 0, by omega, rfl, rfl, World.ownsRow_nil _ _ _ _, Below.refl _ _⟩
  case round =>
    obtain ⟨k, q, hk, rfl, hq, how, hbl⟩ := hrel
    obtain ⟨Au, cu, rfl, _⟩ := owns_slice how.out
    have HQ := Lib.hid hq
    by_cases hlt : k < n
    · obtain ⟨b, o, rfl, hb, hc⟩ := rdNd (HA.out.bl hbl.out) (by rw [HN.out]; omega)
      obtain ⟨G1, G2⟩ := hc k (by rw [HN.out]; exact hlt)
      have hql : q ≤ k := by rw [hq]; exact famL_le t k v
      have HST := Lib.hid (famL_snoc t k v)
      have HKB : Hid (kidB t v k = decide (nP t k = (v : Int))) := by
        show _ = _
        unfold kidB
        by_cases e : 0 < k
        · simp [e]
        · obtain rfl : k = 0 := by omega
          have := H0.out
          rw [decide_eq_false (show ¬ nP t 0 = (v : Int) by omega)]; simp
      rw [HKB.out] at HST
      have hsz := hbl.out.size
      clear hc HKB hq
      generalize nP t k = p at *
      by_cases e : p = (v : Int)
      · have d1 : (p == (v : Int)) = true := by simp [e]
        rw [decide_eq_true e, if_pos rfl] at HST
        have hb1 : w.heap.size ≤ (wr.alloc (.cells #[.int .i64 k] 3)).heap.size := (bl_alloc hbl.out _).size
        clear e
        go_wp2_with (at_builtin; refine push_I rfl (.tmp 20) (.tmp 22) rfl w.heap.size (.slice Au q cu) (iN (famL t k v)) q (by rw [iN_len]; exact HQ.out) rfl (how.out.alloc _) _ _ (k : Int) rfl (Blk.new _ _ _) (by omega) hb1 ?_; intro g c6 w6 h1 h2 h3 h4; have H61 := Lib.hid h1; have H62 := Lib.hid h2; clear h1 h2 h3 h4)
        have H7 : Hid (w6.ownsRow w.heap.size 3 1 (.slice (some ⟨g, 0, none⟩) (q + 1) c6) (q + 1) (fl encI (iN (famL t (k + 1) v)))) := by
          rw [HST.out, iN_snoc]; exact H61.out
        have H8 := Lib.hid (bl_grown (bl_alloc hbl.out (.cells #[.int .i64 k] 3)) H62.out (fun r e => (how.out.lt r e).1))
        go_roundw
        case rel => exact ⟨k + 1, q + 1, by omega, by go_num, by rw [HST.out, List.length_append, ← HQ.out]; rfl, H7, H8⟩
        case measure => simp [intOf]; omega
      · have d1 : (p == (v : Int)) = false := by simp [e]
        have d2 : decide (p = (v : Int)) = false := by simp [e]
        rw [d2, if_neg (by simp), List.append_nil] at HST
        clear e
        go_wp2_with fail
        go_roundw
        case rel => exact ⟨k + 1, q, by omega, by go_num, by rw [HST.out]; exact HQ.out, by rw [HST.out]; exact how, hbl⟩
        case measure => simp [intOf]; omega
    · obtain rfl : k = n := by omega
      have HO := Lib.hid how.out
      clear how
      go_wp2_with fail
      go_ret
      exact ⟨_, rfl, by rw [← HQ.out]; exact HO.out, hbl.out⟩
end Go.Proofs.YtnabbmdhhddfbaaDoor
namespace Go.Proofs.YtnabbmdhhddfbaaDoor
open Go Go.RowKit Go.Shelf
set_option maxHeartbeats 4000000 in
theorem rletter_any (n : Int) (w : World) (h0 : 0 ≤ n) (h1 : n ≤ 255) : Calls Tryd.prog 102 #[.int .u8 n] w fun e w' => e = .returned (.bool (ltrI n)) ∧ w' = w := by
  obtain ⟨r, hr⟩ : ∃ r, r = ltrI n := ⟨_, rfl⟩
  have HR : Hid (r = decide (97 ≤ n ∧ n ≤ 122 ∨ 65 ≤ n ∧ n ≤ 90 ∨ 48 ≤ n ∧ n ≤ 57 ∨ n = 45)) := hr
  rw [← hr]
  clear hr
  by_cases H : 97 ≤ n ∧ n ≤ 122 ∨ 65 ≤ n ∧ n ≤ 90 ∨ 48 ≤ n ∧ n ≤ 57 ∨ n = 45
  · have HV : Hid (r = true) := by show _ = _; rw [HR.out]; exact decide_eq_true H
    by_cases a7 : n = 45
    · have b1 : ¬ 97 ≤ n := by omega
      have b2 : ¬ 65 ≤ n := by omega
      have b3 : ¬ 48 ≤ n := by omega
      have b4 : (n == 45) = true := by simp [a7]
      first
        | omega
        | (clear a7 H
           go_enter Tryd.func102, Tryd.ntmps102
           go_wp2
           go_ret
           exact ⟨ret_b (by rw [HV.out]; try simp [*]), rfl⟩)
    · have b4 : (n == 45) = false := by simp [a7]
      by_cases a1 : 97 ≤ n <;> by_cases a2 : n ≤ 122 <;> by_cases a3 : 65 ≤ n <;> by_cases a4 : n ≤ 90 <;> by_cases a5 : 48 ≤ n <;> by_cases a6 : n ≤ 57
      all_goals first
        | omega
        | (clear a7 H
           go_enter Tryd.func102, Tryd.ntmps102
           go_wp2
           go_ret
           exact ⟨ret_b (by rw [HV.out]; try simp [*]), rfl⟩)
  · have HV : Hid (r = false) := by show _ = _; rw [HR.out]; exact decide_eq_false H
    by_cases a7 : n = 45
    · have b1 : ¬ 97 ≤ n := by omega
      have b2 : ¬ 65 ≤ n := by omega
      have b3 : ¬ 48 ≤ n := by omega
      have b4 : (n == 45) = true := by simp [a7]
      first
        | omega
        | (clear a7 H
           go_enter Tryd.func102, Tryd.ntmps102
           go_wp2
           go_ret
           exact ⟨ret_b (by rw [HV.out]; try simp [*]), rfl⟩)
    · have b4 : (n == 45) = false := by simp [a7]
      by_cases a1 : 97 ≤ n <;> by_cases a2 : n ≤ 122 <;> by_cases a3 : 65 ≤ n <;> by_cases a4 : n ≤ 90 <;> by_cases a5 : 48 ≤ n <;> by_cases a6 : n ≤ 57
      all_goals first
        | omega
        | (clear a7 H
           go_enter Tryd.func102, Tryd.ntmps102
           go_wp2
           go_ret
           exact ⟨ret_b (by rw [HV.out]; try simp [*]), rfl⟩)
set_option maxHeartbeats 1000000 in
theorem rnamed_any (s : ByteArray) (w : World) (hs : s.size ≤ 9223372036854775807) : Calls Tryd.prog 84 #[.string s] w fun e w' => e = .returned (.bool (nmB s)) ∧ w' = w := by
  go_enter Tryd.func84, Tryd.ntmps84
  go_wp2_with fail
  go_loopw [3] (fun x wr => ∃ k : Nat, k ≤ s.size ∧ x = .int .i64 k ∧ Hid ((s.data.toList.take k).all (fun c => ltrI c.toNat) = true) ∧ wr = w) (fun x _ => s.size - (intOf x).toNat)
  case atStart => exact ⟨0, by omega, rfl, rfl, rfl⟩
  case round =>
    obtain ⟨k, hk, rfl, hal, rfl⟩ := hrel
    by_cases hlt : k < s.size
    · have hts : s.data.toList.take (k + 1) = s.data.toList.take k ++ [s[k]] := by
        rw [List.take_succ_eq_append_getElem (by simpa using hlt)]; rfl
      have HNX : Hid ((s.data.toList.take (k + 1)).all (fun c => ltrI c.toNat) = ((s.data.toList.take k).all (fun c => ltrI c.toNat) && ltrI s[k].toNat)) := by
        show _ = _
        rw [hts, List.all_append]; simp
      have HNO : Hid (ltrI s[k].toNat = false → nmB s = false) := fun h => by
        have : s.data.toList.all (fun c => ltrI c.toNat) = false := by
          rw [List.all_eq_false]
          exact ⟨s[k], by exact Array.mem_toList_iff.2 (Array.getElem_mem _), by rw [h]; simp⟩
        rw [nmB, this]; rfl
      clear hts
      have hc0 : (0 : Int) ≤ (s[k].toNat : Int) := by omega
      have hc1 : (s[k].toNat : Int) ≤ 255 := by have := s[k].toNat_lt; omega
      go_wp2_with fail
      refine (rletter_any _ _ hc0 hc1).mono ?_
      rintro e w' ⟨rfl, rfl⟩
      rcases Bool.eq_false_or_eq_true (ltrI s[k].toNat) with hp | hp
      · have HP := Lib.hid hp
        rw [hp]
        clear hp
        go_wp2_with fail
        go_roundw
        case rel => exact ⟨k + 1, by omega, by go_num, by show _ = _; rw [HNX.out, hal.out, HP.out]; rfl, by trivial⟩
        case measure => simp [intOf]; omega
      · have HP := Lib.hid hp
        rw [hp]
        clear hp
        go_wp2_with fail
        go_ret
        exact ⟨ret_b (HNO.out HP.out).symm, rfl⟩
    · have e : k = s.size := by omega
      have hfin : Hid (nmB s = (decide (0 < s.size) && decide (s.size ≤ 24))) := by
        have h1 := hal.out
        rw [e, List.take_of_length_le (by simp)] at h1
        show _ = _
        rw [nmB, h1]; rfl
      clear hal
      by_cases b1 : 0 < s.size
      · have b1' : decide (0 < s.size) = true := by simpa using b1
        go_wp2_with fail
        go_ret
        exact ⟨ret_b (by rw [hfin.out, b1']; simp; omega), rfl⟩
      · have b1' : decide (0 < s.size) = false := by simpa using b1
        go_wp2_with fail
        go_ret
        exact ⟨ret_b (by rw [hfin.out, b1']; simp), rfl⟩

end Go.Proofs.YtnabbmdhhddfbaaDoor
namespace Go.Proofs.YtnabbmdhhddfbaaDoor
open Go Go.RowKit Go.Shelf
theorem chkE_bad {t : List Nd} (h : ¬ TreeOk t) : chkE t = 16 := if_neg h
theorem chkE_good {t : List Nd} (h : TreeOk t) : chkE t = 0 := if_pos h
theorem seenB_true {t : List Nd} {v u : Nat} (hu : u < v) (e : nS t u = nS t v) : seenB t v (nS t v) = true := by
  unfold seenB
  rw [List.any_eq_true]
  exact ⟨u, List.mem_range.2 hu, by simp [e]⟩
theorem seenB_false {t : List Nd} {v : Nat} (h : ∀ u, u < v → nS t u ≠ nS t v) : seenB t v (nS t v) = false := by
  unfold seenB
  rw [List.any_eq_false]
  intro u hu
  simp [h u (List.mem_range.1 hu)]
set_option maxRecDepth 100000 in
set_option maxHeartbeats 2000000 in
theorem rcheck_any (a : Option Addr) (n c : Nat) (t : List Nd) (w : World) (hn : t.length = n) (hN : n ≤ 1152921504606846976) (hA : Rd w a (fl encNd t)) (hS : ∀ v, v < n → (nS t v).size ≤ 9223372036854775807) :
    Calls Tryd.prog 72 #[.slice a n c] w fun e w' => e = .returned (.int .i64 (chkE t)) ∧ ∃ m, w' = w.drewN m := by
  have HN := Lib.hid hn
  have HA := Lib.hid hA
  have HS := Lib.hid hS
  have HBD : Hid (∀ v, v < n → ¬ NodeOk t v → chkE t = 16) := fun v hv h => chkE_bad fun h2 => h (h2.2.2 v (by rw [hn]; exact hv))
  clear hn hA hS
  by_cases h1 : 1 ≤ n
  · by_cases h63 : n ≤ 63
    · obtain ⟨b, o, rfl, hb, hc⟩ := rdNd HA.out (by rw [HN.out]; omega)
      obtain ⟨G1, G2⟩ := hc 0 (by rw [HN.out]; omega)
      rw [Nat.zero_mul, Nat.add_zero] at G1
      have d1 : decide ((n : Int) < 1) = false := decide_eq_false (by omega)
      have d2 : decide ((63 : Int) < (n : Int)) = false := decide_eq_false (by omega)
      by_cases h0 : nP t 0 = -1
      · have H0 := Lib.hid h0
        rw [h0] at G1
        have HC := Lib.hid hc
        clear h0 hc G2
        go_enter Tryd.func72, Tryd.ntmps72
        go_wp2_with fail
        clear G1
        go_loopw [3] (fun x wr => ∃ v : Nat, v ≤ n ∧ x = .int .i64 v ∧ Hid (∀ u, u < v → NodeOk t u) ∧ ∃ m, wr = w.drewN m) (fun x _ => n - (intOf x).toNat)
        case atStart => exact ⟨0, by omega, rfl, (fun u hu => by omega), 0, rfl⟩
        case round =>
          obtain ⟨v, hv, rfl, hok, m, rfl⟩ := hrel
          by_cases hlt : v < n
          · obtain ⟨G1, G2⟩ := HC.out v (by rw [HN.out]; exact hlt)
            have hsz := HS.out v hlt
            have HNK : Hid (∀ P : Prop, nP t v < v → (if v = 0 then (-1 : Int) else 0) ≤ nP t v → nmB (nS t v) = true → (∀ u, u < v → nS t u ≠ nS t v) → NodeOk t v) := fun _ a1 a2 a3 a4 => ⟨a1, a2, a3, seenB_false a4⟩
            have HB1 : Hid (0 < v → (nP t v < 0 ∨ (v : Int) ≤ nP t v) → chkE t = 16) := fun q1 q2 => HBD.out v hlt fun hk => by
              have k1 := hk.1
              have k2 := hk.2.1
              rw [if_neg (by omega)] at k2
              omega
            have HB2 : Hid (nmB (nS t v) = false → chkE t = 16) := fun q => HBD.out v hlt fun hk => by rw [hk.2.2.1] at q; cases q
            have HB3 : Hid (∀ u, u < v → nS t u = nS t v → chkE t = 16) := fun u hu e => HBD.out v hlt fun hk => by
              have := hk.2.2.2
              rw [seenB_true hu e] at this; cases this
            have HP0 : Hid (v = 0 → nP t v = -1) := fun e => by rw [e]; exact H0.out
            obtain ⟨s, hs⟩ : ∃ x, nS t v = x := ⟨_, rfl⟩
            obtain ⟨p, hp⟩ : ∃ x, nP t v = x := ⟨_, rfl⟩
            rw [hs] at HNK HB2 HB3 G2 hsz
            rw [hp] at HNK HB1 HP0 G1
            have HNM := Lib.hid (fun W => rnamed_any s W hsz)
            have HPV : Hid (¬ (0 < v ∧ (p < 0 ∨ (v : Int) ≤ p)) → p < v ∧ (if v = 0 then (-1 : Int) else 0) ≤ p) := fun h => by
              by_cases e : v = 0
              · have := HP0.out e
                rw [if_pos e]; omega
              · rw [if_neg e]; omega
            have HSV := Lib.hid hs
            clear hs hp hsz
            by_cases q : 0 < v ∧ (p < 0 ∨ (v : Int) ≤ p)
            · have HR := Lib.hid (HB1.out q.1 q.2)
              obtain ⟨q1, q2⟩ := q
              have t1 : decide (0 < (v : Int)) = true := decide_eq_true (by omega)
              by_cases q3 : p < 0
              · have t2 : decide (p < 0) = true := decide_eq_true q3
                go_wp2_with fail
                go_ret
                exact ⟨ret_i HR.out.symm, m, rfl⟩
              · have t2 : decide (p < 0) = false := decide_eq_false q3
                have t3 : decide ((v : Int) ≤ p) = true := decide_eq_true (by omega)
                go_wp2_with fail
                go_ret
                exact ⟨ret_i HR.out.symm, m, rfl⟩
            · have HPO := Lib.hid (HPV.out q)
              by_cases hv0 : v = 0
              · have t1 : decide (0 < (v : Int)) = false := decide_eq_false (by omega)
                have t1n : decide (0 < v) = false := decide_eq_false (by omega)
                clear hv0 q
                go_wp2_with fail
                refine (HNM.out _).mono ?_
                rintro e w1 ⟨rfl, rfl⟩
                obtain ⟨nb, hnb⟩ : ∃ x, nmB s = x := ⟨_, rfl⟩
                rw [hnb]
                cases nb with
                | false =>
                  have HR := Lib.hid (HB2.out hnb)
                  clear hnb
                  go_wp2_with fail
                  go_ret
                  exact ⟨ret_i HR.out.symm, m, rfl⟩
                | true =>
                  have HNB := Lib.hid hnb
                  clear hnb G1
                  go_upto_region 8 with fail
                  go_upto_region 9 with fail
                  go_loopw [4] (fun x wx => ∃ u : Nat, u ≤ v ∧ x = .int .i64 u ∧ Hid (∀ q, q < u → nS t q ≠ s) ∧ ∃ k, wx = w.drewN k) (fun x _ => v - (intOf x).toNat)
                  case atStart => exact ⟨0, by omega, rfl, (fun q hq => by omega), m, rfl⟩
                  case round =>
                    obtain ⟨u, hu, rfl, hne, k, rfl⟩ := hrel
                    by_cases hlu : u < v
                    · obtain ⟨_, G4⟩ := HC.out u (by rw [HN.out]; omega)
                      have HBU := Lib.hid (HB3.out u hlu)
                      have HNX : Hid (nS t u ≠ s → ∀ q, q < u + 1 → nS t q ≠ s) := fun h q hq => by
                        rcases Nat.lt_or_ge q u with h2 | h2
                        · exact hne.out q h2
                        · obtain rfl : q = u := by omega
                          exact h
                      generalize nS t u = r at *
                      by_cases e : r = s
                      · have HR := Lib.hid (HBU.out e)
                        subst e
                        have t9 : (r.toList == r.toList) = true := beq_self_eq_true _
                        go_wp2_with fail
                        go_quiet (fail)
                        go_wp2_with fail
                        go_ret
                        exact ⟨ret_i HR.out.symm, k + nq, by simp⟩
                      · have HNX2 := Lib.hid (HNX.out e)
                        have t9 : (r.toList == s.toList) = false := beq_eq_false_iff_ne.2 fun e2 => e (ba_inj.1 e2)
                        clear e
                        go_wp2_with fail
                        go_quiet (fail)
                        go_wp2_with fail
                        go_roundw
                        case rel => exact ⟨u + 1, by omega, by go_num, HNX2, k + nq, by simp⟩
                        case measure => simp [intOf]; omega
                    · obtain rfl : u = v := by omega
                      have HNO : Hid (NodeOk t u) := HNK.out True HPO.out.1 HPO.out.2 HNB.out hne.out
                      go_wp2_with fail
                      go_roundw
                      case rel => exact ⟨u + 1, by omega, by go_num, (fun q hq => by
                        rcases Nat.lt_or_ge q u with h2 | h2
                        · exact hok.out q h2
                        · obtain rfl : q = u := by omega
                          exact HNO.out), k, rfl⟩
                      case measure => simp [intOf]; omega
              · have t1 : decide (0 < (v : Int)) = true := decide_eq_true (by omega)
                have t2 : decide (p < 0) = false := decide_eq_false (by omega)
                have t3 : decide ((v : Int) ≤ p) = false := decide_eq_false (by omega)
                have t1n : decide (0 < v) = true := decide_eq_true (by omega)
                clear hv0 q
                go_wp2_with fail
                refine (HNM.out _).mono ?_
                rintro e w1 ⟨rfl, rfl⟩
                obtain ⟨nb, hnb⟩ : ∃ x, nmB s = x := ⟨_, rfl⟩
                rw [hnb]
                cases nb with
                | false =>
                  have HR := Lib.hid (HB2.out hnb)
                  clear hnb
                  go_wp2_with fail
                  go_ret
                  exact ⟨ret_i HR.out.symm, m, rfl⟩
                | true =>
                  have HNB := Lib.hid hnb
                  clear hnb G1
                  go_upto_region 8 with fail
                  go_upto_region 9 with fail
                  go_loopw [4] (fun x wx => ∃ u : Nat, u ≤ v ∧ x = .int .i64 u ∧ Hid (∀ q, q < u → nS t q ≠ s) ∧ ∃ k, wx = w.drewN k) (fun x _ => v - (intOf x).toNat)
                  case atStart => exact ⟨0, by omega, rfl, (fun q hq => by omega), m, rfl⟩
                  case round =>
                    obtain ⟨u, hu, rfl, hne, k, rfl⟩ := hrel
                    by_cases hlu : u < v
                    · obtain ⟨_, G4⟩ := HC.out u (by rw [HN.out]; omega)
                      have HBU := Lib.hid (HB3.out u hlu)
                      have HNX : Hid (nS t u ≠ s → ∀ q, q < u + 1 → nS t q ≠ s) := fun h q hq => by
                        rcases Nat.lt_or_ge q u with h2 | h2
                        · exact hne.out q h2
                        · obtain rfl : q = u := by omega
                          exact h
                      generalize nS t u = r at *
                      by_cases e : r = s
                      · have HR := Lib.hid (HBU.out e)
                        subst e
                        have t9 : (r.toList == r.toList) = true := beq_self_eq_true _
                        go_wp2_with fail
                        go_quiet (fail)
                        go_wp2_with fail
                        go_ret
                        exact ⟨ret_i HR.out.symm, k + nq, by simp⟩
                      · have HNX2 := Lib.hid (HNX.out e)
                        have t9 : (r.toList == s.toList) = false := beq_eq_false_iff_ne.2 fun e2 => e (ba_inj.1 e2)
                        clear e
                        go_wp2_with fail
                        go_quiet (fail)
                        go_wp2_with fail
                        go_roundw
                        case rel => exact ⟨u + 1, by omega, by go_num, HNX2, k + nq, by simp⟩
                        case measure => simp [intOf]; omega
                    · obtain rfl : u = v := by omega
                      have HNO : Hid (NodeOk t u) := HNK.out True HPO.out.1 HPO.out.2 HNB.out hne.out
                      go_wp2_with fail
                      go_roundw
                      case rel => exact ⟨u + 1, by omega, by go_num, (fun q hq => by
                        rcases Nat.lt_or_ge q u with h2 | h2
                        · exact hok.out q h2
                        · obtain rfl : q = u := by omega
                          exact HNO.out), k, rfl⟩
                      case measure => simp [intOf]; omega
          · obtain rfl : v = n := by omega
            have HR : Hid (chkE t = 0) := chkE_good ⟨by rw [HN.out]; exact h1, by rw [HN.out]; exact h63, fun u hu => hok.out u (by rw [← HN.out]; exact hu)⟩
            go_wp2_with fail
            go_ret
            exact ⟨ret_i HR.out.symm, m, rfl⟩
      · have HR := Lib.hid (HBD.out 0 (by omega) (fun hk => h0 (by have k1 := hk.1; have k2 := hk.2.1; rw [if_pos rfl] at k2; omega)))
        have t1 : (nP t 0 != -1) = true := by simpa using h0
        have t2 : (nP t 0 == -1) = false := by simpa using h0
        clear hc G2 h0
        generalize nP t 0 = p at *
        go_enter Tryd.func72, Tryd.ntmps72
        go_wp2_with fail
        go_ret
        exact ⟨ret_i HR.out.symm, 0, rfl⟩
    · have HR : Hid (chkE t = 16) := chkE_bad fun h => by have := h.2.1; rw [HN.out] at this; omega
      have d1 : decide ((n : Int) < 1) = false := decide_eq_false (by omega)
      have d2 : decide ((63 : Int) < (n : Int)) = true := decide_eq_true (by omega)
      go_enter Tryd.func72, Tryd.ntmps72
      go_wp2_with fail
      go_ret
      exact ⟨ret_i HR.out.symm, 0, rfl⟩
  · have HR : Hid (chkE t = 16) := chkE_bad fun h => by have := h.1; rw [HN.out] at this; omega
    have d1 : decide ((n : Int) < 1) = true := decide_eq_true (by omega)
    go_enter Tryd.func72, Tryd.ntmps72
    go_wp2_with fail
    go_ret
    exact ⟨ret_i HR.out.symm, 0, rfl⟩
end Go.Proofs.YtnabbmdhhddfbaaDoor
namespace Go.Proofs.YtnabbmdhhddfbaaDoor
open Go Go.RowKit Go.Shelf
set_option maxRecDepth 100000 in
set_option maxHeartbeats 2000000 in
theorem rLeaves_any (a : Option Addr) (n c : Nat) (t : List Nd) (w : World) (hn : t.length = n) (hN : n ≤ 1152921504606846976) (hA : Rd w a (fl encNd t)) (hS : ∀ v, v < n → (nS t v).size ≤ 9223372036854775807) :
    Calls Tryd.prog 73 #[.slice a n c] w fun e w' => ∃ v, e = .returned (.tuple #[v, .int .i64 (chkE t)]) ∧ w'.ownsRow w.heap.size 3 1 v (lvT t).length (fl encI (iN (lvT t))) ∧ Below w.heap.size w w' := by
  have HC := Lib.hid (rcheck_any a n c t w hn hN hA hS)
  have HN := Lib.hid hn
  have HA := Lib.hid hA
  clear hn hA hS
  go_enter Tryd.func73, Tryd.ntmps73
  go_wp2_with fail
  refine HC.out.mono ?_
  rintro e w1 ⟨rfl, m, rfl⟩
  by_cases hok : TreeOk t
  · have HCE := Lib.hid (chkE_good hok)
    have HLV : Hid (lvT t = lvsL t n) := by show _ = _; unfold lvT; rw [if_pos HCE.out, HN.out]
    have h63 : n ≤ 63 := by have := hok.2.1; have := HN.out; omega
    have HP0 : Hid (nP t 0 < 0) := by have := (hok.2.2 0 (by have := hok.1; omega)).1; exact this
    have HLF : Hid (∀ k, leafB t k = decide ((famL t n k).length = 0)) := fun k => by
      unfold leafB; rw [HN.out, Bool.eq_iff_iff]; simp
    rw [HCE.out]
    clear hok
    go_wp2_with fail
    go_loopw [6, 5] (fun x u wr => ∃ k q : Nat, k ≤ n ∧ x = .int .i64 k ∧ q = (lvsL t k).length ∧ Hid (wr.ownsRow w.heap.size 3 1 u q (fl encI (iN (lvsL t k)))) ∧ Hid (Below w.heap.size w wr)) (fun x _ _ => n - (intOf x).toNat)
    case atStart => exact ⟨0, 0, by omega, rfl, rfl, World.ownsRow_nil _ _ _ _, bl_drewN (Below.refl _ _) m⟩
    case round =>
      obtain ⟨k, q, hk, rfl, hq, how, hbl⟩ := hrel
      obtain ⟨Au, cu, rfl, _⟩ := owns_slice how.out
      have HQ := Lib.hid hq
      by_cases hlt : k < n
      · have hql : q ≤ k := by rw [hq]; exact lvsL_le t k
        have HST := Lib.hid (lvsL_snoc t k)
        rw [HLF.out k] at HST
        have HK := Lib.hid (rkids_any k a n c t wr HN.out (by omega) (HA.out.bl hbl.out) HP0.out)
        clear hq
        go_wp2_with fail
        refine HK.out.mono ?_
        rintro e w3 ⟨x3, rfl, ho3, hb3⟩
        obtain ⟨z, hz⟩ : ∃ z, (famL t n k).length = z := ⟨_, rfl⟩
        rw [hz] at ho3 HST
        obtain ⟨A3, c3, rfl, _⟩ := owns_slice ho3
        have HB3 := Lib.hid (bl_trans hbl.out hb3)
        have HO3 := Lib.hid (owns_below how.out hb3)
        clear ho3 hb3 hz how hbl HK
        by_cases e : z = 0
        · have d1 : ((z : Int) == 0) = true := by simp [e]
          rw [decide_eq_true e, if_pos rfl] at HST
          have hb1 : w.heap.size ≤ (w3.alloc (.cells #[.int .i64 k] 3)).heap.size := (bl_alloc HB3.out _).size
          subst e
          clear d1
          go_wp2_with (at_builtin; refine push_I rfl (.tmp 23) (.tmp 25) rfl w.heap.size (.slice Au q cu) (iN (lvsL t k)) q (by rw [iN_len]; exact HQ.out) rfl (HO3.out.alloc _) _ _ (k : Int) rfl (Blk.new _ _ _) (by omega) hb1 ?_; intro g c6 w6 h1 h2 h3 h4; have H61 := Lib.hid h1; have H62 := Lib.hid h2; clear h1 h2 h3 h4)
          have H7 : Hid (w6.ownsRow w.heap.size 3 1 (.slice (some ⟨g, 0, none⟩) (q + 1) c6) (q + 1) (fl encI (iN (lvsL t (k + 1))))) := by
            rw [HST.out, iN_snoc]; exact H61.out
          have H8 := Lib.hid (bl_grown (bl_alloc HB3.out (.cells #[.int .i64 k] 3)) H62.out (fun r e => (HO3.out.lt r e).1))
          go_roundw
          case rel => exact ⟨k + 1, q + 1, by omega, by go_num, by rw [HST.out, List.length_append, ← HQ.out]; rfl, H7, H8⟩
          case measure => simp [intOf]; omega
        · have d1 : ((z : Int) == 0) = false := by simp [e]
          have d3 : decide (z = 0) = false := by simp [e]
          rw [d3, if_neg (by simp), List.append_nil] at HST
          clear e
          go_wp2_with fail
          go_roundw
          case rel => exact ⟨k + 1, q, by omega, by go_num, by rw [HST.out]; exact HQ.out, by rw [HST.out]; exact HO3, HB3⟩
          case measure => simp [intOf]; omega
      · obtain rfl : k = n := by omega
        have HO := Lib.hid how.out
        clear how
        go_wp2_with fail
        exact bodyPost_ret (v := .tuple #[.slice Au q cu, .int .i64 0]) (by simp [results, Tryd.results73, go_sem]) rfl ⟨_, by rw [HCE.out], by rw [HLV.out, ← HQ.out]; exact HO.out, hbl.out⟩
  · have HCE := Lib.hid (chkE_bad hok)
    have HLV : Hid (lvT t = []) := by show _ = _; unfold lvT; rw [if_neg (by rw [HCE.out]; decide)]
    rw [HCE.out]
    clear hok
    go_wp2_with fail
    exact bodyPost_ret (v := .tuple #[.slice none 0 0, .int .i64 16]) (by simp [results, Tryd.results73, go_sem]) rfl ⟨_, by rw [HCE.out], by rw [HLV.out]; exact World.ownsRow_nil _ _ _ _, bl_drewN (Below.refl _ _) m⟩
end Go.Proofs.YtnabbmdhhddfbaaDoor
namespace Go.Proofs.YtnabbmdhhddfbaaDoor
open Go Go.RowKit Go.Shelf
set_option maxRecDepth 100000 in
set_option maxHeartbeats 4000000 in
theorem rpcheck_any (L : Int) (a : Option Addr) (N c : Nat) (l : List Nat) (b : Option Addr) (n d : Nat) (t : List Nd) (w : World) (hl : l.length = N) (hN : N ≤ 1152921504606846976) (hA : Rd w a (fl encV l)) (hF : FitV l)
    (ht : t.length = n) (hn : n ≤ 1152921504606846976) (hB : Rd w b (fl encNd t)) (hS : ∀ v, v < n → (nS t v).size ≤ 9223372036854775807) :
    Calls Tryd.prog 51 #[.agg #[.int .i64 L, .slice a N c], .slice b n d] w fun e w' => e = .returned (.int .i64 (chkP L l t)) ∧ Below w.heap.size w w' := by
  have hb0 := bl_alloc (Below.refl _ w) (.cells #[.int .i64 L, .slice a N c] 32)
  have hX := Blk.new w #[.int .i64 L, .slice a N c] 32
  have HC := Lib.hid (rtchk_any L a N c l (w.alloc (.cells #[.int .i64 L, .slice a N c] 32)) hl hN (hA.bl hb0) hF)
  have HB := Lib.hid (hB.bl hb0)
  have HT := Lib.hid ht
  have HS := Lib.hid hS
  clear hl hA hF hB ht hS
  go_enter Tryd.func51, Tryd.ntmps51
  go_wp2_with fail
  refine HC.out.mono ?_
  rintro e w2 ⟨rfl, hb2⟩
  have HB2 := Lib.hid (bl_trans hb0 hb2)
  have HX2 := Lib.hid (hX.below hb2)
  have HR2 := Lib.hid (HB.out.bl hb2)
  clear hb0 hb2 hX HC HB
  by_cases h0 : chkT L l = 0
  · have HE : Hid (chkP L l t = if chkE t ≠ 0 then chkE t else if ((lvT t).length : Int) = L then 0 else 2) := if_neg (fun h => h h0)
    have HCK := Lib.hid (rcheck_any b n d t w2 HT.out hn HR2.out HS.out)
    rw [h0]
    clear h0
    go_wp2_with fail
    refine HCK.out.mono ?_
    rintro e w2' ⟨rfl, m, rfl⟩
    by_cases h1 : chkE t = 0
    · have HCE := Lib.hid h1
      have HC2 := Lib.hid (rLeaves_any b n d t (w2.drewN m) HT.out hn (HR2.out.drewN m) HS.out)
      rw [h1] at HC2 ⊢
      clear h1 HCK
      go_wp2_with fail
      refine HC2.out.mono ?_
      rintro e w3 ⟨v, rfl, ho, hb3⟩
      obtain ⟨A, cp, rfl, _⟩ := owns_slice ho
      have HB3 := Lib.hid (bl_trans (bl_drewN HB2.out m) hb3)
      have hx3 := (HX2.out.drewN m).below hb3
      obtain ⟨X, hXe⟩ : ∃ x, x = w.heap.size := ⟨_, rfl⟩
      rw [← hXe] at hx3 ⊢
      have c0 : w3.cell? ⟨X, 0, none⟩ = some (.int .i64 L) := hx3.cell 0
      obtain ⟨q, hq⟩ : ∃ q, q = (lvT t).length := ⟨_, rfl⟩
      rw [← hq] at HE ⊢
      have hq63 : q ≤ 9223372036854775807 := by
        rcases ho.2 with ⟨_, e⟩ | ⟨g, cp2, cur, e1, _, _, e2, e3, _⟩
        · omega
        · unfold maxLen at e3; omega
      clear ho hb3 hx3 hq hXe HC2
      rw [HCE.out] at HE
      by_cases h2 : (q : Int) = L
      · have hv : Hid (chkP L l t = 0) := by show _ = _; rw [HE.out, if_neg (by simp), if_pos h2]
        have t1 : ((q : Int) != L) = false := by simp [h2]
        have t2 : decide ((q : Int) = L) = true := by simp [h2]
        have t3 : ((q : Int) == L) = true := by simp [h2]
        clear HE h2
        go_wp2_with fail
        go_ret
        exact ⟨by rw [hv.out]; rfl, HB3.out⟩
      · have hv : Hid (chkP L l t = 2) := by show _ = _; rw [HE.out, if_neg (by simp), if_neg h2]
        have t1 : ((q : Int) != L) = true := by simp [h2]
        have t2 : decide ((q : Int) = L) = false := by simp [h2]
        have t3 : ((q : Int) == L) = false := by simp [h2]
        clear HE h2
        go_wp2_with fail
        go_ret
        exact ⟨by rw [hv.out]; rfl, HB3.out⟩
    · have h16 := (chk_tree' h1).1
      have hv : Hid (chkP L l t = 16) := by show _ = _; rw [HE.out, if_pos h1, h16]
      rw [h16]
      clear HE h1 h16 HCK
      go_wp2_with fail
      go_ret
      exact ⟨by rw [hv.out]; rfl, bl_drewN HB2.out m⟩
  · have hE : Hid (chkP L l t = chkT L l) := if_pos h0
    obtain ⟨E, hEE⟩ : ∃ E, chkT L l = E := ⟨_, rfl⟩
    rw [hEE] at hE h0 ⊢
    have d0 : (E == 0) = false := by simp [h0]
    have d1 : (E != 0) = true := by simp [h0]
    clear hEE h0
    go_wp2_with fail
    go_ret
    exact ⟨by rw [hE.out]; rfl, HB2.out⟩
end Go.Proofs.YtnabbmdhhddfbaaDoor
namespace Go.Proofs.YtnabbmdhhddfbaaDoor
open Go Go.RowKit Go.Shelf
/-- The way from the root to v, by f steps at most. -/
def pthF (t : List Nd) : Nat → Nat → List Nat
  | 0, _ => [0]
  | f + 1, v => if v = 0 then [0] else pthF t f (nP t v).toNat ++ [v]
theorem pthF_le (t : List Nd) : ∀ f v, (pthF t f v).length ≤ f + 1 := by
  intro f
  induction f with
  | zero => intro v; simp [pthF]
  | succ f ih =>
    intro v
    unfold pthF
    split
    · simp
    · rw [List.length_append]; have := ih (nP t v).toNat; simp; omega
theorem pthF_eq {t : List Nd} {n : Nat} (hP : ∀ v, 0 < v → v < n → 0 ≤ nP t v ∧ nP t v < v) : ∀ f g v, v ≤ f → v ≤ g → v < n → pthF t f v = pthF t g v := by
  intro f
  induction f with
  | zero =>
    intro g v hf hg hv
    obtain rfl : v = 0 := by omega
    cases g <;> simp [pthF]
  | succ f ih =>
    intro g v hf hg hv
    by_cases e : v = 0
    · subst e; cases g <;> simp [pthF]
    · cases g with
      | zero => omega
      | succ g =>
        unfold pthF
        rw [if_neg e, if_neg e]
        have := hP v (by omega) hv
        rw [ih g (nP t v).toNat (by omega) (by omega) (by omega)]
set_option maxRecDepth 100000 in
set_option maxHeartbeats 2000000 in
theorem rpath_any (a : Option Addr) (n c : Nat) (t : List Nd) (hn : t.length = n) (hN : n ≤ 1000) (hP : ∀ v, 0 < v → v < n → 0 ≤ nP t v ∧ nP t v < v) : ∀ f v, v ≤ f → f < 1000 → v < n → ∀ w, Rd w a (fl encNd t) →
    Calls Tryd.prog 86 #[.slice a n c, .int .i64 v] w fun e w' => ∃ x, e = .returned x ∧ w'.ownsRow w.heap.size 3 1 x (pthF t f v).length (fl encI (iN (pthF t f v))) ∧ Below w.heap.size w w' := by
  have HN := Lib.hid hn
  have HP := Lib.hid hP
  clear hn hP
  intro f
  induction f with
  | zero =>
    intro v hf _ hv w hA
    obtain rfl : v = 0 := by omega
    have ho : (w.alloc (.cells #[.int .i64 0] 3)).ownsRow w.heap.size 3 1 (.slice (some ⟨w.heap.size, 0, none⟩) 1 1) 1 (fl encI (iN [0])) := owns_made (k := 1) (cs := #[.int .i64 0]) (Nat.le_refl _) rfl (by unfold maxLen; omega)
    have HO := Lib.hid ho
    clear ho
    go_enter Tryd.func86, Tryd.ntmps86
    go_wp2_with fail
    go_ret
    exact ⟨_, rfl, HO.out, bl_alloc (Below.refl _ _) _⟩
  | succ f ih =>
    intro v hf hf2 hv w hA
    by_cases e : v = 0
    · subst e
      have ho : (w.alloc (.cells #[.int .i64 0] 3)).ownsRow w.heap.size 3 1 (.slice (some ⟨w.heap.size, 0, none⟩) 1 1) 1 (fl encI (iN [0])) := owns_made (k := 1) (cs := #[.int .i64 0]) (Nat.le_refl _) rfl (by unfold maxLen; omega)
      have hp : pthF t (f + 1) 0 = [0] := by simp [pthF]
      have HO := Lib.hid ho
      have HPE := Lib.hid hp
      clear ho ih hp
      go_enter Tryd.func86, Tryd.ntmps86
      go_wp2_with fail
      go_ret
      exact ⟨_, rfl, by rw [HPE.out]; exact HO.out, bl_alloc (Below.refl _ _) _⟩
    · have hpv := HP.out v (by omega) hv
      have hp : pthF t (f + 1) v = pthF t f (nP t v).toNat ++ [v] := by rw [pthF, if_neg e]
      obtain ⟨b, o, rfl, hb, hc⟩ := rdNd hA (by rw [HN.out]; omega)
      obtain ⟨G1, _⟩ := hc v (by rw [HN.out]; exact hv)
      obtain ⟨p, hpp⟩ : ∃ p : Nat, nP t v = p := ⟨(nP t v).toNat, by omega⟩
      rw [hpp] at G1 hpv hp
      rw [Int.toNat_natCast] at hp
      have HPE := Lib.hid hp
      have HR := Lib.hid (ih p (by omega) (by omega) (by omega) w hA)
      have hle := pthF_le t f p
      have t1 : ((v : Int) == 0) = false := by simp; omega
      have t2 : decide (v = 0) = false := by simp [e]
      clear ih hp hc e hA
      go_enter Tryd.func86, Tryd.ntmps86
      go_wp2_with fail
      refine HR.out.mono ?_
      rintro e' w1 ⟨x, rfl, ho, hb1⟩
      obtain ⟨q, hq⟩ : ∃ q, q = (pthF t f p).length := ⟨_, rfl⟩
      rw [← hq] at ho hle
      obtain ⟨A1, c1, rfl, _⟩ := owns_slice ho
      have HO := Lib.hid ho
      have HQ := Lib.hid hq
      have HB1 := Lib.hid hb1
      have hbs : w.heap.size ≤ (w1.alloc (.cells #[.int .i64 v] 3)).heap.size := (bl_alloc hb1 _).size
      clear ho hq hb1 HR
      go_wp2_with (at_builtin; refine push_I rfl (.tmp 14) (.tmp 16) rfl w.heap.size (.slice A1 q c1) (iN (pthF t f p)) q (by rw [iN_len]; exact HQ.out) rfl (HO.out.alloc _) _ _ (v : Int) rfl (Blk.new _ _ _) (by omega) hbs ?_; intro g c6 w6 h1 h2 h3 h4; have H61 := Lib.hid h1; have H62 := Lib.hid h2; clear h1 h2 h3 h4)
      have H8 := Lib.hid (bl_grown (bl_alloc HB1.out (.cells #[.int .i64 v] 3)) H62.out (fun r e => (HO.out.lt r e).1))
      go_ret
      exact ⟨_, rfl, by rw [HPE.out, List.length_append, ← HQ.out, iN_snoc]; exact H61.out, H8.out⟩
end Go.Proofs.YtnabbmdhhddfbaaDoor
namespace Go.Proofs.YtnabbmdhhddfbaaDoor
open Go Go.RowKit Go.Shelf
/-- How far two lists agree. -/
def preL : List Nat → List Nat → Nat
  | x :: xs, y :: ys => if x = y then preL xs ys + 1 else 0
  | _, _ => 0
theorem preL_eq : ∀ (x y : List Nat) (k : Nat), k ≤ x.length → k ≤ y.length → (∀ i, i < k → vA x i = vA y i) → (k = x.length ∨ k = y.length ∨ vA x k ≠ vA y k) → preL x y = k := by
  intro x
  induction x with
  | nil => intro y k h1 _ _ _; simp at h1; subst h1; cases y <;> rfl
  | cons a x ih =>
    intro y k h1 h2 h3 h4
    cases y with
    | nil => simp at h2; subst h2; rfl
    | cons b y =>
      unfold preL
      cases k with
      | zero =>
        rcases h4 with h4 | h4 | h4
        · simp at h4
        · simp at h4
        · rw [if_neg (by simpa [vA] using h4)]
      | succ k =>
        have e : a = b := by have := h3 0 (by omega); simpa [vA] using this
        rw [if_pos e, ih y k (by simpa using h1) (by simpa using h2) (fun i hi => by have := h3 (i + 1) (by omega); simpa [vA] using this) (by simpa [vA] using h4)]
theorem pthF_pos (t : List Nd) : ∀ f v, 0 < (pthF t f v).length ∧ vA (pthF t f v) 0 = 0 := by
  intro f
  induction f with
  | zero => intro v; exact ⟨by simp [pthF], rfl⟩
  | succ f ih =>
    intro v
    unfold pthF
    split
    · exact ⟨by simp, rfl⟩
    · obtain ⟨h1, h2⟩ := ih (nP t v).toNat
      refine ⟨by rw [List.length_append]; omega, ?_⟩
      have e : vA (pthF t f (nP t v).toNat ++ [v]) 0 = vA (pthF t f (nP t v).toNat) 0 := by
        simp only [vA, List.getD_eq_getElem?_getD]
        rw [List.getElem?_append_left h1]
      rw [e]; exact h2
/-- The deepest common node. -/
def cmN (t : List Nd) (f u v : Nat) : Nat := vA (pthF t f u) (preL (pthF t f u) (pthF t f v) - 1)
set_option maxRecDepth 100000 in
set_option maxHeartbeats 2000000 in
theorem rcommon_any (a : Option Addr) (n c : Nat) (t : List Nd) (hn : t.length = n) (hN : n ≤ 900) (hP : ∀ v, 0 < v → v < n → 0 ≤ nP t v ∧ nP t v < v) (u v : Nat) (hu : u < n) (hv : v < n) (w : World) (hA : Rd w a (fl encNd t)) :
    Calls Tryd.prog 75 #[.slice a n c, .int .i64 u, .int .i64 v] w fun e w' => e = .returned (.int .i64 (cmN t n u v)) ∧ Below w.heap.size w w' := by
  have HP1 := Lib.hid (rpath_any a n c t hn (by omega) hP n u (by omega) (by omega) hu w hA)
  have HP2 := Lib.hid (fun W (h : Below w.heap.size w W) => rpath_any a n c t hn (by omega) hP n v (by omega) (by omega) hv W (hA.bl h))
  have hx1 := pthF_pos t n u
  have hy1 := pthF_pos t n v
  have hx2 := pthF_le t n u
  have hy2 := pthF_le t n v
  have HCM : Hid (cmN t n u v = vA (pthF t n u) (preL (pthF t n u) (pthF t n v) - 1)) := rfl
  obtain ⟨xs, hxs⟩ : ∃ x, x = pthF t n u := ⟨_, rfl⟩
  obtain ⟨ys, hys⟩ : ∃ x, x = pthF t n v := ⟨_, rfl⟩
  rw [← hxs] at HP1 hx1 hx2 HCM
  rw [← hys] at HP2 hy1 hy2 HCM
  obtain ⟨hx0, hx1⟩ := hx1
  obtain ⟨hy0, hy1⟩ := hy1
  obtain ⟨p, hp⟩ : ∃ p, p = xs.length := ⟨_, rfl⟩
  obtain ⟨q, hq⟩ : ∃ q, q = ys.length := ⟨_, rfl⟩
  rw [← hp] at HP1 hx0 hx2
  rw [← hq] at HP2 hy0 hy2
  have H00 : Hid (vA xs 0 = vA ys 0) := by show _ = _; rw [hx1, hy1]
  have HPE := Lib.hid hp
  have HQE := Lib.hid hq
  clear hxs hys hp hq hx1 hy1 hn hP hA
  go_enter Tryd.func75, Tryd.ntmps75
  go_wp2_with fail
  refine HP1.out.mono ?_
  rintro e w1 ⟨x1, rfl, ho1, hb1⟩
  obtain ⟨A1, c1, rfl, _⟩ := owns_slice ho1
  have HB1 := Lib.hid hb1
  have HO1 := Lib.hid ho1
  clear ho1 hb1 HP1
  go_wp2_with fail
  refine (HP2.out w1 HB1.out).mono ?_
  rintro e w2 ⟨x2, rfl, ho2, hb2⟩
  obtain ⟨A2, c2, rfl, _⟩ := owns_slice ho2
  have HB2 := Lib.hid (bl_trans HB1.out hb2)
  have HR1 := Lib.hid (rd_of_owns (owns_below HO1.out hb2))
  have HR2 := Lib.hid (rd_of_owns ho2)
  clear ho2 hb2 HP2 HB1 HO1
  go_wp2_with fail
  go_loopw [9] (fun x wr => ∃ k : Nat, k ≤ p ∧ k ≤ q ∧ x = .int .i64 k ∧ Hid (∀ i, i < k → vA xs i = vA ys i) ∧ ∃ m, wr = w2.drewN m) (fun x _ => p - (intOf x).toNat)
  case atStart => exact ⟨0, by omega, by omega, rfl, (fun i hi => by omega), 0, rfl⟩
  case round =>
    obtain ⟨k, hk1, hk2, rfl, hal, m, rfl⟩ := hrel
    obtain ⟨b1, o1, rfl, _, hc1⟩ := rdI HR1.out (by rw [iN_len, ← HPE.out]; omega)
    obtain ⟨b2, o2, rfl, _, hc2⟩ := rdI HR2.out (by rw [iN_len, ← HQE.out]; omega)
    have HFIN : Hid (0 < k → (k = p ∨ k = q ∨ vA xs k ≠ vA ys k) → cmN t n u v = vA xs (k - 1)) := fun _ h => by
      rw [HCM.out, preL_eq xs ys k (by rw [← HPE.out]; exact hk1) (by rw [← HQE.out]; exact hk2) hal.out (by rw [← HPE.out, ← HQE.out]; exact h)]
    have HNX : Hid (vA xs k = vA ys k → ∀ i, i < k + 1 → vA xs i = vA ys i) := fun h i hi => by
      rcases Nat.lt_or_ge i k with h2 | h2
      · exact hal.out i h2
      · obtain rfl : i = k := by omega
        exact h
    have HK0 : Hid (vA xs k ≠ vA ys k → 0 < k) := fun h => by
      rcases Nat.eq_zero_or_pos k with e | e
      · subst e; exact absurd H00.out h
      · exact e
    by_cases h1 : k < p
    · by_cases h2 : k < q
      · have G1 := hc1 k (by rw [iN_len, ← HPE.out]; exact h1)
        have G2 := hc2 k (by rw [iN_len, ← HQE.out]; exact h2)
        rw [iN_get] at G1 G2
        by_cases e : vA xs k = vA ys k
        · have HN2 := Lib.hid (HNX.out e)
          rw [← e] at G2
          clear hc1 hc2 HFIN HNX HK0 e
          generalize vA xs k = r at *
          go_wp2_with fail
          go_quiet (fail)
          go_wp2_with fail
          go_roundw
          case rel => exact ⟨k + 1, by omega, by omega, by go_num, HN2, m + nq, by simp⟩
          case measure => simp [intOf]; omega
        · have hk0 := HK0.out e
          have t1 : ((vA xs k : Int) == (vA ys k : Int)) = false := by simp; omega
          have t2 : decide ((vA xs k : Int) = (vA ys k : Int)) = false := by simp; omega
          have t3 : decide (vA xs k = vA ys k) = false := by simp [e]
          have hv := HFIN.out (by omega) (.inr (.inr e))
          have HJ : Hid (∃ j, k = j + 1 ∧ w2.cell? ⟨b1, o1 + j, none⟩ = some (.int .i64 (vA xs j : Int)) ∧ cmN t n u v = vA xs j) := by
            refine ⟨k - 1, by omega, ?_, hv⟩
            have h := hc1 (k - 1) (by rw [iN_len, ← HPE.out]; omega)
            rw [iN_get] at h; exact h
          clear hc1 hc2 HFIN HNX HK0 hv e
          go_wp2_with fail
          go_quiet (fail)
          go_upto_region 5 with fail
          obtain ⟨j, rfl, GJ, hv⟩ := HJ.out
          have HV := Lib.hid hv
          clear hv HJ
          generalize vA xs j = r at *
          go_wp2_with fail
          go_ret
          exact ⟨by rw [HV.out]; rfl, bl_drewN HB2.out (m + nq)⟩
      · have hk0 : 0 < k := by omega
        have hv := HFIN.out (by omega) (.inr (.inl (by omega)))
        have HJ : Hid (∃ j, k = j + 1 ∧ w2.cell? ⟨b1, o1 + j, none⟩ = some (.int .i64 (vA xs j : Int)) ∧ cmN t n u v = vA xs j) := by
          refine ⟨k - 1, by omega, ?_, hv⟩
          have h := hc1 (k - 1) (by rw [iN_len, ← HPE.out]; omega)
          rw [iN_get] at h; exact h
        clear hc1 hc2 HFIN HNX HK0 hv 
        go_wp2_with fail
        go_quiet (fail)
        go_upto_region 5 with fail
        obtain ⟨j, rfl, GJ, hv⟩ := HJ.out
        have HV := Lib.hid hv
        clear hv HJ
        generalize vA xs j = r at *
        go_wp2_with fail
        go_ret
        exact ⟨by rw [HV.out]; rfl, bl_drewN HB2.out (m + nq)⟩
    · have hk0 : 0 < k := by omega
      have hv := HFIN.out (by omega) (.inl (by omega))
      have HJ : Hid (∃ j, k = j + 1 ∧ w2.cell? ⟨b1, o1 + j, none⟩ = some (.int .i64 (vA xs j : Int)) ∧ cmN t n u v = vA xs j) := by
        refine ⟨k - 1, by omega, ?_, hv⟩
        have h := hc1 (k - 1) (by rw [iN_len, ← HPE.out]; omega)
        rw [iN_get] at h; exact h
      clear hc1 hc2 HFIN HNX HK0 hv 
      go_wp2_with fail
      go_quiet (fail)
      go_upto_region 5 with fail
      obtain ⟨j, rfl, GJ, hv⟩ := HJ.out
      have HV := Lib.hid hv
      clear hv HJ
      generalize vA xs j = r at *
      go_wp2_with fail
      go_ret
      exact ⟨by rw [HV.out]; rfl, bl_drewN HB2.out (m + nq)⟩
end Go.Proofs.YtnabbmdhhddfbaaDoor
