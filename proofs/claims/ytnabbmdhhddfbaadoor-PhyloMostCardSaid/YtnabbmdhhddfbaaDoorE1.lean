/- The document's Groups at every table. -/
import Derived.Test.YtnabbmdhhddfbaaDoorA17
import Derived.Test.YtnabbmdhhddfbaaDoorA5
import Derived.Test.YtnabbmdhhddfbaaDoorB0
namespace Go.Proofs.YtnabbmdhhddfbaaDoor
open Go Go.RowKit Go.Shelf
theorem encV_oneL : ∀ x : Nat, ∀ u ∈ encV x, u.oneCell' = true := fun x u hu => by simp [encV] at hu; subst hu; rfl
theorem rd_takeV {w : World} {a : Option Addr} {l : List Nat} (h : Rd w a (fl encV l)) (k : Nat) : Rd w a (fl encV (l.take k)) := by
  intro h0
  rw [fl_length encV_len] at h0
  have h1 : 0 < l.length := by rw [List.length_take] at h0; omega
  obtain ⟨b, o, e, hb, hc⟩ := rd_elem encV_len h (by omega) h1
  refine ⟨b, o, e, hb, fun i hi => ?_⟩
  rw [fl_length encV_len, List.length_take] at hi
  have := hc i (by omega) 0 (by omega)
  simp only [Nat.mul_one, Nat.add_zero] at this
  rw [this]
  have h2 := fl_getElem? encV_len (l.take k) i 0 (by omega)
  rw [Nat.mul_one, Nat.add_zero] at h2
  rw [List.getD_eq_getElem?_getD, h2, List.getElem?_take, if_pos (by omega), List.getElem?_eq_getElem (l := l) (show i < l.length by omega)]
  rfl
theorem befN_le (z : Nat) (out : List Nat) : befN z out ≤ out.length := by
  unfold befN
  have := (List.takeWhile_sublist (fun y => setBef y z) (l := out)).length_le
  exact this
theorem befN_lt {z : Nat} {out : List Nat} {j : Nat} (h : j < befN z out) : setBef (vA out j) z = true := by
  have hl := befN_le z out
  have h1 : (out.takeWhile (fun y => setBef y z))[j]'h ∈ out.takeWhile (fun y => setBef y z) := List.getElem_mem _
  have h2 := List.all_eq_true.1 (List.all_takeWhile (l := out) (p := fun y => setBef y z)) _ h1
  have hp := (List.takeWhile_prefix (fun y => setBef y z) (l := out))
  rw [hp.getElem h] at h2
  rw [vA_get (by omega)]
  exact h2
theorem befN_at {z : Nat} {out : List Nat} (h : befN z out < out.length) : setBef (vA out (befN z out)) z = false := by
  have h1 := List.takeWhile_append_dropWhile (p := fun y => setBef y z) (l := out)
  have hne : out.dropWhile (fun y => setBef y z) ≠ [] := by
    intro e
    rw [e, List.append_nil] at h1
    unfold befN at h
    rw [h1] at h
    omega
  have h2 := List.head_dropWhile_not (fun y => setBef y z) hne
  have h3 : vA out (befN z out) = (out.dropWhile (fun y => setBef y z)).head hne := by
    rw [vA_get h]
    have h4 : out[befN z out]? = (out.takeWhile (fun y => setBef y z) ++ out.dropWhile (fun y => setBef y z))[befN z out]? := by rw [h1]
    rw [List.getElem?_append_right (by unfold befN; exact Nat.le_refl _)] at h4
    have hh : (out.takeWhile (fun y => setBef y z)).length < out.length := h
    unfold befN at h4 ⊢
    rw [Nat.sub_self, ← List.head?_eq_getElem?, List.head?_eq_some_head hne, List.getElem?_eq_getElem hh] at h4
    exact Option.some.inj h4
  rw [h3]
  simpa using h2
/-- While the place is looked for: k ≤ befN, and behind the last 'before' it is found. -/
theorem befN_eq {z : Nat} {out : List Nat} {k : Nat} (h : k ≤ befN z out) (h2 : k = out.length ∨ setBef (vA out k) z = false) : k = befN z out := by
  have hl := befN_le z out
  rcases h2 with h2 | h2
  · omega
  · rcases Nat.lt_or_ge k (befN z out) with h3 | h3
    · rw [befN_lt h3] at h2; cases h2
    · omega
theorem befN_next {z : Nat} {out : List Nat} {k : Nat} (h : k ≤ befN z out) (hk : k < out.length) (h2 : setBef (vA out k) z = true) : k + 1 ≤ befN z out := by
  rcases Nat.lt_or_ge k (befN z out) with h3 | h3
  · omega
  · obtain rfl : k = befN z out := by omega
    rw [befN_at hk] at h2; cases h2
theorem all_takeV {p : Nat → Bool} {l : List Nat} {k : Nat} (h : k < l.length) : (l.take (k + 1)).all p = ((l.take k).all p && p (vA l k)) := by
  rw [List.take_succ_eq_append_getElem h, List.all_append, vA_get h]
  simp
/-- s[k:] of a slice that is read as a list. -/
theorem slice_from {w0 : World} (A : Option Addr) (q cb k : Nat) (out : List Nat) (hk : k ≤ q) (hcap : q ≤ cb) (hR : Rd w0 A (fl encV out)) (hq : q = out.length) (hA0 : A = none → q = 0) :
    ∃ A', (∀ W, Sem.run Tryd.prog (Instr.slice 22 (.slice A q cb) (some (.int .i64 (k : Int))) none none) W = .ok (.slice A' (q - k) (cb - k)) W) ∧ Rd w0 A' (fl encV (out.drop k)) ∧ (A' = none → q - k = 0) := by
  have hl1 : (k : Int) ≤ (q : Int) := by omega
  refine ⟨if cb = k then A else A.map (·.add k), fun W => ?_, ?_, ?_⟩
  · by_cases e : cb = k
    · subst e
      simp [go_sem, hl1]
    · simp [go_sem, hl1, e]
  · intro h0
    have h1 : 0 < (out.drop k).length := by rw [fl_length encV_len] at h0; omega
    rw [List.length_drop] at h1
    obtain ⟨b, o, rfl, hb, hc⟩ := rdV hR (by omega)
    rw [if_neg (by omega)]
    have h2 := rd_dropV hR k h0
    have e : (some (⟨b, o, none⟩ : Addr)).map (·.add k) = some ⟨b, o + k, none⟩ := by
      by_cases e0 : k = 0
      · subst e0; rfl
      · simp [Addr.add, e0]
    rw [e]; exact h2
  · intro h
    split at h
    · omega
    · cases hA : A with
      | none => have := hA0 hA; omega
      | some x => rw [hA] at h; cases h
set_option maxRecDepth 100000 in
set_option maxHeartbeats 4000000 in
theorem rgrp_any (L : Int) (a : Option Addr) (N c : Nat) (l : List Nat) (w : World) (hl : l.length = N) (hN : N ≤ 1152921504606846976) (hA : Rd w a (fl encV l)) (hF : FitV l) :
    Calls Tryd.prog 29 #[.agg #[.int .i64 L, .slice a N c]] w fun e w' => ∃ v', e = .returned (.tuple #[v', .int .i64 (chkT L l)]) ∧ (chkT L l ≠ 0 → v' = .slice none 0 0) ∧ (chkT L l = 0 → w'.ownsRow w.heap.size 44 1 v' (grpsN L.toNat l).length (fl encV (grpsN L.toNat l))) ∧ Below w.heap.size w w' := by
  have hb0 := bl_alloc (Below.refl _ w) (.cells #[.int .i64 L, .slice a N c] 32)
  have hB := Blk.new w #[.int .i64 L, .slice a N c] 32
  have HL := Lib.hid hl
  have HF := Lib.hid hF
  have HC := Lib.hid (rtchk_any L a N c l (w.alloc (.cells #[.int .i64 L, .slice a N c] 32)) hl hN (hA.bl hb0) hF)
  have HA := Lib.hid (hA.bl hb0)
  clear hl hA hF
  obtain ⟨X, hX⟩ : ∃ X, X = w.heap.size := ⟨_, rfl⟩
  go_enter Tryd.func29, Tryd.ntmps29
  go_wp2_with fail
  refine HC.out.mono ?_
  rintro e w2 ⟨rfl, hb2⟩
  have hb3 := bl_trans hb0 hb2
  have hB2 := hB.below hb2
  have HA2 := Lib.hid (HA.out.bl hb2)
  rw [← hX] at hB2 ⊢
  have HB3 := Lib.hid hb3
  have e1 : w2.cell? ⟨X, 1, none⟩ = some (.slice a N c) := hB2.cell 1
  have HBX := Lib.hid hB2
  have HX := Lib.hid hX
  obtain ⟨E, hE⟩ : ∃ E, chkT L l = E := ⟨_, rfl⟩
  rw [hE]
  have HE := Lib.hid hE
  clear hE hX hB2 hb3 hB hb0 hb2 HA HC
  by_cases h0 : E = 0
  · have d0 : (E == 0) = true := by simp [h0]
    subst h0
    have hk : 0 ≤ L ∧ L ≤ 32 ∧ l.length ≤ 64 := by
      have h := HE.out
      unfold chkT at h
      by_cases q : L < 0 ∨ 32 < L
      · rw [if_pos q] at h; omega
      · rw [if_neg q] at h
        by_cases q2 : 64 < l.length
        · rw [if_pos q2] at h; omega
        · exact ⟨by omega, by omega, by omega⟩
    obtain ⟨M, rfl⟩ : ∃ M : Nat, L = M := ⟨L.toNat, by omega⟩
    have hM : M ≤ 32 := by omega
    have hn64 : N ≤ 64 := by have := HL.out; omega
    have HGF : Hid (refG M l N = grpsN M l) := by have h := refG_eq (L := M) HF.out; rw [HL.out] at h; exact h
    clear hk d0
    go_upto_region 6 with fail
    go_loopw [6, 5] (fun x v wr => ∃ i : Nat, i ≤ N ∧ x = .int .i64 i ∧ Hid (wr.ownsRow w2.heap.size 44 1 v (refG M l i).length (fl encV (refG M l i))) ∧ Hid (Below w2.heap.size w2 wr)) (fun x _ _ => N - (intOf x).toNat)
    case atStart => exact ⟨0, by omega, rfl, World.ownsRow_nil _ _ _ _, Below.refl _ _⟩
    case round =>
      clear e1
      obtain ⟨i, hi, rfl, how, hbl⟩ := hrel
      have hbx := HBX.out.below hbl.out
      have e0 : wr.cell? ⟨X, 0, none⟩ = some (.int .i64 M) := hbx.cell 0
      have e1 : wr.cell? ⟨X, 1, none⟩ = some (.slice a N c) := hbx.cell 1
      by_cases hin : i < N
      · have HR := Lib.hid (HA2.out.bl hbl.out)
        obtain ⟨ba, oa, rfl, hba, hca⟩ := rdV HR.out (by rw [HL.out]; omega)
        have G := hca i (by rw [HL.out]; exact hin)
        have hx := HF.out i (by rw [HL.out]; exact hin)
        have hgs : Hid (refG M l (i + 1) = if okR M l (vA l i) (refG M l i) then insG (vA l i) (refG M l i) else refG M l i) := rfl
        have hlo := refG_le M l i
        obtain ⟨out, hout⟩ : ∃ x, x = refG M l i := ⟨_, rfl⟩
        rw [← hout] at how hgs hlo
        obtain ⟨q, hq⟩ : ∃ q, q = out.length := ⟨_, rfl⟩
        rw [← hq] at how hlo
        have HQ := Lib.hid hq
        have hok : Hid (∀ z, okR M l z out = (((decide (2 ≤ cntB z 64) && !decide (z = 2 ^ M - 1)) && l.all (fitB z)) && out.all (fun y => !decide (y = z)))) := fun _ => rfl
        have HFO : Hid (∀ j, j < q → vA out j < 18446744073709551616) := fun j hj => by
          have hm : vA out j ∈ grpL M l i := by
            rw [← (refG_ok (L := M) HF.out i (by rw [HL.out]; omega)).2, ← hout, vA_get (by rw [← hq]; exact hj)]
            exact List.getElem_mem _
          exact grpL_lt HF.out i _ hm
        have hcl := cntB_le (vA l i) 64
        have HSZ := Lib.hid (fun W => size_any (vA l i) W hx)
        have HRA := Lib.hid (fun W => rall_any M (some ⟨ba, oa, none⟩) N c W hM)
        obtain ⟨Ab, cb, rfl, _⟩ := owns_slice how.out
        clear hca hout hq hbx
        generalize vA l i = z at *
        have hok := Lib.hid (hok.out z)
        obtain ⟨cn, hcn⟩ : ∃ x, cntB z 64 = x := ⟨_, rfl⟩
        rw [hcn] at HSZ hcl hok
        clear hcn
        have hok := Lib.hid hok.out
        obtain ⟨al, hal⟩ : ∃ x, 2 ^ M - 1 = x := ⟨_, rfl⟩
        rw [hal] at HRA hok
        clear hal
        go_upto_region 9 with fail
        go_cut [8] (fun s wx => s = .bool (decide (2 ≤ cn) && !decide (z = al)) ∧ Below wr.heap.size wr wx)
        case first =>
          clear hok
          by_cases h2 : 2 ≤ cn
          · have d1 : decide ((2 : Int) ≤ (cn : Int)) = true := decide_eq_true (by omega)
            have d2 : decide (2 ≤ cn) = true := decide_eq_true h2
            have HD2 := Lib.hid d2
            by_cases h3 : z = al
            · have t1 : ((z : Int) != (al : Int)) = false := by simp [h3]
              have HD3 := Lib.hid (decide_eq_true h3)
              clear h3
              go_wp2_with fail
              refine (HSZ.out _).mono ?_
              rintro e w3 ⟨rfl, rfl⟩
              go_wp2_with fail
              refine (HRA.out _).mono ?_
              rintro e w4 ⟨rfl, hb4⟩
              go_wp2_with fail
              go_meet
              exact ⟨by rw [HD2.out, HD3.out]; rfl, hb4⟩
            · have t1 : ((z : Int) != (al : Int)) = true := by simp; omega
              have HD3 := Lib.hid (decide_eq_false h3)
              clear h3
              go_wp2_with fail
              refine (HSZ.out _).mono ?_
              rintro e w3 ⟨rfl, rfl⟩
              go_wp2_with fail
              refine (HRA.out _).mono ?_
              rintro e w4 ⟨rfl, hb4⟩
              go_wp2_with fail
              go_meet
              exact ⟨by rw [HD2.out, HD3.out]; rfl, hb4⟩
          · have d1 : decide ((2 : Int) ≤ (cn : Int)) = false := decide_eq_false (by omega)
            have d2 : decide (2 ≤ cn) = false := decide_eq_false h2
            have HD2 := Lib.hid d2
            go_wp2_with fail
            refine (HSZ.out _).mono ?_
            rintro e w3 ⟨rfl, rfl⟩
            go_wp2_with fail
            go_meet
            exact ⟨by rw [HD2.out]; rfl, Below.refl _ _⟩
        case rest =>
          obtain ⟨rfl, hbc⟩ := hcut
          have HOW := Lib.hid (owns_below how.out hbc)
          have HBC := Lib.hid (bl_trans hbl.out hbc)
          have HRC := Lib.hid (HR.out.bl hbc)
          have f1 : wc.cell? ⟨X, 1, none⟩ = some (.slice (some ⟨ba, oa, none⟩) N c) := (HBX.out.below HBC.out).cell 1
          obtain ⟨b12, hb12⟩ : ∃ b, (decide (2 ≤ cn) && !decide (z = al)) = b := ⟨_, rfl⟩
          rw [hb12] at hok ⊢
          clear e0 e1 hb12 hbc how hbl HR G
          obtain ⟨wo, rfl⟩ : ∃ x : World, x = wc := ⟨_, rfl⟩
          go_upto_region 11 with fail
          go_loopw [9, 8] (fun x v wx => ∃ k : Nat, k ≤ N ∧ x = .int .i64 k ∧ v = .bool (b12 && (l.take k).all (fitB z)) ∧ wx = wo) (fun x _ _ => N - (intOf x).toNat)
          case atStart => exact ⟨0, by omega, rfl, by simp, rfl⟩
          case round =>
            obtain ⟨k, hk, rfl, rfl, rfl⟩ := hrel
            by_cases hkn : k < N
            · obtain ⟨b', o', e', hb', hca⟩ := rdV HRC.out (by rw [HL.out]; omega)
              have e2 := Option.some.inj e'
              obtain rfl := (Addr.mk.inj e2).1
              obtain rfl := (Addr.mk.inj e2).2.1
              have G := hca k (by rw [HL.out]; exact hkn)
              have hy := HF.out k (by rw [HL.out]; exact hkn)
              have hst := Lib.hid (all_takeV (p := fitB z) (l := l) (k := k) (by rw [HL.out]; exact hkn))
              have HFT := Lib.hid (fun W => rfit_any z (vA l k) W hx hy)
              clear hca e' e2 hy
              generalize vA l k = y at *
              obtain ⟨fb, hfb⟩ : ∃ b, fitB z y = b := ⟨_, rfl⟩
              rw [hfb] at HFT hst
              clear hfb
              obtain ⟨ok, hok2⟩ : ∃ b, (b12 && (l.take k).all (fitB z)) = b := ⟨_, rfl⟩
              have HN2 : Hid ((b12 && (l.take (k + 1)).all (fitB z)) = (ok && fb)) := by show _ = _; rw [hst.out, ← Bool.and_assoc, hok2]
              rw [hok2]
              clear hok2 hst
              cases ok with
              | true =>
                go_wp2_with fail
                refine (HFT.out _).mono ?_
                rintro e w3 ⟨rfl, rfl⟩
                go_wp2_with fail
                go_roundw
                case rel => exact ⟨k + 1, by omega, by go_num, by rw [HN2.out]; rfl, by trivial⟩
                case measure => simp [intOf]; omega
              | false =>
                go_wp2_with fail
                go_roundw
                case rel => exact ⟨k + 1, by omega, by go_num, by rw [HN2.out]; rfl, by trivial⟩
                case measure => simp [intOf]; omega
            · obtain rfl : N = k := by omega
              have hall : l.take N = l := List.take_of_length_le (by rw [HL.out]; exact Nat.le_refl _)
              rw [hall]
              obtain ⟨b13, hb13⟩ : ∃ b, (b12 && l.all (fitB z)) = b := ⟨_, rfl⟩
              rw [hb13] at hok ⊢
              clear hb13 hall
              obtain ⟨wp, rfl⟩ : ∃ x : World, x = wr := ⟨_, rfl⟩
              go_upto_region 15 with fail
              go_loopw [10, 8] (fun x v wx => ∃ k : Nat, k ≤ q ∧ x = .int .i64 k ∧ v = .bool (b13 && (out.take k).all (fun y => !decide (y = z))) ∧ wx = wp) (fun x _ _ => q - (intOf x).toNat)
              case atStart => exact ⟨0, by omega, rfl, by simp, rfl⟩
              case round =>
                obtain ⟨k, hk, rfl, rfl, rfl⟩ := hrel
                by_cases hkq : k < q
                · obtain ⟨b8, o8, rfl, _, hc8⟩ := rdV (rd_of_owns HOW.out) (by rw [← HQ.out]; omega)
                  have G := hc8 k (by rw [← HQ.out]; exact hkq)
                  have hst := Lib.hid (all_takeV (p := fun y => !decide (y = z)) (l := out) (k := k) (by rw [← HQ.out]; exact hkq))
                  clear hc8
                  generalize vA out k = y at *
                  obtain ⟨ok, hok2⟩ : ∃ b, (b13 && (out.take k).all (fun y => !decide (y = z))) = b := ⟨_, rfl⟩
                  have HN2 : Hid ((b13 && (out.take (k + 1)).all (fun y => !decide (y = z))) = (ok && !decide (y = z))) := by show _ = _; rw [hst.out, ← Bool.and_assoc, hok2]
                  rw [hok2]
                  clear hok2 hst
                  cases ok with
                  | true =>
                    by_cases hyz : y = z
                    · have t1 : ((y : Int) != (z : Int)) = false := by simp [hyz]
                      have HD := Lib.hid (decide_eq_true hyz)
                      clear hyz
                      go_wp2_with fail
                      go_roundw
                      case rel => exact ⟨k + 1, by omega, by go_num, by rw [HN2.out, HD.out]; rfl, by trivial⟩
                      case measure => simp [intOf]; omega
                    · have t1 : ((y : Int) != (z : Int)) = true := by simp; omega
                      have HD := Lib.hid (decide_eq_false hyz)
                      clear hyz
                      go_wp2_with fail
                      go_roundw
                      case rel => exact ⟨k + 1, by omega, by go_num, by rw [HN2.out, HD.out]; rfl, by trivial⟩
                      case measure => simp [intOf]; omega
                  | false =>
                    go_wp2_with fail
                    go_roundw
                    case rel => exact ⟨k + 1, by omega, by go_num, by rw [HN2.out]; rfl, by trivial⟩
                    case measure => simp [intOf]; omega
                · obtain rfl : q = k := by omega
                  have hall : out.take q = out := List.take_of_length_le (by rw [← HQ.out]; exact Nat.le_refl _)
                  rw [hall]
                  rw [← hok.out]
                  obtain ⟨kp, hkp⟩ : ∃ b, okR M l z out = b := ⟨_, rfl⟩
                  rw [hkp] at hgs ⊢
                  clear hkp hall hok
                  cases kp with
                  | false =>
                    have hg2 : Hid (refG M l (i + 1) = out) := hgs.out
                    go_wp2_with fail
                    go_roundw
                    case rel => exact ⟨i + 1, by omega, by go_num, by rw [hg2.out, ← HQ.out]; exact HOW, HBC⟩
                    case measure => simp [intOf]; omega
                  | true =>
                    have hg2 : Hid (refG M l (i + 1) = insG z out) := hgs.out
                    have hble := befN_le z out
                    rw [← HQ.out] at hble
                    obtain ⟨wq, rfl⟩ : ∃ x : World, x = wr := ⟨_, rfl⟩
                    go_upto_block 6 with fail
                    go_cut [11] (fun s wx => s = .int .i64 (befN z out : Nat) ∧ wx = wq)
                    case first =>
                      go_upto_region 20 with fail
                      go_loopw [11] (fun x wx => ∃ k : Nat, k ≤ befN z out ∧ x = .int .i64 k ∧ wx = wq) (fun x _ => q - (intOf x).toNat)
                      case atStart => exact ⟨0, by omega, rfl, rfl⟩
                      case round =>
                        obtain ⟨k, hk, rfl, rfl⟩ := hrel
                        have HEND : Hid (∀ k, k = befN z out → True) := fun _ _ => trivial
                        by_cases hkq : k < q
                        · obtain ⟨b8, o8, rfl, _, hc8⟩ := rdV (rd_of_owns HOW.out) (by rw [← HQ.out]; omega)
                          have G := hc8 k (by rw [← HQ.out]; exact hkq)
                          have hy := HFO.out k hkq
                          have HBE := Lib.hid (fun W => before_any (vA out k) z W hy hx)
                          have HNX : Hid (setBef (vA out k) z = true → k + 1 ≤ befN z out) := fun h => befN_next hk (by rw [← HQ.out]; exact hkq) h
                          have HEQ : Hid (setBef (vA out k) z = false → k = befN z out) := fun h => befN_eq hk (.inr h)
                          clear hc8 hy
                          generalize vA out k = y at *
                          obtain ⟨sb, hsb⟩ : ∃ b, setBef y z = b := ⟨_, rfl⟩
                          rw [hsb] at HBE HNX HEQ
                          clear hsb
                          cases sb with
                          | true =>
                            have hk1 := HNX.out rfl
                            go_wp2_with fail
                            refine (HBE.out _).mono ?_
                            rintro e w3 ⟨rfl, rfl⟩
                            go_wp2_with fail
                            go_roundw
                            case rel => exact ⟨k + 1, by omega, by go_num, by trivial⟩
                            case measure => simp [intOf]; omega
                          | false =>
                            have hk1 := Lib.hid (HEQ.out rfl)
                            go_wp2_with fail
                            refine (HBE.out _).mono ?_
                            rintro e w3 ⟨rfl, rfl⟩
                            go_wp2_with fail
                            go_meet
                            exact ⟨by rw [← hk1.out], rfl⟩
                        · have hk1 := Lib.hid (befN_eq hk (.inl (by rw [← HQ.out]; omega)))
                          go_wp2_with fail
                          go_meet
                          exact ⟨by rw [← hk1.out], rfl⟩
                    case rest =>
                      obtain ⟨rfl, rfl⟩ := hcut
                      obtain ⟨k, hk⟩ : ∃ k, k = befN z out := ⟨_, rfl⟩
                      rw [← hk] at hble ⊢
                      have HK := Lib.hid hk
                      clear hk
                      have hcap : q ≤ cb ∧ cb ≤ 9223372036854775807 := by
                        rcases HOW.out.2 with ⟨hv, hn⟩ | ⟨g, cap', cur, hv, hg, hh, hn, hm, _⟩
                        · cases hv; exact ⟨by omega, by omega⟩
                        · cases hv; exact ⟨hn, by unfold maxLen at hm; omega⟩
                      obtain ⟨hcap1, hcap2⟩ := hcap
                      have hkcb : k ≤ cb := by omega
                      have hown0 : (wc.alloc (.cells #[] 44)).ownsRow wc.heap.size 44 1 (.slice (some ⟨wc.heap.size, 0, none⟩) 0 0) 0 (fl encV []) := owns_made (k := 1) (cs := #[]) (Nat.le_refl _) rfl (by unfold maxLen; omega)
                      have hb1 := bl_alloc (Below.refl wc.heap.size wc) (.cells #[] 44)
                      have HRO := Lib.hid (rd_of_owns HOW.out)
                      have HA0 : Hid (Ab = none → q = 0) := fun e => by
                        rcases HOW.out.2 with ⟨hv, hn⟩ | ⟨g, cap', cur, hv, _⟩
                        · exact hn
                        · rw [e] at hv; cases hv
                      have HT : Hid (k = (out.take k).length) := by show _ = _; rw [List.length_take, ← HQ.out]; omega
                      obtain ⟨w5, hw5⟩ : ∃ x, x = wc.alloc (.cells #[] 44) := ⟨_, rfl⟩
                      obtain ⟨B5, hB5⟩ : ∃ x, x = wc.heap.size := ⟨_, rfl⟩
                      have HOWN0 := Lib.hid hown0
                      have HB1 := Lib.hid hb1
                      have HRT := Lib.hid (rd_takeV (HRO.out.bl hb1) k)
                      clear hown0 hb1 hw5 hB5
                      go_upto_region 23 with (at_builtin; refine wpList_pushs rfl encV_len (by decide) encV_oneL Tryd.underlying22 info_V rfl (.tmp 87) (.tmp 90) rfl (.slice (some ⟨wc.heap.size, 0, none⟩) 0 0) [] 0 rfl rfl HOWN0.out Ab k cb (out.take k) HT.out rfl HRT.out (fun e => by have := HA0.out e; omega) (by omega) (by decide) HB1.out.size ?_; intro v1 w6 h1 h2 h3; rw [Nat.zero_add, List.nil_append] at h1; have H1 := Lib.hid h1; have H2 := Lib.hid h2; clear h1 h2 h3)
                      have HOO := Lib.hid (fun (r : Nat) (e : v1.ownBlock = some r) => (H1.out.lt r e).1)
                      have HB6 := Lib.hid (bl_grown HB1.out H2.out (fun r e => by have := (HOWN0.out.lt r e).1; exact this))
                      have hbase6 : wc.heap.size ≤ (w6.alloc (.cells #[.int .u64 z] 44)).heap.size := (bl_alloc HB6.out _).size
                      go_upto_region 24 with (at_builtin; refine push_V rfl (.tmp 92) (.tmp 94) rfl wc.heap.size v1 (out.take k) k HT.out rfl (H1.out.alloc _) _ _ z rfl (Blk.new _ _ _) (by omega) hbase6 ?_; intro g7 c7 w7 h1 h2 h3 h4; have H71 := Lib.hid h1; have H72 := Lib.hid h2; clear h1 h2 h3)
                      have HB7 := Lib.hid (bl_grown (bl_alloc HB6.out (.cells #[.int .u64 z] 44)) H72.out (fun r e => HOO.out r e))
                      obtain ⟨A', hsl, hRA', hA'0⟩ := slice_from (w0 := w7) Ab q cb k out hble hcap1 (HRO.out.bl HB7.out) HQ.out HA0.out
                      have HRA2 := Lib.hid hRA'
                      have HDL : Hid (q - k = (out.drop k).length) := by show _ = _; rw [List.length_drop, ← HQ.out]
                      have HT2 : Hid (k + 1 = (out.take k ++ [z]).length) := by show _ = _; rw [List.length_append, ← HT.out]; rfl
                      clear hRA'
                      go_wp2_with (at_builtin; refine wpList_pushs rfl encV_len (by decide) encV_oneL Tryd.underlying22 info_V rfl (.tmp 96) (.tmp 99) rfl (.slice (some ⟨g7, 0, none⟩) (k + 1) c7) (out.take k ++ [z]) (k + 1) HT2.out rfl H71.out A' (q - k) (cb - k) (out.drop k) HDL.out rfl HRA2.out hA'0 (by omega) (by decide) HB7.out.size ?_; intro v8 w8 h1 h2 h3; have H81 := Lib.hid h1; have H82 := Lib.hid h2; clear h1 h2 h3)
                      have HB8 := Lib.hid (bl_grown HB7.out H82.out (fun r e => (H71.out.lt r e).1))
                      have hlen : (insG z out).length = k + 1 + (q - k) := by
                        unfold insG
                        rw [← HK.out, List.length_append, ← HT2.out, ← HDL.out]
                      have hin2 : out.take k ++ [z] ++ out.drop k = insG z out := by unfold insG; rw [← HK.out]
                      have h9 : w8.ownsRow w2.heap.size 44 1 v8 (refG M l (i + 1)).length (fl encV (refG M l (i + 1))) := by
                        rw [hg2.out, hlen, ← hin2]
                        exact owns_mono H81.out HBC.out.size
                      go_roundw
                      case rel => exact ⟨i + 1, by omega, by go_num, h9, bl_trans HBC.out HB8.out⟩
                      case measure => simp [intOf]; omega
      · obtain rfl : N = i := by omega
        obtain ⟨Ab, cb, rfl, _⟩ := owns_slice how.out
        have HO9 := Lib.hid (owns_mono how.out HB3.out.size)
        rw [HGF.out] at HO9 ⊢
        obtain ⟨z, hz⟩ : ∃ z, z = (grpsN M l).length := ⟨_, rfl⟩
        rw [← hz] at HO9 ⊢
        have HZ := Lib.hid hz
        have HB9 := Lib.hid (bl_trans HB3.out hbl.out)
        clear how hbl hz
        go_wp2_with fail
        exact bodyPost_ret (v := .tuple #[.slice Ab z cb, .int .i64 0]) (by simp [results, Tryd.results29, go_sem]) rfl ⟨_, by rw [HE.out], fun h => absurd HE.out h, fun _ => by rw [Int.toNat_natCast, ← HZ.out]; exact HO9.out, HB9.out⟩
  · have d0 : (E == 0) = false := by simp [h0]
    have d1 : (E != 0) = true := by simp [h0]
    have h00 := Lib.hid h0
    clear h0
    go_wp2_with fail
    exact bodyPost_ret (v := .tuple #[.slice none 0 0, .int .i64 E]) (by simp [results, Tryd.results29, go_sem]) rfl ⟨_, by rw [HE.out], fun _ => rfl, fun h => absurd (HE.out.symm.trans h) h00.out, HB3.out⟩
end Go.Proofs.YtnabbmdhhddfbaaDoor
