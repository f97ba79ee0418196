/- slices.symMergeCmpFunc at every length; stableCmpFunc, SortStableFunc. -/
import Derived.Test.YtahgffjkkdbjeaaDoorZ5
import Derived.Deep.CutRange
namespace Go.Proofs.YtahgffjkkdbjeaaDoor
open Go.RowKit

theorem Same.bound {f f' : Nat → Nat} {a b N M : Nat} (h : Same f f' a b) (hb : b ≤ N) (hM : ∀ p, p < N → f p < M) : ∀ p, p < N → f' p < M := by
  intro p hp
  by_cases e : a ≤ p ∧ p < b
  · obtain ⟨q, hq, hv⟩ := (h.2 _).1 ⟨p, e, rfl⟩
    rw [← hv]; exact hM q (by omega)
  · rw [h.1 p e]; exact hM p hp
theorem Srt.congr {K f f' : Nat → Nat} {a b : Nat} (h : Srt K f a b) (e : ∀ p, a ≤ p → p < b → f' p = f p) : Srt K f' a b := fun p q h1 h2 h3 => by rw [e p h1 (by omega), e q (by omega) h3]; exact h p q h1 h2 h3
theorem MergePre.congr {K f f' : Nat → Nat} {a m b : Nat} (h : MergePre K f a m b) (e : ∀ p, a ≤ p → p < b → f' p = f p) : MergePre K f' a m b := by
  have am := h.am
  have mb := h.mb
  refine ⟨am, mb, h.left.congr fun p h1 h2 => e p h1 (by omega), h.right.congr fun p h1 h2 => e p (by omega) h2, fun p q h1 h2 h3 h4 h5 => ?_⟩
  rw [e p h1 (by omega), e q (by omega) h4] at h5 ⊢
  exact h.tie p q h1 h2 h3 h4 h5
theorem merge_end {K f f1 f2 f3 : Nat → Nat} {a m b mid s t : Nat} (h : Halves K f f1 a m b mid s t) (s2 : Same f1 f2 a mid) (r2 : Srt K f2 a mid) (s3 : Same f2 f3 mid b) (r3 : Srt K f3 mid b) : Srt K f3 a b ∧ Same f f3 a b := by
  have hr := h.rng
  constructor
  · refine h.done (fun p hp => by rw [s3.1 p (by omega), s2.1 p (by omega)]) (fun p h1 h2 => ?_) (fun p h1 h2 => ?_) (r2.congr fun p h1 h2 => s3.1 p (by omega)) r3
    · obtain ⟨q, hq, e⟩ := (s2.2 _).1 ⟨p, ⟨h1, h2⟩, rfl⟩
      exact ⟨q, hq, by rw [e, s3.1 p (by omega)]⟩
    · obtain ⟨q, hq, e⟩ := (s3.2 _).1 ⟨p, ⟨h1, h2⟩, rfl⟩
      exact ⟨q, hq, by rw [← e, s2.1 q (by omega)]⟩
  · exact h.same.trans ((s2.wide (by omega) (by omega)).trans (s3.wide (by omega) (by omega)))

set_option maxRecDepth 100000 in
set_option maxHeartbeats 16000000 in
theorem symM (z : Nat) : ∀ (g cap N a m b M : Nat) (K f : Nat → Nat) (c1 c2 : Value) (w : World), b - a ≤ z → N ≤ 1152921504606846976 → b ≤ N → FN w g cap N f → (∀ p, p < N → f p < M) →
    MergePre K f a m b → CmpOk c1 c2 K M g w →
    Calls Tryd.prog 101 #[.slice (some ⟨g, 0, none⟩) N cap, .int .i64 a, .int .i64 m, .int .i64 b, .func (.func 51) #[] #[c1, c2]] w (InsPost w g cap N a b K f) := by
  induction z with
  | zero => intro g cap N a m b M K f c1 c2 w hz hN hb hF hM hp hc; have := hp.am; have := hp.mb; omega
  | succ z ih =>
    intro g cap N a m b M K f c1 c2 w hz hN hb hF hM hp hc
    have am := hp.am
    have mb := hp.mb
    by_cases x1 : m = a + 1
    · exact symL g cap N a m b M K f c1 c2 w hN hb hF hM hp hc x1
    · by_cases x2 : b = m + 1
      · exact symR g cap N a m b M K f c1 c2 w hN hb hF hM hp hc (by omega) x2
      · have am1 : a + 1 < m := by omega
        have mb1 : m + 1 < b := by omega
        have hc0 : (((m : Int) - (a : Int)) == 1) = false := by simp; omega
        have hc1 : (((b : Int) - (m : Int)) == 1) = false := by simp; omega
        obtain ⟨mid, hmid⟩ : ∃ mid, mid = (a + b) / 2 := ⟨_, rfl⟩
        have w1 : ((a : Int) + (b : Int)) / 2 = (mid : Int) := by omega
        obtain ⟨pp, hpp⟩ : ∃ pp, pp = mid + m - 1 := ⟨_, rfl⟩
        have w2 : (mid : Int) + (m : Int) - 1 = (pp : Int) := by omega
        obtain ⟨s0, r0, hbd⟩ : ∃ s0 r0, Bds a m b mid s0 r0 := by
          rcases Nat.lt_or_ge mid m with e | e
          · exact ⟨_, _, hmid, .inl ⟨e, rfl, rfl⟩⟩
          · exact ⟨_, _, hmid, .inr ⟨e, rfl, rfl⟩⟩
        have hok := hbd.ok am mb
        have hs0 : a ≤ s0 := by omega
        have hsr : s0 ≤ r0 := by omega
        have hrm : r0 ≤ m := by omega
        have hIH := Lib.hid ih
        have HM := Lib.hid hM
        have HC := Lib.hid hc
        have HP := Lib.hid hp
        have HBD := Lib.hid hbd
        have HPP := Lib.hid hpp
        have HZ : Hid (mid - a ≤ z ∧ b - mid ≤ z) := by show _ ∧ _; omega
        have hmb : mid < b := by omega
        have ham : a ≤ mid := by omega
        have hcs := hbd.cases
        clear ih hM hc hp x1 x2 hbd hok hmid hpp hz
        have hfi0 : Hid (Find3 K f pp s0 r0 s0 r0) := by
          refine ⟨by omega, fun c h1 h2 => by omega, fun c h1 h2 => by omega⟩
        have loopEnd : ∀ s, Hid (Find3 K f pp s0 r0 s s) → ∃ t, Hid (Halves K f (rotN f s m t) a m b mid s t) ∧ t + s = mid + m ∧ s ≤ mid ∧ mid ≤ t ∧ t ≤ b ∧ s ≤ m ∧ m ≤ t ∧ a ≤ s := by
          intro s h
          have h2 := h.out
          rw [HPP.out] at h2
          have h3 := h2.halves HP.out HBD.out
          have h4 := h3.rng
          exact ⟨mid + m - s, h3, by omega, h4.2.1, h4.2.2.1, h4.2.2.2.1, h4.2.2.2.2.1, h4.2.2.2.2.2.1, h4.1⟩
        have HLE := Lib.hid loopEnd
        have hidx : ∀ c, s0 ≤ c → c < r0 → a ≤ c ∧ c < m ∧ m ≤ pp - c ∧ pp - c < b ∧ c ≤ pp := fun c h1 h2 => by
          have := HBD.out.idx am mb h1 h2
          have := HPP.out
          omega
        have HIX := Lib.hid hidx
        clear loopEnd hidx
        have HCS := Lib.hid hcs
        rcases hcs with ⟨y1, y2, y3⟩ | ⟨y1, y2, y3⟩
        all_goals
          first
            | (have w3 : (mid : Int) + (m : Int) - (b : Int) = (s0 : Int) := by omega)
            | skip
          have y2' := Lib.hid y2
          have y3' := Lib.hid y3
          clear y2 y3
          go_enter Tryd.func101, Tryd.ntmps101
          go_wp2_with fail
          go_loopw [20, 21, 23] (fun x y _ wr => ∃ i j : Nat, Hid (Find3 K f pp s0 r0 i j) ∧ s0 ≤ i ∧ i ≤ j ∧ j ≤ r0 ∧ x = .int .i64 i ∧ y = .int .i64 j ∧ FN wr g cap N f ∧ But g w wr) (fun x y _ _ => (intOf y).toNat - (intOf x).toNat)
          case atStart => exact ⟨s0, r0, hfi0, by omega, by omega, by omega, by first | go_num | (rw [y2'.out]), by first | rfl | (rw [y3'.out]), hF, But.refl _ _⟩
          case round =>
           as_aux_lemma =>
            obtain ⟨i, j, hfi, r1, r2, r3, rfl, rfl, hF, hbut0⟩ := hrel
            have HCM := Lib.hid (HC.out.but hbut0)
            by_cases hlt : i < j
            · obtain ⟨h, hh⟩ : ∃ h, h = (i + j) / 2 := ⟨_, rfl⟩
              have w4 : ((i : Int) + (j : Int)) / 2 = (h : Int) := by omega
              have b1 : i ≤ h := by omega
              have b2 : h < j := by omega
              have ix := HIX.out h (by omega) (by omega)
              obtain ⟨q, hq⟩ : ∃ q, q = pp - h := ⟨_, rfl⟩
              have w5 : (pp : Int) - (h : Int) = (q : Int) := by omega
              have w5' := wrap_nat ((pp : Int) - (h : Int)) q (by omega) (by omega)
              have bhN : h < N := by omega
              have bqN : q < N := by omega
              have ch := hF.cell h (by omega)
              have cq := hF.cell q (by omega)
              have mh := HM.out h (by omega)
              have mq := HM.out q (by omega)
              have HQ := Lib.hid hq
              clear hh hq ix
              by_cases hk : K (f q) < K (f h)
              · have hf2 : Hid (Find3 K f pp s0 r0 i h) := by
                  have h1 := hfi.out
                  rw [HQ.out] at hk
                  rw [HPP.out] at h1 hk ⊢
                  exact h1.high HP.out HBD.out b1 b2 hk
                have hcb := decide_eq_true (cmp3_neg hk)
                clear hk
                go_wp2_with fail
                go_quiet ((exact Calls.quiet_of (HCM.out _ _ _ ((But.refl _ _).drewN _) mq mh)))
                go_wp2_with fail
                go_roundw
                case rel => exact ⟨i, h, hf2, by omega, by omega, by omega, rfl, rfl, hF.drewN _, hbut0.drewN _⟩
                case measure => simp [intOf]; omega
              · have hf2 : Hid (Find3 K f pp s0 r0 (h + 1) j) := by
                  have h1 := hfi.out
                  have h2 : K (f h) ≤ K (f (pp - h)) := by rw [← HQ.out]; omega
                  rw [HPP.out] at h1 h2 ⊢
                  exact h1.low HP.out HBD.out b1 b2 h2
                have hcb := decide_eq_false (cmp3_nneg (show K (f h) ≤ K (f q) by omega))
                clear hk
                go_wp2_with fail
                go_quiet ((exact Calls.quiet_of (HCM.out _ _ _ ((But.refl _ _).drewN _) mq mh)))
                go_wp2_with fail
                go_roundw
                case rel => exact ⟨h + 1, j, hf2, by omega, by omega, by omega, by go_num, rfl, hF.drewN _, hbut0.drewN _⟩
                case measure => simp [intOf]; omega
            · have hij : i = j := by omega
              subst hij
              obtain ⟨t, hh, t0, t1, t2, t3, t4, t5, t6⟩ := HLE.out i hfi
              have w6 : (mid : Int) + (m : Int) - (i : Int) = (t : Int) := by omega
              have HT0 := Lib.hid t0
              clear hfi r1 r2 r3 hlt t0
              go_upto_region 39 with fail
              go_cut [185] (fun s185 wx => ∃ tb : Bool, s185 = .bool tb ∧ Hid (tb = true ↔ i < m ∧ m < t) ∧ FN wx g cap N f ∧ But g w wx)
              case first =>
               as_aux_lemma =>
                by_cases e1 : i < m <;> by_cases e2 : m < t
                all_goals
                  go_wp2_with fail
                  go_meet
                  exact ⟨_, rfl, by show _ ↔ _; simp [e1, e2], hF, hbut0⟩
              case rest => as_aux_lemma =>
              obtain ⟨tb, rfl, htb, hF1, hb1⟩ := hcut
              clear hF hbut0
              have hF := hF1
              have hbut0 := hb1
              clear hF1 hb1
              go_upto_if 185 with fail
              go_cut [] (fun wx => FN wx g cap N (rotN f i m t) ∧ But g w wx)
              case first =>
               as_aux_lemma =>
                cases tb
                · have e3 : i = m ∨ t = m := by have := htb.out; simp at this; omega
                  go_wp2_with fail
                  go_meet
                  exact ⟨by rw [rotN_id f t4 t5 e3]; exact hF, hbut0⟩
                · obtain ⟨e1, e2⟩ := htb.out.1 rfl
                  go_wp2_with fail
                  refine (rotate_any g cap N i m t _ _ _ hN e1 e2 (by omega) hF).mono ?_
                  rintro e w' ⟨rfl, hf2, hbut2⟩
                  rw [rotF_cast] at hf2
                  go_wp2_with fail
                  go_meet
                  exact ⟨hf2, hbut0.trans hbut2⟩
              case rest =>
               as_aux_lemma =>
                obtain ⟨hF1, hb1⟩ := hcut
                clear hF hbut0
                go_upto_region 41 with fail
                go_cut [199] (fun s199 wx => ∃ tb : Bool, s199 = .bool tb ∧ Hid (tb = true ↔ a < i ∧ i < mid) ∧ FN wx g cap N (rotN f i m t) ∧ But g w wx)
                case first =>
                 as_aux_lemma =>
                  by_cases e1 : a < i <;> by_cases e2 : i < mid
                  all_goals
                    go_wp2_with fail
                    go_meet
                    exact ⟨_, rfl, by show _ ↔ _; simp [e1, e2], hF1, hb1⟩
                case rest => as_aux_lemma =>
                obtain ⟨tc, rfl, htc, hF, hbut0⟩ := hcut
                clear hF1 hb1
                have hF1 := hF
                have hb1 := hbut0
                clear hF hbut0
                go_upto_if 199 with fail
                go_cut [] (fun wx => ∃ f2, FN wx g cap N f2 ∧ But g w wx ∧ Hid (Same (rotN f i m t) f2 a mid) ∧ Hid (Srt K f2 a mid))
                case first =>
                 as_aux_lemma =>
                  cases tc
                  · have e3 : i = a ∨ i = mid := by have := htc.out; simp at this; omega
                    go_wp2_with fail
                    go_meet
                    exact ⟨_, hF1, hb1, Same.refl _ _ _, hh.out.left e3⟩
                  · obtain ⟨e1, e2⟩ := htc.out.1 rfl
                    go_wp2_with fail
                    refine (hIH.out g cap N a i mid M K (rotN f i m t) c1 c2 _ HZ.out.1 hN (by omega) hF1 (hh.out.same.bound hb HM.out) (hh.out.leftP e1 e2) (HC.out.but hb1)).mono ?_
                    rintro e w' ⟨rfl, hbut2, f2, hf2, hs2, hsm2⟩
                    go_wp2_with fail
                    go_meet
                    exact ⟨f2, hf2, hb1.trans hbut2, hsm2, hs2⟩
                case rest =>
                 as_aux_lemma =>
                  obtain ⟨f2, hF2, hb2, hS2, hR2⟩ := hcut
                  clear hF1 hb1
                  have hcg : ∀ p, mid ≤ p → p < b → f2 p = rotN f i m t p := fun p h1 h2 => hS2.out.1 p (by omega)
                  have HCG := Lib.hid hcg
                  clear hcg
                  by_cases e1 : mid < t
                  · by_cases e2 : t < b
                    · go_wp2_with fail
                      refine (hIH.out g cap N mid t b M K f2 c1 c2 _ HZ.out.2 hN hb hF2 (hS2.out.bound (by omega) (hh.out.same.bound hb HM.out)) ((hh.out.rightP e1 e2).congr HCG.out) (HC.out.but hb2)).mono ?_
                      rintro e w' ⟨rfl, hbut2, f3, hf3, hs3, hsm3⟩
                      go_wp2_with fail
                      go_end0
                      have me := merge_end hh.out hS2.out hR2.out hsm3 hs3
                      exact ⟨rfl, hb2.trans hbut2, f3, hf3, me.1, me.2⟩
                    · have e3 : t = b := by omega
                      go_wp2_with fail
                      go_end0
                      have me := merge_end hh.out hS2.out hR2.out (Same.refl _ _ _) ((hh.out.right (.inr e3)).congr HCG.out)
                      exact ⟨rfl, hb2, f2, hF2, me.1, me.2⟩
                  · have e3 : t = mid := by omega
                    go_wp2_with fail
                    go_end0
                    have me := merge_end hh.out hS2.out hR2.out (Same.refl _ _ _) ((hh.out.right (.inl e3)).congr HCG.out)
                    exact ⟨rfl, hb2, f2, hF2, me.1, me.2⟩
end Go.Proofs.YtahgffjkkdbjeaaDoor
