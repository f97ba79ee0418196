/- slices.symMergeCmpFunc, stableCmpFunc, SortStableFunc over a row of numbers of the call's own, by keys. -/
import Derived.Test.YtahgffjkkdbjeaaDoorZ1
import Derived.Test.YtahgffjkkdbjeaaDoorZ4
namespace Go.Proofs.YtahgffjkkdbjeaaDoor
open Go.RowKit
theorem rotF_cast (f : Nat → Nat) (a m b : Nat) : rotF (fun p => (f p : Int)) a m b = fun p => (rotN f a m b p : Int) := by
  funext p
  unfold rotF rotN
  (repeat' split) <;> rfl

/-- Two places exchanged. -/
def sw2 (f : Nat → Nat) (p q : Nat) : Nat → Nat := fun r => if r = q then f p else if r = p then f q else f r
theorem FN.sw2 {w : World} {g cap N : Nat} {f : Nat → Nat} (h : FN w g cap N f) (p q : Nat) : FN ((w.setCell ⟨g, p, none⟩ (.int .i64 (f q))).setCell ⟨g, q, none⟩ (.int .i64 (f p))) g cap N (sw2 f p q) := by
  have h2 := (FS.set (FS.set h p (f q : Int)) q (f p : Int))
  refine h2.congr fun r _ => ?_
  unfold upd YtahgffjkkdbjeaaDoor.sw2
  (repeat' split) <;> rfl
theorem rot_up (f : Nat → Nat) (a k : Nat) (h : a ≤ k) : sw2 (rotN f a (a + 1) (k + 1)) k (k + 1) = rotN f a (a + 1) (k + 2) := by
  funext p
  unfold sw2 rotN
  (repeat' split) <;> first | rfl | (exfalso; omega) | (congr 1; omega)
theorem rot_down (f : Nat → Nat) (k m : Nat) (h : k < m) : sw2 (rotN f (k + 1) m (m + 1)) (k + 1) k = rotN f k m (m + 1) := by
  funext p
  unfold sw2 rotN
  (repeat' split) <;> first | rfl | (exfalso; omega) | (congr 1; omega)
theorem cmp3_neg {x y : Nat} (h : x < y) : cmp3 x y < 0 := by unfold cmp3; rw [if_pos h]; decide
theorem cmp3_nneg {x y : Nat} (h : y ≤ x) : ¬ cmp3 x y < 0 := by unfold cmp3; rw [if_neg (by omega)]; split <;> decide
theorem Find1.up {K f : Nat → Nat} {a m b i j h : Nat} (hp : MergePre K f a m b) (hf : Find1 K f a m b i j) (h1 : i ≤ h) (h2 : h < j) (hk : K (f h) < K (f a)) : Find1 K f a m b (h + 1) j := by
  have hr := hf.rng
  refine ⟨by omega, fun q q1 q2 => ?_, hf.hi⟩
  have := hp.right.le q1 (show q ≤ h by omega) (by omega)
  omega
theorem Find1.down {K f : Nat → Nat} {a m b i j h : Nat} (hp : MergePre K f a m b) (hf : Find1 K f a m b i j) (h1 : i ≤ h) (h2 : h < j) (hk : K (f a) ≤ K (f h)) : Find1 K f a m b i h := by
  have hr := hf.rng
  refine ⟨by omega, hf.lo, fun q q1 q2 => ?_⟩
  have := hp.right.le (show m ≤ h by omega) q1 q2
  omega
theorem Find2.up {K f : Nat → Nat} {a m b i j h : Nat} (hp : MergePre K f a m b) (hf : Find2 K f a m i j) (h1 : i ≤ h) (h2 : h < j) (hk : K (f h) ≤ K (f m)) : Find2 K f a m (h + 1) j := by
  have hr := hf.rng
  refine ⟨by omega, fun q q1 q2 => ?_, hf.hi⟩
  have := hp.left.le q1 (show q ≤ h by omega) (by omega)
  omega
theorem Find2.down {K f : Nat → Nat} {a m b i j h : Nat} (hp : MergePre K f a m b) (hf : Find2 K f a m i j) (h1 : i ≤ h) (h2 : h < j) (hk : K (f m) < K (f h)) : Find2 K f a m i h := by
  have hr := hf.rng
  refine ⟨by omega, hf.lo, fun q q1 q2 => ?_⟩
  have := hp.left.le (show a ≤ h by omega) q1 q2
  omega

set_option maxRecDepth 100000 in
set_option maxHeartbeats 4000000 in
theorem symL (g cap N a m b M : Nat) (K f : Nat → Nat) (c1 c2 : Value) (w : World) (hN : N ≤ 1152921504606846976) (hb : b ≤ N) (hF : FN w g cap N f) (hM : ∀ p, p < N → f p < M)
    (hp : MergePre K f a m b) (hc : CmpOk c1 c2 K M g w) (hm1 : m = a + 1) :
    Calls Tryd.prog 101 #[.slice (some ⟨g, 0, none⟩) N cap, .int .i64 a, .int .i64 m, .int .i64 b, .func (.func 51) #[] #[c1, c2]] w (InsPost w g cap N a b K f) := by
  have HM := Lib.hid hM
  have HC := Lib.hid hc
  have HP := Lib.hid hp
  have am := hp.am
  have mb := hp.mb
  have e1 : (m : Int) - (a : Int) = 1 := by omega
  have HM1 := Lib.hid hm1
  clear hM hc hp hm1
  go_enter Tryd.func101, Tryd.ntmps101
  go_wp2_with fail
  go_loopw [10, 11, 12] (fun x y _ wr => ∃ i j : Nat, Hid (Find1 K f a m b i j) ∧ m ≤ i ∧ i ≤ j ∧ j ≤ b ∧ x = .int .i64 i ∧ y = .int .i64 j ∧ FN wr g cap N f ∧ But g w wr) (fun x y _ _ => (intOf y).toNat - (intOf x).toNat)
  case atStart => exact ⟨m, b, ⟨by omega, fun q h1 h2 => by omega, fun q h1 h2 => by omega⟩, by omega, by omega, by omega, rfl, rfl, hF, But.refl _ _⟩
  case round =>
    obtain ⟨i, j, hfi, r1, r2, r3, rfl, rfl, hF, hbut0⟩ := hrel
    have HCM := Lib.hid (HC.out.but hbut0)
    by_cases hlt : i < j
    · obtain ⟨h, hh⟩ : ∃ h, h = (i + j) / 2 := ⟨_, rfl⟩
      have w1 : ((i : Int) + (j : Int)) / 2 = (h : Int) := by omega
      have b1 : i ≤ h := by omega
      have b2 : h < j := by omega
      have bhN : h < N := by omega
      have baN : a < N := by omega
      have ch := hF.cell h (by omega)
      have ca := hF.cell a (by omega)
      have mh := HM.out h (by omega)
      have ma := HM.out a (by omega)
      clear hh
      by_cases hk : K (f h) < K (f a)
      · have hf2 := Lib.hid (hfi.out.up HP.out b1 b2 hk)
        have hcb := cmp3_neg hk
        clear hk
        go_wp2_with fail
        go_quiet ((exact Calls.quiet_of (HCM.out _ _ _ ((But.refl _ _).drewN _) mh ma)))
        go_wp2_with fail
        go_roundw
        case rel => exact ⟨h + 1, j, hf2, by omega, by omega, by omega, by go_num, rfl, hF.drewN _, hbut0.drewN _⟩
        case measure => simp [intOf]; omega
      · have hf2 := Lib.hid (hfi.out.down HP.out b1 b2 (by omega))
        have hcb := cmp3_nneg (show K (f a) ≤ K (f h) by omega)
        clear hk
        go_wp2_with fail
        go_quiet ((exact Calls.quiet_of (HCM.out _ _ _ ((But.refl _ _).drewN _) mh ma)))
        go_wp2_with fail
        go_roundw
        case rel => exact ⟨i, h, hf2, by omega, by omega, by omega, rfl, rfl, hF.drewN _, hbut0.drewN _⟩
        case measure => simp [intOf]; omega
    · have hij : i = j := by omega
      subst hij
      have hsr := Lib.hid (hfi.out.srt HP.out HM1.out)
      have hsm := Lib.hid ((rotN_same f (show a ≤ m by omega) r1).wide (Nat.le_refl a) r3)
      obtain ⟨i', hi'⟩ : ∃ i', i' + 1 = i := ⟨i - 1, by omega⟩
      have w2 : (i : Int) - 1 = (i' : Int) := by omega
      have HI := Lib.hid hi'
      have hii : i' < i := by omega
      have hai : a ≤ i' := by have := HM1.out; omega
      clear hi'
      go_wp2_with fail
      go_loopw [13] (fun x wr => ∃ k : Nat, a ≤ k ∧ k ≤ i' ∧ x = .int .i64 k ∧ FN wr g cap N (rotN f a (a + 1) (k + 1)) ∧ But g w wr) (fun x _ => i' - (intOf x).toNat)
      case atStart => exact ⟨a, Nat.le_refl _, hai, rfl, by rw [rotN_id f (by omega) (by omega) (.inr rfl)]; exact hF, hbut0⟩
      case round =>
        obtain ⟨k, hk1, hk2, rfl, hfk, hbut⟩ := hrel
        by_cases hkt : k < i'
        · have c1 := hfk.cell k (by omega)
          have c2 := hfk.cell (k + 1) (by omega)
          have f1 := hfk.free k
          have f2 := hfk.free (k + 1)
          have hsw := hfk.sw2 k (k + 1)
          rw [rot_up f a k hk1] at hsw
          have hb2 : k + 1 < N := by omega
          go_wp2_with fail
          go_region
          go_wp2_with fail
          go_roundw
          case rel => exact ⟨k + 1, by omega, by omega, by go_num, hsw, ((hbut.drewN 1).set _ _).set _ _⟩
          case measure => simp [intOf]; omega
        · go_wp2_with fail
          go_end0
          have : k = i' := by omega
          subst this
          rw [HI.out, ← HM1.out] at hfk
          exact ⟨rfl, hbut, _, hfk, hsr.out, hsm.out⟩

set_option maxRecDepth 100000 in
set_option maxHeartbeats 4000000 in
theorem symR (g cap N a m b M : Nat) (K f : Nat → Nat) (c1 c2 : Value) (w : World) (hN : N ≤ 1152921504606846976) (hb : b ≤ N) (hF : FN w g cap N f) (hM : ∀ p, p < N → f p < M)
    (hp : MergePre K f a m b) (hc : CmpOk c1 c2 K M g w) (ham : a + 1 < m) (hm1 : b = m + 1) :
    Calls Tryd.prog 101 #[.slice (some ⟨g, 0, none⟩) N cap, .int .i64 a, .int .i64 m, .int .i64 b, .func (.func 51) #[] #[c1, c2]] w (InsPost w g cap N a b K f) := by
  have HM := Lib.hid hM
  have HC := Lib.hid hc
  have HP := Lib.hid hp
  have mb := hp.mb
  have e1 : (b : Int) - (m : Int) = 1 := by omega
  have hc0 : (((m : Int) - (a : Int)) == 1) = false := by simp; omega
  have HM1 := Lib.hid hm1
  clear hM hc hp hm1
  go_enter Tryd.func101, Tryd.ntmps101
  go_wp2_with fail
  go_loopw [14, 15, 16] (fun x y _ wr => ∃ i j : Nat, Hid (Find2 K f a m i j) ∧ a ≤ i ∧ i ≤ j ∧ j ≤ m ∧ x = .int .i64 i ∧ y = .int .i64 j ∧ FN wr g cap N f ∧ But g w wr) (fun x y _ _ => (intOf y).toNat - (intOf x).toNat)
  case atStart => exact ⟨a, m, ⟨by omega, fun q h1 h2 => by omega, fun q h1 h2 => by omega⟩, by omega, by omega, by omega, rfl, rfl, hF, But.refl _ _⟩
  case round =>
    obtain ⟨i, j, hfi, r1, r2, r3, rfl, rfl, hF, hbut0⟩ := hrel
    have HCM := Lib.hid (HC.out.but hbut0)
    by_cases hlt : i < j
    · obtain ⟨h, hh⟩ : ∃ h, h = (i + j) / 2 := ⟨_, rfl⟩
      have w1 : ((i : Int) + (j : Int)) / 2 = (h : Int) := by omega
      have b1 : i ≤ h := by omega
      have b2 : h < j := by omega
      have bhN : h < N := by omega
      have baN : m < N := by omega
      have ch := hF.cell h (by omega)
      have ca := hF.cell m (by omega)
      have mh := HM.out h (by omega)
      have ma := HM.out m (by omega)
      clear hh
      by_cases hk : K (f m) < K (f h)
      · have hf2 := Lib.hid (hfi.out.down HP.out b1 b2 hk)
        have hcb := decide_eq_true (cmp3_neg hk)
        clear hk
        go_wp2_with fail
        go_quiet ((exact Calls.quiet_of (HCM.out _ _ _ ((But.refl _ _).drewN _) ma mh)))
        go_wp2_with fail
        go_roundw
        case rel => exact ⟨i, h, hf2, by omega, by omega, by omega, rfl, rfl, hF.drewN _, hbut0.drewN _⟩
        case measure => simp [intOf]; omega
      · have hf2 := Lib.hid (hfi.out.up HP.out b1 b2 (by omega))
        have hcb := decide_eq_false (cmp3_nneg (show K (f h) ≤ K (f m) by omega))
        clear hk
        go_wp2_with fail
        go_quiet ((exact Calls.quiet_of (HCM.out _ _ _ ((But.refl _ _).drewN _) ma mh)))
        go_wp2_with fail
        go_roundw
        case rel => exact ⟨h + 1, j, hf2, by omega, by omega, by omega, by go_num, rfl, hF.drewN _, hbut0.drewN _⟩
        case measure => simp [intOf]; omega
    · have hij : i = j := by omega
      subst hij
      have hsr := Lib.hid (hfi.out.srt HP.out HM1.out)
      have hsm := Lib.hid ((rotN_same f r3 (show m ≤ b by omega)).wide r1 (Nat.le_refl b))
      go_wp2_with fail
      go_loopw [17] (fun x wr => ∃ k : Nat, i ≤ k ∧ k ≤ m ∧ x = .int .i64 k ∧ FN wr g cap N (rotN f k m (m + 1)) ∧ But g w wr) (fun x _ => (intOf x).toNat)
      case atStart => exact ⟨m, r3, Nat.le_refl _, rfl, by rw [rotN_id f (by omega) (by omega) (.inl rfl)]; exact hF, hbut0⟩
      case round =>
        obtain ⟨k, hk1, hk2, rfl, hfk, hbut⟩ := hrel
        by_cases hkt : i < k
        · obtain ⟨k', hk'⟩ : ∃ k', k' + 1 = k := ⟨k - 1, by omega⟩
          have w2 : (k : Int) - 1 = (k' : Int) := by omega
          have w3 := wrap_nat ((k : Int) - 1) k' (by omega) (by omega)
          have c1 := hfk.cell k (by omega)
          have c2 := hfk.cell k' (by omega)
          have f1 := hfk.free k
          have f2 := hfk.free k'
          have hsw := hfk.sw2 k k'
          have hrd := rot_down f k' m (by omega)
          rw [hk'] at hrd
          rw [hrd] at hsw
          have hne1 : k ≠ k' := by omega
          have hne2 : k' ≠ k := by omega
          have hb2 : k < N := by omega
          have hb3 : k' < N := by omega
          have hik : i ≤ k' := by omega
          have HK := Lib.hid hk'
          clear hrd hk'
          go_wp2_with fail
          go_region
          go_wp2_with fail
          have := HK.out
          go_roundw
          case rel => exact ⟨k', hik, by omega, by go_num, hsw, ((hbut.drewN 1).set _ _).set _ _⟩
          case measure => simp [intOf]; omega
        · go_wp2_with fail
          go_end0
          have : k = i := by omega
          subst this
          rw [← HM1.out] at hfk
          exact ⟨rfl, hbut, _, hfk, hsr.out, hsm.out⟩
end Go.Proofs.YtahgffjkkdbjeaaDoor
