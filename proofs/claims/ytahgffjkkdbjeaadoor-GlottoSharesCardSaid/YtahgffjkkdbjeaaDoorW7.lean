/- slices.insertionSortCmpFunc over a row of numbers of the call's own, by keys. -/
import Derived.Test.YtahgffjkkdbjeaaDoorP2
import Derived.Test.YtahgffjkkdbjeaaDoorW6
namespace Go.Proofs.YtahgffjkkdbjeaaDoor
open Go.RowKit
/-- The row of numbers, all from 0 on. -/
abbrev FN (w : World) (g cap N : Nat) (f : Nat → Nat) : Prop := FS w g cap N (fun p => (f p : Int))
/-- The closure c compares the numbers below M by their keys K, in every world that is w but for block g. -/
def CmpOk (c1 c2 : Value) (K : Nat → Nat) (M g : Nat) (w : World) : Prop :=
  ∀ (W : World) (y z : Nat), But g w W → y < M → z < M → Calls Tryd.prog 51 #[.int .i64 y, .int .i64 z, c1, c2] W fun e W' => e = .returned (.int .i64 (cmp3 (K y) (K z))) ∧ ∃ n, W' = W.drewN n
theorem CmpOk.but {c1 c2 : Value} {K : Nat → Nat} {M g : Nat} {w w' : World} (h : CmpOk c1 c2 K M g w) (hb : But g w w') : CmpOk c1 c2 K M g w' := fun W y z hW hy hz => h W y z (hb.trans hW) hy hz
theorem FN.swap {w : World} {g cap N : Nat} {f : Nat → Nat} (h : FN w g cap N f) (j j' : Nat) (hj : j' = j - 1) : FN ((w.setCell ⟨g, j, none⟩ (.int .i64 (f j'))).setCell ⟨g, j', none⟩ (.int .i64 (f j))) g cap N (swp1 f j) := by
  have h2 := (FS.set (FS.set h j (f j' : Int)) j' (f j : Int))
  refine h2.congr fun p _ => ?_
  unfold upd swp1
  subst hj
  (repeat' split) <;> rfl
/-- What an insertion sort has done. -/
def InsPost (w : World) (g cap N a b : Nat) (K f : Nat → Nat) (e : Ending) (w' : World) : Prop := e = .returned (.tuple #[]) ∧ But g w w' ∧ ∃ f', FN w' g cap N f' ∧ Srt K f' a b ∧ Same f f' a b

set_option maxHeartbeats 4000000 in
theorem insSort_any (g cap N a b M : Nat) (K f : Nat → Nat) (c1 c2 : Value) (w : World) (hN : N ≤ 1152921504606846976) (hab : a ≤ b) (hb : b ≤ N) (hF : FN w g cap N f) (hM : ∀ p, p < N → f p < M)
    (ht : ∀ p q, a ≤ p → p < q → q < b → K (f p) = K (f q) → f p < f q) (hc : CmpOk c1 c2 K M g w) :
    Calls Tryd.prog 100 #[.slice (some ⟨g, 0, none⟩) N cap, .int .i64 a, .int .i64 b, .func (.func 51) #[] #[c1, c2]] w (InsPost w g cap N a b K f) := by
  have HT := Lib.hid ht
  have HM := Lib.hid hM
  have HC := Lib.hid hc
  clear ht hM hc
  go_enter Tryd.func100, Tryd.ntmps100
  go_wp2_with fail
  go_loopw [8, 9] (fun x _ wr => ∃ i : Nat, a + 1 ≤ i ∧ (i ≤ b ∨ i = a + 1) ∧ x = .int .i64 i ∧ But g w wr ∧ ∃ fi, FN wr g cap N fi ∧ Hid (OutInv K f fi a i)) (fun x _ _ => b - (intOf x).toNat)
  case atStart => exact ⟨a + 1, by omega, by omega, by go_num, But.refl _ _, f, hF, OutInv.start K f a⟩
  case round =>
    obtain ⟨i, hi1, hi2, rfl, hbut, fi, hfi, hout⟩ := hrel
    by_cases hlt : i < b
    · obtain ⟨wo, rfl⟩ : ∃ wo : World, wo = wr := ⟨_, rfl⟩
      go_wp2_with fail
      go_loopw [9] (fun x wr => ∃ j : Nat, a ≤ j ∧ j ≤ i ∧ x = .int .i64 j ∧ But g w wr ∧ ∃ fj, FN wr g cap N fj ∧ Hid (InsInv K f fj a i j)) (fun x _ => (intOf x).toNat)
      case atStart => exact ⟨i, by omega, by omega, rfl, hbut, fi, hfi, InsInv.start hout.out (by omega)⟩
      case round =>
        obtain ⟨j, hj1, hj2, rfl, hbut2, fj, hfj, hins⟩ := hrel
        clear hbut hfi
        have hfin : Hid ((j = a ∨ K (fj (j - 1)) ≤ K (f i)) → OutInv K f fj a (i + 1)) := fun hk => hins.out.done (fun q h1 h2 h3 => HT.out q i h1 h2 (by omega) h3) hk
        by_cases hja : a < j
        · obtain ⟨j', hj'⟩ : ∃ j', j' = j - 1 := ⟨_, rfl⟩
          have w1 := wrap_nat ((j : Int) - 1) j' (by omega) (by omega)
          have w1' : (j : Int) - 1 = j' := by omega
          have cj := hfj.cell j (by omega)
          have cj' := hfj.cell j' (by omega)
          have fr1 := hfj.free j
          have fr2 := hfj.free j'
          have hne1 : j ≠ j' := by omega
          have hne2 : j' ≠ j := by omega
          have bj' : j' < N := by omega
          have hsw := hfj.swap j j' hj'
          have HJ := Lib.hid hj'
          have hmv : fj j = f i := hins.out.mv
          have mb : ∀ p, p < N → fj p < M := fun p hp => by
            by_cases e : a ≤ p ∧ p ≤ i
            · by_cases e2 : p = j
              · rw [e2, hmv]; exact HM.out i (by omega)
              · obtain ⟨q, q1, q2, q3⟩ := hins.out.src p e.1 e.2 e2
                rw [q3]; exact HM.out q (by omega)
            · rw [hins.out.out p e]; exact HM.out p hp
          have mj := mb j (by omega)
          have mj' := mb j' bj'
          have hcm := HC.out.but hbut2
          have HCM := Lib.hid hcm
          clear hcm mb hj'
          by_cases hk : K (f i) < K (fj j')
          · have hi2 := Lib.hid (hins.out.swap hja (by rw [← HJ.out]; exact hk))
            have hcb : cmp3 (K (fj j)) (K (fj j')) < 0 := by rw [hmv]; unfold cmp3; rw [if_pos hk]; decide
            clear hk hmv
            go_wp2_with fail
            go_quiet ((exact Calls.quiet_of (HCM.out _ _ _ ((But.refl _ _).drewN _) mj mj')))
            go_wp2_with fail
            go_region
            go_wp2_with fail
            go_roundw
            case rel => exact ⟨j', by omega, by omega, rfl, ((hbut2.drewN _).set _ _).set _ _, _, hsw, by rw [HJ.out]; exact hi2.out⟩
            case measure => simp [intOf]; omega
          · have hi2 := Lib.hid (hfin.out (.inr (by rw [← HJ.out]; omega)))
            have hcb : ¬ (cmp3 (K (fj j)) (K (fj j')) < 0) := by rw [hmv]; unfold cmp3; rw [if_neg hk]; split <;> decide
            clear hk hmv
            go_wp2_with fail
            go_quiet ((exact Calls.quiet_of (HCM.out _ _ _ ((But.refl _ _).drewN _) mj mj')))
            go_wp2_with fail
            go_roundw
            case rel => exact ⟨i + 1, by omega, by omega, by go_num, hbut2.drewN _, fj, hfj.drewN _, hi2⟩
            case measure => simp [intOf]; omega
        · have hd : decide ((a : Int) < (j : Int)) = false := by simp; omega
          have hi2 := Lib.hid (hfin.out (.inl (by omega)))
          go_wp2_with fail
          go_quiet (fail)
          go_wp2_with fail
          go_roundw
          case rel => exact ⟨i + 1, by omega, by omega, by go_num, hbut2.drewN _, fj, hfj.drewN _, hi2⟩
          case measure => simp [intOf]; omega
    · go_wp2_with fail
      go_end0
      refine ⟨rfl, hbut, fi, hfi, ?_⟩
      rcases hi2 with h | h
      · have : i = b := by omega
        subst this
        exact ⟨hout.out.srt, hout.out.same⟩
      · have h0 := hout.out
        subst h
        refine ⟨fun p q h1 h2 h3 => by omega, fun p hp => ?_, fun v => ?_⟩
        · by_cases e : p = a
          · obtain ⟨q, q1, q2, q3⟩ := h0.src a (by omega) (by omega)
            rw [e, q3, show q = a by omega]
          · exact h0.out p (by omega)
        · rcases Nat.lt_or_ge a b with e | e
          · have : b = a + 1 := by omega
            subst this
            exact h0.same.2 v
          · constructor
            · rintro ⟨p, hp, _⟩; omega
            · rintro ⟨p, hp, _⟩; omega
end Go.Proofs.YtahgffjkkdbjeaaDoor
