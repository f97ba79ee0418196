/- slices.stableCmpFunc and SortStableFunc over the row of the first N numbers, N at most 24. -/
import Derived.Test.YtahgffjkkdbjeaaDoorW9
namespace Go.Proofs.YtahgffjkkdbjeaaDoor
open Go.RowKit
/-- What the stable sort has done before its last insertion: nothing, or the first twenty. -/
def StA (K f1 : Nat → Nat) (a : Nat) : Prop := (a = 0 ∧ ∀ p, f1 p = p) ∨ (a = 20 ∧ Srt K f1 0 20 ∧ Same (fun p => p) f1 0 20)
theorem StA.tie {K f1 : Nat → Nat} {a : Nat} (h : StA K f1 a) : ∀ p q, a ≤ p → p < q → f1 p < f1 q := by
  intro p q h1 h2
  rcases h with ⟨rfl, e⟩ | ⟨rfl, e1, e2⟩
  · rw [e, e]; exact h2
  · rw [e2.1 p (by omega), e2.1 q (by omega)]; exact h2
theorem StA.bound {K f1 : Nat → Nat} {a N : Nat} (h : StA K f1 a) (ha : a ≤ N) : ∀ p, p < N → f1 p < N := by
  intro p hp
  rcases h with ⟨rfl, e⟩ | ⟨rfl, e1, e2⟩
  · rw [e]; exact hp
  · exact e2.bound ha (fun _ h => h) p hp
theorem Srt.congr' {K f f' : Nat → Nat} {N : Nat} (h : Srt K f 0 20) (hN : N = 20) (e : ∀ p, p < 20 → f' p = f p) : Srt K f' 0 N := by subst hN; exact h.congr fun p _ h2 => e p h2
theorem StA.ends {K f1 f2 : Nat → Nat} {a N : Nat} (h : StA K f1 a) (ha : a ≤ N) (hs : Srt K f2 a N) (hm : Same f1 f2 a N) : (N ≤ 20 → Srt K f2 0 N) ∧ (a = 20 → 20 < N → MergePre K f2 0 20 N) ∧ Same (fun p => p) f2 0 N := by
  rcases h with ⟨rfl, e⟩ | ⟨rfl, e1, e2⟩
  · have : f1 = fun p => p := funext e
    subst this
    exact ⟨fun _ => hs, fun h => by omega, hm⟩
  · refine ⟨fun h => e1.congr' (show N = 20 by omega) fun p h2 => hm.1 p (by omega), fun _ h20 => ⟨by omega, h20, e1.congr fun p _ h2 => hm.1 p (by omega), hs, fun p q _ h1 h2 h3 _ => ?_⟩, (e2.wide (Nat.le_refl 0) ha).trans (hm.wide (by omega) (Nat.le_refl N))⟩
    obtain ⟨p', hp', e3⟩ := (e2.2 _).1 ⟨p, ⟨by omega, h1⟩, rfl⟩
    obtain ⟨q', hq', e4⟩ := (hm.2 _).1 ⟨q, ⟨h2, h3⟩, rfl⟩
    rw [e2.1 q' (by omega)] at e4
    rw [hm.1 p (by omega), ← e3, ← e4]
    show p' < q'
    omega

set_option maxRecDepth 100000 in
set_option maxHeartbeats 8000000 in
theorem stable_any (g cap N : Nat) (K : Nat → Nat) (c1 c2 : Value) (w : World) (hN : N ≤ 24) (hF : FN w g cap N fun p => p) (hc : CmpOk c1 c2 K N g w) :
    Calls Tryd.prog 88 #[.slice (some ⟨g, 0, none⟩) N cap, .int .i64 N, .func (.func 51) #[] #[c1, c2]] w (InsPost w g cap N 0 N K fun p => p) := by
  have HC := Lib.hid hc
  clear hc
  have hN2 : N ≤ 1152921504606846976 := by omega
  go_enter Tryd.func88, Tryd.ntmps88
  go_wp2_with fail
  go_loopw [7, 8] (fun x y wr => ∃ a : Nat, a ≤ N ∧ (a = 20 ∨ a = 0) ∧ x = .int .i64 a ∧ y = .int .i64 (a + 20) ∧ But g w wr ∧ ∃ f1, FN wr g cap N f1 ∧ Hid (StA K f1 a)) (fun x _ _ => 24 - (intOf x).toNat)
  case atStart => exact ⟨0, by omega, by omega, rfl, rfl, But.refl _ _, _, hF, .inl ⟨rfl, fun _ => rfl⟩⟩
  case round =>
    obtain ⟨a, ha, ha2, rfl, rfl, hbut, f1, hF1, hst⟩ := hrel
    clear hF
    by_cases hlt : a + 20 ≤ N
    · have e : a = 0 := by omega
      subst e
      have h20 : 20 ≤ N := by omega
      clear hlt ha2
      go_wp2_with fail
      refine (insSort_any g cap N 0 20 N K f1 c1 c2 _ hN2 (by omega) h20 hF1 (hst.out.bound ha) (fun p q h1 h2 _ _ => hst.out.tie p q h1 h2) (HC.out.but hbut)).mono ?_
      rintro e w' ⟨rfl, hbut2, f2, hF2, hs2, hm2⟩
      have hst2 : Hid (StA K f2 20) := by
        refine .inr ⟨rfl, hs2, ?_⟩
        rcases hst.out with ⟨_, e⟩ | ⟨e, _⟩
        · have : f1 = fun p => p := funext e
          rw [← this]; exact hm2
        · omega
      clear hs2 hm2
      go_wp2_with fail
      go_roundw
      case rel => exact ⟨20, h20, .inl rfl, rfl, rfl, hbut.trans hbut2, f2, hF2, hst2⟩
      case measure => simp [intOf]
    · have h21' : 20 < N → a = 20 := by omega
      go_wp2_with fail
      refine (insSort_any g cap N a N N K f1 c1 c2 _ hN2 ha (Nat.le_refl _) hF1 (hst.out.bound ha) (fun p q h1 h2 _ _ => hst.out.tie p q h1 h2) (HC.out.but hbut)).mono ?_
      rintro e w' ⟨rfl, hbut2, f2, hF2, hs2, hm2⟩
      have hE := Lib.hid (hst.out.ends ha hs2 hm2)
      have hb := hbut.trans hbut2
      clear hs2 hm2 hst hF1 hbut hbut2 ha2
      by_cases h21 : 20 < N
      · have e := h21' h21
        subst e
        clear h21' hlt
        go_wp2_with fail
        go_loopw [6, 7, 8, 9] (fun x _ _ _ wr => But g w wr ∧ ∃ f3, FN wr g cap N f3 ∧ Hid (Same (fun p => p) f3 0 N) ∧ ((x = .int .i64 20 ∧ Hid (MergePre K f3 0 20 N)) ∨ (x = .int .i64 40 ∧ Hid (Srt K f3 0 N)))) (fun x _ _ _ _ => 40 - (intOf x).toNat)
        case atStart => exact ⟨hb, f2, hF2, hE.out.2.2, .inl ⟨rfl, hE.out.2.1 (by trivial) h21⟩⟩
        case round =>
          obtain ⟨hb3, f3, hF3, hm3, ⟨rfl, hp3⟩ | ⟨rfl, hs3⟩⟩ := hrel
          · obtain ⟨wo, rfl⟩ : ∃ wo : World, wo = wr := ⟨_, rfl⟩
            go_wp2_with fail
            go_loopw [7, 8] (fun x y wi => x = .int .i64 0 ∧ y = .int .i64 40 ∧ wi = wo) (fun _ _ _ => 0)
            case atStart => exact ⟨rfl, rfl, rfl⟩
            case round =>
              obtain ⟨rfl, rfl, rfl⟩ := hrel
              have h40 : ¬ (40 ≤ N) := by omega
              go_wp2_with fail
              refine (symM N g cap N 0 20 N N K f3 c1 c2 _ (by omega) hN2 (Nat.le_refl _) hF3 (hm3.out.bound (Nat.le_refl _) fun _ h => h) hp3.out (HC.out.but hb3)).mono ?_
              rintro e w' ⟨rfl, hbut4, f4, hF4, hs4, hm4⟩
              go_wp2_with fail
              go_roundw
              case rel => exact ⟨hb3.trans hbut4, f4, hF4, hm3.out.trans hm4, .inr ⟨rfl, hs4⟩⟩
              case measure => simp [intOf]
          · have h40 : ¬ (40 < N) := by omega
            go_wp2_with fail
            go_end0
            exact ⟨rfl, hb3, f3, hF3, hs3.out, hm3.out⟩
      · have hs := Lib.hid (hE.out.1 (by omega))
        clear h21'
        have hnl : ¬ (20 < N) := h21
        go_wp2_with fail
        go_loopw [6, 7, 8, 9] (fun x _ _ _ wr => x = .int .i64 20 ∧ FN wr g cap N f2 ∧ But g w wr) (fun _ _ _ _ _ => 0)
        case atStart => exact ⟨rfl, hF2, hb⟩
        case round =>
          obtain ⟨rfl, hF3, hb3⟩ := hrel
          go_wp2_with fail
          go_end0
          exact ⟨rfl, hb3, f2, hF3, hs.out, hE.out.2.2⟩
end Go.Proofs.YtahgffjkkdbjeaaDoor
