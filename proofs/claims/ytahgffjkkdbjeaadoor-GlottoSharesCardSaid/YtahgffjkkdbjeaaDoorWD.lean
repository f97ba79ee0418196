/- glotto.Nearest at every input. -/
import Derived.Test.YtahgffjkkdbjeaaDoorWC
namespace Go.Proofs.YtahgffjkkdbjeaaDoor
open Go.RowKit
/-- The nearest of a row of all. -/
def nearV (f : Nat → Nat) (m y : Nat) : Nat := if m = 1 then 0 else if f 0 = y then f 1 else f 0
def nearE (m : Nat) : Int := if m = 1 then 5 else 0
theorem RkRow.lt {d : List Fr} {c m y : Nat} {f : Nat → Nat} (h : RkRow d c m y f) {p : Nat} (hp : p < m) : f p < m := h.same.bound (Nat.le_refl m) (fun _ h => h) p hp
theorem RkRow.ne {d : List Fr} {c m y : Nat} {f : Nat → Nat} (h : RkRow d c m y f) {p q : Nat} (hp : p < q) (hq : q < m) : f p ≠ f q := by
  intro e
  have := h.srt p q (Nat.zero_le _) hp hq
  unfold ltK at this
  rw [e] at this
  omega
def NrPost (w : World) (n : Int) (d : List Fr) (x : Int) (e : Ending) (w' : World) : Prop :=
  Below w.heap.size w w' ∧ ((∃ k, rankE n d x = .error k ∧ e = .returned (.tuple #[.int .i64 0, .int .i64 k])) ∨
    ∃ (m c y : Nat) (f : Nat → Nat), n = (m : Int) ∧ x = (y : Int) ∧ y < m ∧ rankE n d x = .ok c ∧ e = .returned (.tuple #[.int .i64 (nearV f m y), .int .i64 (nearE m)]) ∧ RkRow d c m y f)
theorem rankE_ne {n : Int} {d : List Fr} {x k : Int} (h : rankE n d x = .error k) : (k != 0) = true := by
  unfold rankE at h
  split at h
  · rename_i h2; simp only [Except.error.injEq] at h; subst h; exact scaled_err_ne h2
  · split at h
    · simp only [Except.error.injEq] at h; subst h; rfl
    · cases h
set_option maxRecDepth 100000 in
set_option maxHeartbeats 4000000 in
theorem near_any (a : Option Addr) (n x : Int) (N c : Nat) (d : List Fr) (w : World) (hn1 : -9223372036854775808 ≤ n) (hn2 : n ≤ 9223372036854775807) (hx1 : -9223372036854775808 ≤ x) (hx2 : x ≤ 9223372036854775807) (hd : d.length = N) (hN : N ≤ 1152921504606846976) (hA : Rd w a (fl encFr d)) (hok : FitFr d) :
    Calls Tryd.prog 17 #[.int .i64 n, .slice a N c, .int .i64 x] w (NrPost w n d x) := by
  have HD := Lib.hid hd
  have HK := Lib.hid hok
  clear hd hok
  go_enter Tryd.func17, Tryd.ntmps17
  go_wp2_with fail
  refine (rank_any a n x N c d _ hn1 hn2 hx1 hx2 HD.out hN hA HK.out).mono ?_
  rintro e w1 ⟨hb1, ⟨k, hk, rfl⟩ | ⟨m, cm, y, B, cap, f, rfl, rfl, hy, hm2, hs, rfl, hB, hf, hr⟩⟩
  · have hs := Lib.hid hk
    have hk0 := rankE_ne hk
    clear hk
    go_wp2_with fail
    go_ret2
    exact ⟨hb1, .inl ⟨k, hs.out, rfl⟩⟩
  · have HS := Lib.hid hs
    have HR := Lib.hid hr
    clear hs hr
    go_wp2_with fail
    go_loopw [24, 11] (fun x _ wr => ∃ k : Nat, k ≤ m ∧ (k = 0 ∨ k = 1) ∧ Hid (k = 1 → f 0 = y) ∧ x = .int .i64 k ∧ wr = w1) (fun x _ _ => m - (intOf x).toNat)
    case atStart => exact ⟨0, by omega, .inl rfl, (fun h => by omega), rfl, rfl⟩
    case round =>
      obtain ⟨k, hk, hk1, hk0, rfl, rfl⟩ := hrel
      by_cases hkt : k < m
      · have ck := hf.cell k hkt
        by_cases e : f k = y
        · have ek : k = 0 := by
            rcases hk1 with h | h
            · exact h
            · subst h; exact absurd ((hk0.out rfl).trans e.symm) (HR.out.ne (by omega) hkt)
          subst ek
          have hne : ((f 0 : Int) != (y : Int)) = false := by simp; omega
          have HE := Lib.hid e
          clear e
          go_wp2_with fail
          go_roundw
          case rel => exact ⟨1, by omega, .inr rfl, fun _ => HE.out, by go_num, by trivial⟩
          case measure => simp [intOf]; omega
        · have hne : ((f k : Int) != (y : Int)) = true := by simp; omega
          have hv : Hid (nearV f m y = f k ∧ nearE m = 0) := by
            have l0 := HR.out.lt (show 0 < m by omega)
            rcases hk1 with rfl | rfl
            · have : m ≠ 1 := by omega
              exact ⟨by rw [nearV, if_neg this, if_neg e], by rw [nearE, if_neg this]⟩
            · have : m ≠ 1 := by omega
              exact ⟨by rw [nearV, if_neg this, if_pos (hk0.out rfl)], by rw [nearE, if_neg this]⟩
          clear e
          go_wp2_with fail
          go_ret2
          refine ⟨hb1, .inr ⟨m, cm, y, f, rfl, rfl, hy, HS.out, ?_, HR.out⟩⟩
          rw [hv.out.1, hv.out.2]; rfl
      · have e1 : m = 1 := by omega
        subst e1
        go_wp2_with fail
        go_ret2
        exact ⟨hb1, .inr ⟨1, cm, y, f, rfl, rfl, hy, HS.out, rfl, HR.out⟩⟩
end Go.Proofs.YtahgffjkkdbjeaaDoor
