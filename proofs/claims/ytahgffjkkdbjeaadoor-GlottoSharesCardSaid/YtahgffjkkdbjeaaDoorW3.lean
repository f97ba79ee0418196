/- glotto.scaled at every n and every list: the errors of n and d first. -/
import Derived.Test.YtahgffjkkdbjeaaDoorW2
namespace Go.Proofs.YtahgffjkkdbjeaaDoor
open Go.RowKit

/-- What scaled does, at every n and d. -/
def ScRes (w : World) (n : Int) (d : List Fr) (e : Ending) (w' : World) : Prop :=
  Below w.heap.size w w' ∧ ((∃ k, scaledS n d = .error k ∧ e = .returned (.tuple #[.pointer none, .int .i64 k])) ∨
    ∃ (m c B : Nat) (g : Nat → Nat), n = (m : Int) ∧ 1 ≤ m ∧ m ≤ 24 ∧ d.length = m * m ∧ scaledS n d = .ok c ∧ e = .returned (.tuple #[.pointer (some ⟨B, 0, none⟩), .int .i64 0]) ∧ w.heap.size ≤ B ∧ Blk w' B (ofF 578 (dg m c g)) 89 ∧ ∀ i j, i < m → j < m → g (i * 24 + j) = scK d c (i * m + j))
/-- What scaled does, at every n and d; all of the table is bounded. -/
def ScRes2 (w : World) (n : Int) (d : List Fr) (e : Ending) (w' : World) : Prop :=
  Below w.heap.size w w' ∧ ((∃ k, scaledS n d = .error k ∧ e = .returned (.tuple #[.pointer none, .int .i64 k])) ∨
    ∃ (m c B : Nat) (g : Nat → Nat), n = (m : Int) ∧ 1 ≤ m ∧ m ≤ 24 ∧ d.length = m * m ∧ scaledS n d = .ok c ∧ e = .returned (.tuple #[.pointer (some ⟨B, 0, none⟩), .int .i64 0]) ∧ w.heap.size ≤ B ∧ Blk w' B (ofF 578 (dg m c g)) 89 ∧ (∀ i j, i < m → j < m → g (i * 24 + j) = scK d c (i * m + j)) ∧ ∀ t, g t ≤ 1073741824)
set_option maxRecDepth 100000 in
set_option maxHeartbeats 1000000 in
theorem scaled_any2 (a : Option Addr) (n : Int) (N c : Nat) (d : List Fr) (w : World) (hn1 : -9223372036854775808 ≤ n) (hn2 : n ≤ 9223372036854775807) (hd : d.length = N) (hN : N ≤ 1152921504606846976) (hA : Rd w a (fl encFr d)) (hok : FitFr d) :
    Calls Tryd.prog 48 #[.int .i64 n, .slice a N c] w (ScRes2 w n d) := by
  by_cases h1 : n < 1
  · have hs := Lib.hid (show scaledS n d = .error 3 by rw [scaledS, if_pos (.inl h1)])
    go_enter Tryd.func48, Tryd.ntmps48
    go_wp2_with fail
    go_ret2
    exact ⟨Below.refl _ _, .inl ⟨3, hs.out, rfl⟩⟩
  · by_cases h2 : 24 < n
    · have hs := Lib.hid (show scaledS n d = .error 3 by rw [scaledS, if_pos (.inr h2)])
      go_enter Tryd.func48, Tryd.ntmps48
      go_wp2_with fail
      go_ret2
      exact ⟨Below.refl _ _, .inl ⟨3, hs.out, rfl⟩⟩
    · obtain ⟨m, rfl⟩ : ∃ m : Nat, n = m := ⟨n.toNat, by omega⟩
      by_cases h3 : N = m * m
      · by_cases h4 : d.any badFr = true
        · have hs := Lib.hid (show scaledS m d = .error 2 by rw [scaledS, if_neg (by omega), if_pos (.inr h4)])
          have hw1 : IntKind.i64.wrap ((m : Int) * (m : Int)) = (N : Int) := wrap_nat _ _ (by rw [h3]; simp) (by omega)
          have HD := Lib.hid hd
          have H4 := Lib.hid h4
          clear h3 hd h4
          go_enter Tryd.func48, Tryd.ntmps48
          go_wp2_with (go_at_call 84; refine (anyBad_any a N c d _ HD.out (by omega) hA).mono ?_; rintro e w1 ⟨rfl, hb1⟩; rw [H4.out])
          go_ret2
          exact ⟨hb1, .inl ⟨2, hs.out, rfl⟩⟩
        · subst h3
          refine (scaled_in a m c d w (by omega) (by omega) hd hA (by simpa using h4) hok).mono ?_
          rintro e w' ⟨hb, hr⟩
          refine ⟨hb, hr.imp id ?_⟩
          rintro ⟨c, B, g, h⟩
          exact ⟨m, c, B, g, rfl, by omega, by omega, hd, h⟩
      · have hs := Lib.hid (show scaledS m d = .error 2 by
          rw [scaledS, if_neg (by omega), if_pos]
          left
          rw [hd, ← Int.natCast_mul]
          omega)
        have hmm : m * m ≤ 576 := by have := Nat.mul_le_mul (show m ≤ 24 by omega) (show m ≤ 24 by omega); omega
        obtain ⟨M, hM⟩ : ∃ M, M = m * m := ⟨_, rfl⟩
        have hw1 : IntKind.i64.wrap ((m : Int) * (m : Int)) = (M : Int) := wrap_nat _ _ (by rw [hM]; simp) (by omega)
        have hne : ((N : Int) != (M : Int)) = true := by simp; omega
        clear hM h3 hmm
        go_enter Tryd.func48, Tryd.ntmps48
        go_wp2_with fail
        go_ret2
        exact ⟨Below.refl _ _, .inl ⟨2, hs.out, rfl⟩⟩
theorem scaled_any (a : Option Addr) (n : Int) (N c : Nat) (d : List Fr) (w : World) (hn1 : -9223372036854775808 ≤ n) (hn2 : n ≤ 9223372036854775807) (hd : d.length = N) (hN : N ≤ 1152921504606846976) (hA : Rd w a (fl encFr d)) (hok : FitFr d) :
    Calls Tryd.prog 48 #[.int .i64 n, .slice a N c] w (ScRes w n d) :=
  (scaled_any2 a n N c d w hn1 hn2 hd hN hA hok).mono fun _ _ ⟨h1, h2⟩ => ⟨h1, h2.imp id fun ⟨m, c, B, g, a1, a2, a3, a4, a5, a6, a7, a8, a9, _⟩ => ⟨m, c, B, g, a1, a2, a3, a4, a5, a6, a7, a8, a9⟩⟩
end Go.Proofs.YtahgffjkkdbjeaaDoor
