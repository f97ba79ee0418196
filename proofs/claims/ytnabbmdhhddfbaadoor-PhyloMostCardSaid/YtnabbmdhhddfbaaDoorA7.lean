/- How many languages a set has, in Go's library and in the document; the order of sets. -/
import Derived.Test.YtnabbmdhhddfbaaDoorA5
import Derived.Test.YtnabbmdhhddfbaaDoorA6
import Derived.Lib.Zigzag
namespace Go.Proofs.YtnabbmdhhddfbaaDoor
open Go.RowKit Go.Shelf
theorem mk2_1 : mk2 1 32 = 6148914691236517205 := by decide
theorem mk2_2 : mk2 2 16 = 3689348814741910323 := by decide
theorem mk2_4 : mk2 4 8 = 1085102592571150095 := by decide
theorem idiv (x k : Nat) : ((x : Int) / (k : Int)) = ((x / k : Nat) : Int) := by simp
structure Pops (x y1 y2 y3 : Nat) : Prop where
  s1 : y1 = (x / 2 &&& 6148914691236517205) + (x &&& 6148914691236517205)
  s2 : y2 = (y1 / 4 &&& 3689348814741910323) + (y1 &&& 3689348814741910323)
  s3 : y3 = (y2 / 16 + y2 &&& 1085102592571150095)
  b1 : y1 < 18446744073709551616
  b2 : y2 < 5764607523034234880
  last : y3 < 1152921504606846976 ∧ y3 + y3 / 256 < 1152921504606846976 ∧ (y3 + y3 / 256) + (y3 + y3 / 256) / 65536 < 1152921504606846976 ∧ ((y3 + y3 / 256) + (y3 + y3 / 256) / 65536) + ((y3 + y3 / 256) + (y3 + y3 / 256) / 65536) / 4294967296 < 1152921504606846976 + 268435456 ∧
    (((y3 + y3 / 256) + (y3 + y3 / 256) / 65536) + ((y3 + y3 / 256) + (y3 + y3 / 256) / 65536) / 4294967296) % 128 = cntB x 64
theorem pops_of {x : Nat} (hx : x < 18446744073709551616) : ∃ y1 y2 y3, Pops x y1 y2 y3 := by
  have h0 : DigOk 1 1 (2 * 32) x := digOk_of (k := 1) (n := 64) hx
  obtain ⟨d1, p1⟩ := pop_stage (k := 1) (d := 1) (by decide) (by decide) h0
  rw [mk2_1] at d1 p1
  obtain ⟨y1, hy1⟩ : ∃ y, (x / 2 ^ 1 &&& 6148914691236517205) + (x &&& 6148914691236517205) = y := ⟨_, rfl⟩
  rw [hy1] at d1 p1
  have h1 : DigOk 2 2 (2 * 16) y1 := d1
  obtain ⟨d2, p2⟩ := pop_stage (k := 2) (d := 2) (by decide) (by decide) h1
  rw [mk2_2] at d2 p2
  obtain ⟨y2, hy2⟩ : ∃ y, (y1 / 2 ^ 2 &&& 3689348814741910323) + (y1 &&& 3689348814741910323) = y := ⟨_, rfl⟩
  rw [hy2] at d2 p2
  have h2 : DigOk 4 4 (2 * 8) y2 := d2
  obtain ⟨d3, p3⟩ := pop_third h2
  rw [mk2_4] at d3 p3
  obtain ⟨y3, hy3⟩ : ∃ y, (y2 / 16 + y2 &&& 1085102592571150095) = y := ⟨_, rfl⟩
  rw [hy3] at d3 p3
  have l := pop_last d3
  have e1 : popD 2 32 y1 = popD 1 64 x := p1
  have e2 : popD 4 16 y2 = popD 2 32 y1 := p2
  have e3 : popD 8 8 y3 = popD 4 16 y2 := p3
  have b1 : y1 < 2 ^ (2 * 32) := h1.lt
  have b2 : y2 < 5764607523034234880 := by
    have h16 : DigOk 4 4 (15 + 1) y2 := d2
    have hdig : ∀ n x, DigOk 4 4 (n + 1) x → x < 5 * 16 ^ n := by
      intro n
      induction n with
      | zero => intro x h; have h1 := h.1; have h2 : x / 2 ^ 4 = 0 := h.2; simp at h1 h2 ⊢; omega
      | succ n ih =>
        intro x h
        have h1 : x % 16 ≤ 4 := h.1
        have h2 : x / 16 < 5 * 16 ^ n := ih _ h.2
        rw [Nat.pow_succ]
        omega
    have := hdig 15 y2 h16
    have e : 5 * 16 ^ 15 = 5764607523034234880 := by decide
    omega
  refine ⟨y1, y2, y3, hy1.symm, hy2.symm, hy3.symm, b1, b2, ?_⟩
  rw [cntB_pop, ← e1, ← e2, ← e3]
  exact l
end Go.Proofs.YtnabbmdhhddfbaaDoor
