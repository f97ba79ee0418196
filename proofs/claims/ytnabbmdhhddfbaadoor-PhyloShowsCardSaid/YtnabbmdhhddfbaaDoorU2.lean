/- Plain: how many bits of a number are set, by sums of its digits. How many languages a set has, in Go's library and in the document; the order of sets. How many languages a set has, in Go's library and in the document; the order of sets. slices.SortFunc and slices.Compact at sets: the shelf's contracts, in the words of this seat. phylo.groups: the sets of more than one language, not all, that fit every other; in order, each once. A row of sets of the call's own after slices.SortFunc and slices.Compact. Sorting and compacting a row of sets of the call's own. Compacting a row of sets of the call's own. phylo.groups: the walk. phylo.Groups. Facts for the document's Groups. The groups of the document, by insertion, are those of the program, sorted: plain. A drawn region: reads first, then operations that keep a condition, of which two at a time may come up; then the forced end. The first of the longest lists without conflicts: plain. -/
import Derived.WalkKit
import Derived.Test.YtnabbmdhhddfbaaDoorU1
import Derived.Lib.Zigzag
import Derived.Shelf.SlicesE.Compact
namespace Go.Proofs.YtnabbmdhhddfbaaDoor
/-- The sum of the first n digits to the base 2 ^ k. -/
def popD (k : Nat) : Nat → Nat → Nat
  | 0, _ => 0
  | n + 1, x => x % 2 ^ k + popD k n (x / 2 ^ k)
/-- The first n digits to the base 2 ^ k are at most d, the others 0. -/
def DigOk (k d : Nat) : Nat → Nat → Prop
  | 0, x => x = 0
  | n + 1, x => x % 2 ^ k ≤ d ∧ DigOk k d n (x / 2 ^ k)
/-- The lower half of each of n pairs of digits. -/
def mk2 (k : Nat) : Nat → Nat
  | 0 => 0
  | n + 1 => 2 ^ (2 * k) * mk2 k n + (2 ^ k - 1)
theorem and_rec (k x m : Nat) : x &&& (2 ^ (2 * k) * m + (2 ^ k - 1)) = 2 ^ (2 * k) * ((x / 2 ^ (2 * k)) &&& m) + x % 2 ^ k := by
  have hk : 2 ^ k ≤ 2 ^ (2 * k) := Nat.pow_le_pow_right (by omega) (by omega)
  have hp : 0 < 2 ^ k := Nat.two_pow_pos k
  have h1 : 2 ^ k - 1 < 2 ^ (2 * k) := by omega
  have h2 : x % 2 ^ k < 2 ^ (2 * k) := Nat.lt_of_lt_of_le (Nat.mod_lt _ hp) hk
  apply Nat.eq_of_testBit_eq
  intro i
  rw [Nat.testBit_and, Nat.testBit_two_pow_mul_add _ h1, Nat.testBit_two_pow_mul_add _ h2]
  by_cases hi : i < 2 * k
  · rw [if_pos hi, if_pos hi, Nat.testBit_two_pow_sub_one, Nat.testBit_mod_two_pow, Bool.and_comm]
  · rw [if_neg hi, if_neg hi, Nat.testBit_and, Nat.testBit_div_two_pow]
    rw [show i - 2 * k + 2 * k = i by omega]
theorem DigOk.lt {k d : Nat} : ∀ {n x : Nat}, DigOk k d n x → x < 2 ^ (k * n)
  | 0, x, h => by rw [show x = 0 from h]; exact Nat.two_pow_pos _
  | n + 1, x, h => by
    have ih := DigOk.lt h.2
    rw [Nat.mul_succ, Nat.add_comm, Nat.pow_add, Nat.mul_comm]
    exact (Nat.div_lt_iff_lt_mul (Nat.two_pow_pos k)).1 ih
theorem digOk_of {k : Nat} : ∀ {n x : Nat}, x < 2 ^ (k * n) → DigOk k (2 ^ k - 1) n x
  | 0, x, h => by rw [Nat.mul_zero] at h; show x = 0; omega
  | n + 1, x, h => by
    have hp : 0 < 2 ^ k := Nat.two_pow_pos k
    refine ⟨by have := Nat.mod_lt x hp; omega, digOk_of ?_⟩
    rw [Nat.mul_succ, Nat.add_comm, Nat.pow_add, Nat.mul_comm] at h
    exact (Nat.div_lt_iff_lt_mul hp).2 h
/-- One stage: two digits are added up. -/
theorem pop_stage {k d : Nat} (hd : d < 2 ^ k) (hdd : 2 * d < 2 ^ (2 * k)) : ∀ {n x : Nat}, DigOk k d (2 * n) x → DigOk (2 * k) (2 * d) n ((x / 2 ^ k &&& mk2 k n) + (x &&& mk2 k n)) ∧ popD (2 * k) n ((x / 2 ^ k &&& mk2 k n) + (x &&& mk2 k n)) = popD k (2 * n) x
  | 0, x, h => by
    have : x = 0 := h
    subst this
    exact ⟨by show _ = 0; simp, rfl⟩
  | n + 1, x, h => by
    have hp : 0 < 2 ^ k := Nat.two_pow_pos k
    have hB : 0 < 2 ^ (2 * k) := Nat.two_pow_pos (2 * k)
    obtain ⟨h1, h2, h3⟩ : x % 2 ^ k ≤ d ∧ x / 2 ^ k % 2 ^ k ≤ d ∧ DigOk k d (2 * n) (x / 2 ^ k / 2 ^ k) := h
    have e0 : x / 2 ^ k / 2 ^ k = x / 2 ^ (2 * k) := by rw [Nat.div_div_eq_div_mul, ← Nat.pow_add, show k + k = 2 * k by omega]
    have e1 : x / 2 ^ k / 2 ^ (2 * k) = x / 2 ^ (2 * k) / 2 ^ k := by rw [Nat.div_div_eq_div_mul, Nat.div_div_eq_div_mul, Nat.mul_comm]
    rw [e0] at h3
    obtain ⟨i1, i2⟩ := pop_stage hd hdd h3
    have es : (x / 2 ^ k &&& mk2 k (n + 1)) + (x &&& mk2 k (n + 1)) = 2 ^ (2 * k) * ((x / 2 ^ (2 * k) / 2 ^ k &&& mk2 k n) + (x / 2 ^ (2 * k) &&& mk2 k n)) + (x / 2 ^ k % 2 ^ k + x % 2 ^ k) := by
      show (x / 2 ^ k &&& (2 ^ (2 * k) * mk2 k n + (2 ^ k - 1))) + (x &&& (2 ^ (2 * k) * mk2 k n + (2 ^ k - 1))) = _
      rw [and_rec, and_rec, e1, Nat.mul_add]
      omega
    rw [es]
    have em : (2 ^ (2 * k) * ((x / 2 ^ (2 * k) / 2 ^ k &&& mk2 k n) + (x / 2 ^ (2 * k) &&& mk2 k n)) + (x / 2 ^ k % 2 ^ k + x % 2 ^ k)) % 2 ^ (2 * k) = x / 2 ^ k % 2 ^ k + x % 2 ^ k := by
      rw [Nat.mul_add_mod]; exact Nat.mod_eq_of_lt (by omega)
    have ed : (2 ^ (2 * k) * ((x / 2 ^ (2 * k) / 2 ^ k &&& mk2 k n) + (x / 2 ^ (2 * k) &&& mk2 k n)) + (x / 2 ^ k % 2 ^ k + x % 2 ^ k)) / 2 ^ (2 * k) = (x / 2 ^ (2 * k) / 2 ^ k &&& mk2 k n) + (x / 2 ^ (2 * k) &&& mk2 k n) := by
      have hlt : x / 2 ^ k % 2 ^ k + x % 2 ^ k < 2 ^ (2 * k) := by omega
      rw [Nat.mul_add_div hB, Nat.div_eq_of_lt hlt, Nat.add_zero]
    refine ⟨⟨by rw [em]; omega, by rw [ed]; exact i1⟩, ?_⟩
    show _ % 2 ^ (2 * k) + popD (2 * k) n (_ / 2 ^ (2 * k)) = x % 2 ^ k + (x / 2 ^ k % 2 ^ k + popD k (2 * n) (x / 2 ^ k / 2 ^ k))
    rw [em, ed, i2, e0]
    omega
/-- The third stage: nibbles of at most 4 are added before the mask. -/
theorem pop_third : ∀ {n x : Nat}, DigOk 4 4 (2 * n) x → DigOk 8 8 n (x / 16 + x &&& mk2 4 n) ∧ popD 8 n (x / 16 + x &&& mk2 4 n) = popD 4 (2 * n) x
  | 0, x, h => by
    have : x = 0 := h
    subst this
    exact ⟨by show _ = 0; simp, rfl⟩
  | n + 1, x, h => by
    obtain ⟨h1, h2, h3⟩ : x % 2 ^ 4 ≤ 4 ∧ x / 2 ^ 4 % 2 ^ 4 ≤ 4 ∧ DigOk 4 4 (2 * n) (x / 2 ^ 4 / 2 ^ 4) := h
    have e0 : x / 2 ^ 4 / 2 ^ 4 = x / 256 := by omega
    rw [e0] at h3
    have h4 : x / 256 % 16 ≤ 4 := by
      cases n with
      | zero => rw [show x / 256 = 0 from h3]; omega
      | succ n => exact h3.1
    obtain ⟨i1, i2⟩ := pop_third h3
    have es : x / 16 + x &&& mk2 4 (n + 1) = 256 * (x / 256 / 16 + x / 256 &&& mk2 4 n) + (x % 16 + x / 16 % 16) := by
      show x / 16 + x &&& (2 ^ (2 * 4) * mk2 4 n + (2 ^ 4 - 1)) = _
      rw [and_rec]
      obtain ⟨x', hx'⟩ : ∃ y, x / 256 = y := ⟨_, rfl⟩
      obtain ⟨x2, hx2⟩ : ∃ y, x' / 16 = y := ⟨_, rfl⟩
      obtain ⟨lo, hlo⟩ : ∃ y, x % 16 = y := ⟨_, rfl⟩
      obtain ⟨hi, hhi⟩ : ∃ y, x / 16 % 16 = y := ⟨_, rfl⟩
      obtain ⟨l2, hl2⟩ : ∃ y, x' % 16 = y := ⟨_, rfl⟩
      have q1 : lo ≤ 4 := by rw [← hlo]; exact h1
      have q2 : hi ≤ 4 := by rw [← hhi]; exact h2
      have q3 : l2 ≤ 4 := by rw [← hl2, ← hx']; exact h4
      have g2 : x' = l2 + 16 * x2 := by omega
      have g3 : x / 16 = hi + 16 * x' := by omega
      have g4 : x = lo + 16 * (hi + 16 * x') := by omega
      have g1 : x / 16 + x = lo + hi + 16 * (hi + l2) + 256 * (x' + x2) := by omega
      have e2 : (x / 16 + x) / 2 ^ (2 * 4) = x2 + x' := by
        rw [g1]
        clear g1 g2 g3 g4 hx' hx2 hlo hhi hl2 h1 h2 h3 h4 i1 i2
        show (lo + hi + 16 * (hi + l2) + 256 * (x' + x2)) / 256 = _
        omega
      have e3 : (x / 16 + x) % 2 ^ 4 = lo + hi := by
        rw [g1]
        clear g1 g2 g3 g4 hx' hx2 hlo hhi hl2 h1 h2 h3 h4 i1 i2
        show (lo + hi + 16 * (hi + l2) + 256 * (x' + x2)) % 16 = _
        omega
      rw [e2, e3, hlo, hhi, hx', hx2]
    rw [es]
    generalize (x / 256 / 16 + x / 256 &&& mk2 4 n) = y at *
    have hs : x % 16 + x / 16 % 16 ≤ 8 := by
      have q1 : x % 16 ≤ 4 := h1
      have q2 : x / 16 % 16 ≤ 4 := h2
      omega
    have em : (256 * y + (x % 16 + x / 16 % 16)) % 2 ^ 8 = x % 16 + x / 16 % 16 := by
      generalize x % 16 + x / 16 % 16 = u at *
      show (256 * y + u) % 256 = u
      rw [Nat.mul_add_mod]; exact Nat.mod_eq_of_lt (by omega)
    have ed : (256 * y + (x % 16 + x / 16 % 16)) / 2 ^ 8 = y := by
      generalize x % 16 + x / 16 % 16 = u at *
      show (256 * y + u) / 256 = y
      rw [Nat.mul_add_div (by omega), Nat.div_eq_of_lt (by omega), Nat.add_zero]
    refine ⟨⟨by rw [em]; omega, by rw [ed]; exact i1⟩, ?_⟩
    show _ % 2 ^ 8 + popD 8 n (_ / 2 ^ 8) = x % 2 ^ 4 + (x / 2 ^ 4 % 2 ^ 4 + popD 4 (2 * n) (x / 2 ^ 4 / 2 ^ 4))
    rw [em, ed, i2, e0]
    omega
theorem ls1 {c0 c1 c2 c3 c4 c5 c6 c7 y1 y2 y3 y4 y5 y6 : Nat} (h1 : y1 = c1 + 256 * y2) (h2 : y2 = c2 + 256 * y3) (h3 : y3 = c3 + 256 * y4) (h4 : y4 = c4 + 256 * y5) (h5 : y5 = c5 + 256 * y6) (h6 : y6 = c6 + 256 * c7) : y1 = c1 + 256 * c2 + 65536 * c3 + 16777216 * c4 + 4294967296 * c5 + 1099511627776 * c6 + 281474976710656 * c7 := by omega
theorem ls2 {x y c : Nat} (h : x = c + 256 * y) (b : c ≤ 8) : x / 256 = y := by omega
theorem ls3 {x c0 c1 c2 c3 c4 c5 c6 c7 : Nat} (h : x = c0 + 256 * (c1 + 256 * c2 + 65536 * c3 + 16777216 * c4 + 4294967296 * c5 + 1099511627776 * c6 + 281474976710656 * c7)) (b0 : c0 ≤ 8) (b1 : c1 ≤ 8) (b2 : c2 ≤ 8) (b3 : c3 ≤ 8) (b4 : c4 ≤ 8) (b5 : c5 ≤ 8) (b6 : c6 ≤ 8) (b7 : c7 ≤ 8) : x < 1152921504606846976 := by omega
theorem ls4 {x y1 c0 c1 c2 c3 c4 c5 c6 c7 : Nat} (h : x = c0 + 256 * y1) (k : y1 = c1 + 256 * c2 + 65536 * c3 + 16777216 * c4 + 4294967296 * c5 + 1099511627776 * c6 + 281474976710656 * c7) : x + y1 = ((c0 + c1) + 256 * (c1 + c2)) + 65536 * ((c2 + c3) + 256 * (c3 + c4) + 65536 * (c4 + c5) + 16777216 * (c5 + c6) + 4294967296 * (c6 + c7) + 1099511627776 * c7) := by omega
theorem ls5 {p u q : Nat} (h : p = u + 65536 * q) (hu : u < 65536) (hq : q < 17592186044416) : p / 65536 = q ∧ p < 1152921504606846976 := by omega
theorem ls6 {c0 c1 c2 : Nat} (b0 : c0 ≤ 8) (b1 : c1 ≤ 8) (b2 : c2 ≤ 8) : (c0 + c1) + 256 * (c1 + c2) < 65536 := by omega
theorem ls7 {c2 c3 c4 c5 c6 c7 : Nat} (b2 : c2 ≤ 8) (b3 : c3 ≤ 8) (b4 : c4 ≤ 8) (b5 : c5 ≤ 8) (b6 : c6 ≤ 8) (b7 : c7 ≤ 8) : (c2 + c3) + 256 * (c3 + c4) + 65536 * (c4 + c5) + 16777216 * (c5 + c6) + 4294967296 * (c6 + c7) + 1099511627776 * c7 < 17592186044416 := by omega
theorem ls8 {p q c0 c1 c2 c3 c4 c5 c6 c7 : Nat} (h : p = ((c0 + c1) + 256 * (c1 + c2)) + 65536 * q) (k : (c2 + c3) + 256 * (c3 + c4) + 65536 * (c4 + c5) + 16777216 * (c5 + c6) + 4294967296 * (c6 + c7) + 1099511627776 * c7 = q) : p + q = ((c0 + c1 + c2 + c3) + 256 * (c1 + c2 + c3 + c4) + 65536 * (c2 + c3 + c4 + c5) + 16777216 * (c3 + c4 + c5 + c6)) + 4294967296 * ((c4 + c5 + c6 + c7) + 256 * (c5 + c6 + c7) + 65536 * (c6 + c7) + 16777216 * c7) := by omega
theorem ls9 {c0 c1 c2 c3 c4 c5 c6 : Nat} (b0 : c0 ≤ 8) (b1 : c1 ≤ 8) (b2 : c2 ≤ 8) (b3 : c3 ≤ 8) (b4 : c4 ≤ 8) (b5 : c5 ≤ 8) (b6 : c6 ≤ 8) : (c0 + c1 + c2 + c3) + 256 * (c1 + c2 + c3 + c4) + 65536 * (c2 + c3 + c4 + c5) + 16777216 * (c3 + c4 + c5 + c6) < 4294967296 := by omega
theorem ls10 {c4 c5 c6 c7 : Nat} (b4 : c4 ≤ 8) (b5 : c5 ≤ 8) (b6 : c6 ≤ 8) (b7 : c7 ≤ 8) : (c4 + c5 + c6 + c7) + 256 * (c5 + c6 + c7) + 65536 * (c6 + c7) + 16777216 * c7 < 268435456 := by omega
theorem ls11 {r u v : Nat} (h : r = u + 4294967296 * v) (hu : u < 4294967296) (hv : v < 268435456) : r / 4294967296 = v ∧ r < 1152921504606846976 ∧ r + v < 1152921504606846976 + 268435456 := by omega
theorem ls12 {r v c0 c1 c2 c3 c4 c5 c6 c7 : Nat} (h : r = ((c0 + c1 + c2 + c3) + 256 * (c1 + c2 + c3 + c4) + 65536 * (c2 + c3 + c4 + c5) + 16777216 * (c3 + c4 + c5 + c6)) + 4294967296 * v) (k : (c4 + c5 + c6 + c7) + 256 * (c5 + c6 + c7) + 65536 * (c6 + c7) + 16777216 * c7 = v) : r + v = 128 * (2 * (c1 + c2 + c3 + c4) + 512 * (c2 + c3 + c4 + c5) + 131072 * (c3 + c4 + c5 + c6) + 33554432 * v + 2 * (c5 + c6 + c7) + 512 * (c6 + c7) + 131072 * c7) + (c0 + c1 + c2 + c3 + c4 + c5 + c6 + c7) := by omega
theorem ls13 {c0 c1 c2 c3 c4 c5 c6 c7 : Nat} (b0 : c0 ≤ 8) (b1 : c1 ≤ 8) (b2 : c2 ≤ 8) (b3 : c3 ≤ 8) (b4 : c4 ≤ 8) (b5 : c5 ≤ 8) (b6 : c6 ≤ 8) (b7 : c7 ≤ 8) : c0 + c1 + c2 + c3 + c4 + c5 + c6 + c7 < 128 := by omega
theorem last_sum {x c0 c1 c2 c3 c4 c5 c6 c7 y1 y2 y3 y4 y5 y6 : Nat} (h0 : x = c0 + 256 * y1) (h1 : y1 = c1 + 256 * y2) (h2 : y2 = c2 + 256 * y3) (h3 : y3 = c3 + 256 * y4) (h4 : y4 = c4 + 256 * y5) (h5 : y5 = c5 + 256 * y6) (h6 : y6 = c6 + 256 * c7)
    (b0 : c0 ≤ 8) (b1 : c1 ≤ 8) (b2 : c2 ≤ 8) (b3 : c3 ≤ 8) (b4 : c4 ≤ 8) (b5 : c5 ≤ 8) (b6 : c6 ≤ 8) (b7 : c7 ≤ 8) : x < 1152921504606846976 ∧ x + x / 256 < 1152921504606846976 ∧ (x + x / 256) + (x + x / 256) / 65536 < 1152921504606846976 ∧ ((x + x / 256) + (x + x / 256) / 65536) + ((x + x / 256) + (x + x / 256) / 65536) / 4294967296 < 1152921504606846976 + 268435456 ∧
    (((x + x / 256) + (x + x / 256) / 65536) + ((x + x / 256) + (x + x / 256) / 65536) / 4294967296) % 128 = c0 + c1 + c2 + c3 + c4 + c5 + c6 + c7 := by
  have f1 := ls1 (c0 := c0) h1 h2 h3 h4 h5 h6
  have hx : x < 1152921504606846976 := ls3 (h0.trans (by rw [f1])) b0 b1 b2 b3 b4 b5 b6 b7
  rw [ls2 h0 b0]
  have s1 := ls4 h0 f1
  obtain ⟨q, hq⟩ : ∃ q, (c2 + c3) + 256 * (c3 + c4) + 65536 * (c4 + c5) + 16777216 * (c5 + c6) + 4294967296 * (c6 + c7) + 1099511627776 * c7 = q := ⟨_, rfl⟩
  have hqb := ls7 b2 b3 b4 b5 b6 b7
  rw [hq] at s1 hqb
  generalize x + y1 = p at *
  have d1 := ls5 s1 (ls6 b0 b1 b2) hqb
  rw [d1.1]
  have s2 := ls8 s1 hq
  obtain ⟨v, hv⟩ : ∃ v, (c4 + c5 + c6 + c7) + 256 * (c5 + c6 + c7) + 65536 * (c6 + c7) + 16777216 * c7 = v := ⟨_, rfl⟩
  have hvb := ls10 b4 b5 b6 b7
  rw [hv] at s2 hvb
  generalize p + q = r at *
  have d2 := ls11 s2 (ls9 b0 b1 b2 b3 b4 b5 b6) hvb
  rw [d2.1]
  refine ⟨hx, d1.2, d2.2.1, d2.2.2, ?_⟩
  rw [ls12 s2 hv, Nat.mul_add_mod, Nat.mod_eq_of_lt (ls13 b0 b1 b2 b3 b4 b5 b6 b7)]
/-- The last stage: the bytes are added up. -/
theorem pop_last {x : Nat} (h : DigOk 8 8 8 x) : x < 1152921504606846976 ∧ x + x / 256 < 1152921504606846976 ∧ (x + x / 256) + (x + x / 256) / 65536 < 1152921504606846976 ∧ ((x + x / 256) + (x + x / 256) / 65536) + ((x + x / 256) + (x + x / 256) / 65536) / 4294967296 < 1152921504606846976 + 268435456 ∧
    (((x + x / 256) + (x + x / 256) / 65536) + ((x + x / 256) + (x + x / 256) / 65536) / 4294967296) % 128 = popD 8 8 x := by
  obtain ⟨a0, a1, a2, a3, a4, a5, a6, a7, a8⟩ := h
  have a9 : x / 2 ^ 8 / 2 ^ 8 / 2 ^ 8 / 2 ^ 8 / 2 ^ 8 / 2 ^ 8 / 2 ^ 8 / 2 ^ 8 = 0 := a8
  have st : ∀ z : Nat, z = z % 2 ^ 8 + 256 * (z / 2 ^ 8) := fun z => (Nat.mod_add_div z 256).symm
  have l := last_sum (st x) (st (x / 2 ^ 8)) (st (x / 2 ^ 8 / 2 ^ 8)) (st (x / 2 ^ 8 / 2 ^ 8 / 2 ^ 8)) (st (x / 2 ^ 8 / 2 ^ 8 / 2 ^ 8 / 2 ^ 8)) (st (x / 2 ^ 8 / 2 ^ 8 / 2 ^ 8 / 2 ^ 8 / 2 ^ 8)) (c7 := x / 2 ^ 8 / 2 ^ 8 / 2 ^ 8 / 2 ^ 8 / 2 ^ 8 / 2 ^ 8 / 2 ^ 8 % 2 ^ 8) (by
      have h7 := st (x / 2 ^ 8 / 2 ^ 8 / 2 ^ 8 / 2 ^ 8 / 2 ^ 8 / 2 ^ 8 / 2 ^ 8)
      rw [a9, Nat.mul_zero, Nat.add_zero] at h7
      rw [← h7]
      exact st _) a0 a1 a2 a3 a4 a5 a6 a7
  refine ⟨l.1, l.2.1, l.2.2.1, l.2.2.2.1, ?_⟩
  rw [l.2.2.2.2]
  simp only [popD, Nat.add_zero, Nat.add_assoc]
/-- The bits of x below n. -/
def cntB (x : Nat) : Nat → Nat
  | 0 => 0
  | n + 1 => cntB x n + if x.testBit n then 1 else 0
theorem cntB_le (x : Nat) : ∀ n, cntB x n ≤ n
  | 0 => Nat.le_refl _
  | n + 1 => by
    have := cntB_le x n
    unfold cntB
    split <;> omega
theorem popD_snoc : ∀ (n x : Nat), popD 1 (n + 1) x = popD 1 n x + x / 2 ^ n % 2
  | 0, x => by simp [popD]
  | n + 1, x => by
    have ih := popD_snoc n (x / 2 ^ 1)
    show x % 2 ^ 1 + popD 1 (n + 1) (x / 2 ^ 1) = (x % 2 ^ 1 + popD 1 n (x / 2 ^ 1)) + x / 2 ^ (n + 1) % 2
    rw [ih, Nat.div_div_eq_div_mul, ← Nat.pow_add, Nat.add_comm 1 n]
    omega
theorem cntB_pop (x : Nat) : ∀ n, cntB x n = popD 1 n x
  | 0 => rfl
  | n + 1 => by
    rw [popD_snoc, ← cntB_pop x n]
    show cntB x n + (if x.testBit n then 1 else 0) = _
    rw [Nat.testBit_eq_decide_div_mod_eq]
    by_cases h : x / 2 ^ n % 2 = 1
    · rw [h]; simp
    · rw [show x / 2 ^ n % 2 = 0 by omega]; simp
end Go.Proofs.YtnabbmdhhddfbaaDoor
namespace Go.Proofs.YtnabbmdhhddfbaaDoor
open Go.RowKit Go.Shelf
theorem mk2_1 : mk2 1 32 = 6148914691236517205 := by decide
theorem mk2_2 : mk2 2 16 = 3689348814741910323 := by decide
theorem mk2_4 : mk2 4 8 = 1085102592571150095 := by decide
theorem idiv (x k : Nat) : ((x : Int) / (k : Int)) = ((x / k : Nat) : Int) := by simp
structure Pops (x y1 y2 y3 : Nat) : Prop where
  s1 : y1 = (x / 2 &&& 6148914691236517205) + (x &&& 6148914691236517205)
  s2 : y2 = (y1 / 4 &&& 3689348814741910323) + (y1 &&& 3689348814741910323)
  s3 : y3 = (y2 / 16 + y2 &&& 1085102592571150095)
  b1 : y1 < 18446744073709551616
  b2 : y2 < 5764607523034234880
  last : y3 < 1152921504606846976 ∧ y3 + y3 / 256 < 1152921504606846976 ∧ (y3 + y3 / 256) + (y3 + y3 / 256) / 65536 < 1152921504606846976 ∧ ((y3 + y3 / 256) + (y3 + y3 / 256) / 65536) + ((y3 + y3 / 256) + (y3 + y3 / 256) / 65536) / 4294967296 < 1152921504606846976 + 268435456 ∧
    (((y3 + y3 / 256) + (y3 + y3 / 256) / 65536) + ((y3 + y3 / 256) + (y3 + y3 / 256) / 65536) / 4294967296) % 128 = cntB x 64
theorem pops_of {x : Nat} (hx : x < 18446744073709551616) : ∃ y1 y2 y3, Pops x y1 y2 y3 := by
  have h0 : DigOk 1 1 (2 * 32) x := digOk_of (k := 1) (n := 64) hx
  obtain ⟨d1, p1⟩ := pop_stage (k := 1) (d := 1) (by decide) (by decide) h0
  rw [mk2_1] at d1 p1
  obtain ⟨y1, hy1⟩ : ∃ y, (x / 2 ^ 1 &&& 6148914691236517205) + (x &&& 6148914691236517205) = y := ⟨_, rfl⟩
  rw [hy1] at d1 p1
  have h1 : DigOk 2 2 (2 * 16) y1 := d1
  obtain ⟨d2, p2⟩ := pop_stage (k := 2) (d := 2) (by decide) (by decide) h1
  rw [mk2_2] at d2 p2
  obtain ⟨y2, hy2⟩ : ∃ y, (y1 / 2 ^ 2 &&& 3689348814741910323) + (y1 &&& 3689348814741910323) = y := ⟨_, rfl⟩
  rw [hy2] at d2 p2
  have h2 : DigOk 4 4 (2 * 8) y2 := d2
  obtain ⟨d3, p3⟩ := pop_third h2
  rw [mk2_4] at d3 p3
  obtain ⟨y3, hy3⟩ : ∃ y, (y2 / 16 + y2 &&& 1085102592571150095) = y := ⟨_, rfl⟩
  rw [hy3] at d3 p3
  have l := pop_last d3
  have e1 : popD 2 32 y1 = popD 1 64 x := p1
  have e2 : popD 4 16 y2 = popD 2 32 y1 := p2
  have e3 : popD 8 8 y3 = popD 4 16 y2 := p3
  have b1 : y1 < 2 ^ (2 * 32) := h1.lt
  have b2 : y2 < 5764607523034234880 := by
    have h16 : DigOk 4 4 (15 + 1) y2 := d2
    have hdig : ∀ n x, DigOk 4 4 (n + 1) x → x < 5 * 16 ^ n := by
      intro n
      induction n with
      | zero => intro x h; have h1 := h.1; have h2 : x / 2 ^ 4 = 0 := h.2; simp at h1 h2 ⊢; omega
      | succ n ih =>
        intro x h
        have h1 : x % 16 ≤ 4 := h.1
        have h2 : x / 16 < 5 * 16 ^ n := ih _ h.2
        rw [Nat.pow_succ]
        omega
    have := hdig 15 y2 h16
    have e : 5 * 16 ^ 15 = 5764607523034234880 := by decide
    omega
  refine ⟨y1, y2, y3, hy1.symm, hy2.symm, hy3.symm, b1, b2, ?_⟩
  rw [cntB_pop, ← e1, ← e2, ← e3]
  exact l
end Go.Proofs.YtnabbmdhhddfbaaDoor
namespace Go.Proofs.YtnabbmdhhddfbaaDoor
open Go.RowKit Go.Shelf
theorem pop_m1 {x y1 : Nat} (hx : x < 18446744073709551616) (e : y1 = (x / 2 &&& 6148914691236517205) + (x &&& 6148914691236517205)) (hy : y1 < 18446744073709551616) :
    IntKind.u64.wrap (bits .and .u64 ((x : Int) / 2) 6148914691236517205 + bits .and .u64 (x : Int) 6148914691236517205) = (y1 : Int) := by
  have e1 : ((x : Int) / 2) = ((x / 2 : Nat) : Int) := by omega
  have b1 := bits_and (x := x / 2) (y := 6148914691236517205) (by omega) (by decide)
  have b2 := bits_and (x := x) (y := 6148914691236517205) hx (by decide)
  rw [e1]
  rw [show ((6148914691236517205 : Nat) : Int) = (6148914691236517205 : Int) from rfl] at b1 b2
  rw [b1, b2, show (((x / 2 &&& 6148914691236517205 : Nat) : Int) + ((x &&& 6148914691236517205 : Nat) : Int)) = (y1 : Int) by rw [e]; simp, w64 _ hy]
theorem pop_m2 {x y1 : Nat} (hx : x < 18446744073709551616) (e : y1 = (x / 4 &&& 3689348814741910323) + (x &&& 3689348814741910323)) (hy : y1 < 18446744073709551616) :
    IntKind.u64.wrap (bits .and .u64 ((x : Int) / 4) 3689348814741910323 + bits .and .u64 (x : Int) 3689348814741910323) = (y1 : Int) := by
  have e1 : ((x : Int) / 4) = ((x / 4 : Nat) : Int) := by omega
  have b1 := bits_and (x := x / 4) (y := 3689348814741910323) (by omega) (by decide)
  have b2 := bits_and (x := x) (y := 3689348814741910323) hx (by decide)
  rw [e1]
  rw [show ((3689348814741910323 : Nat) : Int) = (3689348814741910323 : Int) from rfl] at b1 b2
  rw [b1, b2, show (((x / 4 &&& 3689348814741910323 : Nat) : Int) + ((x &&& 3689348814741910323 : Nat) : Int)) = (y1 : Int) by rw [e]; simp, w64 _ hy]
theorem pop_m3 {x y3 : Nat} (hx : x < 5764607523034234880) (e : y3 = (x / 16 + x &&& 1085102592571150095)) :
    bits .and .u64 (IntKind.u64.wrap ((x : Int) / 16 + (x : Int))) 1085102592571150095 = (y3 : Int) := by
  have e1 : ((x : Int) / 16 + (x : Int)) = ((x / 16 + x : Nat) : Int) := by omega
  have b1 := bits_and (x := x / 16 + x) (y := 1085102592571150095) (by omega) (by decide)
  rw [show ((1085102592571150095 : Nat) : Int) = (1085102592571150095 : Int) from rfl] at b1
  rw [e1, w64 _ (by omega), b1, e]
theorem pop_m4 {y k : Nat} (hy : y + y / k < 18446744073709551616) : IntKind.u64.wrap ((y : Int) + (y : Int) / (k : Int)) = ((y + y / k : Nat) : Int) := by
  rw [show ((y : Int) + (y : Int) / (k : Int)) = ((y + y / k : Nat) : Int) by simp, w64 _ hy]
theorem pop_m4' {y : Nat} (k : Nat) (k' : Int) (e : k' = (k : Int)) (hy : y + y / k < 18446744073709551616) : IntKind.u64.wrap ((y : Int) + (y : Int) / k') = ((y + y / k : Nat) : Int) := by
  subst e; exact pop_m4 hy
theorem i64w {x : Nat} (h : x < 9223372036854775808) : IntKind.i64.wrap (x : Int) = (x : Int) := wrap_nat _ x rfl (by omega)
theorem and127 (y : Nat) : y &&& 127 = y % 128 := by
  have := Nat.and_two_pow_sub_one_eq_mod y 7
  simpa using this
theorem pop_m5 {y c : Nat} (hy : y < 9223372036854775808) (e : y % 128 = c) : bits .and .i64 (wrap64 (y : Int)) 127 = (c : Int) := by
  have h1 : wrap64 (y : Int) = (y : Int) := IntWalk.wrap64_in _ ⟨by omega, by omega⟩
  rw [h1]
  show IntKind.i64.wrap ((BitVec.ofInt 64 (y : Int) &&& BitVec.ofInt 64 ((127 : Nat) : Int)).toNat : Int) = _
  rw [BitVec.toNat_and, bv64 (by omega), bv64 (by decide), and127, e]
  exact i64w (by omega)
set_option maxHeartbeats 1000000 in
/-- OnesCount64 answers the number of bits set. -/
theorem ones_any (x : Nat) (w : World) (hx : x < 18446744073709551616) :
    Calls Tryd.prog 82 #[.int .u64 x] w (fun e w' => e = .returned (.int .i64 (cntB x 64)) ∧ w' = w) := by
  obtain ⟨y1, y2, y3, hp⟩ := pops_of hx
  have M1 := Lib.hid (pop_m1 hx hp.s1 hp.b1)
  have M2 := Lib.hid (pop_m2 hp.b1 hp.s2 (by have := hp.b2; omega))
  have M3 := Lib.hid (pop_m3 hp.b2 hp.s3)
  obtain ⟨l0, l1, l2, l3, l4⟩ := hp.last
  have M4 := Lib.hid (pop_m4' (y := y3) 256 256 rfl (by omega))
  obtain ⟨y4, hy4⟩ : ∃ y, y3 + y3 / 256 = y := ⟨_, rfl⟩
  rw [hy4] at M4 l1 l2 l3 l4
  have M5 := Lib.hid (pop_m4' (y := y4) 65536 65536 rfl (by omega))
  obtain ⟨y5, hy5⟩ : ∃ y, y4 + y4 / 65536 = y := ⟨_, rfl⟩
  rw [hy5] at M5 l2 l3 l4
  have M6 := Lib.hid (pop_m4' (y := y5) 4294967296 4294967296 rfl (by omega))
  obtain ⟨y6, hy6⟩ : ∃ y, y5 + y5 / 4294967296 = y := ⟨_, rfl⟩
  rw [hy6] at M6 l3 l4
  have M7 := Lib.hid (pop_m5 (by omega) l4)
  clear hx hp l0 l1 l2 l3 l4 hy4 hy5 hy6
  go_enter Tryd.func82, Tryd.ntmps82
  go_upto_region 2 with fail
  try rw [M1.out]
  go_upto_region 3 with fail
  try rw [M2.out]
  go_upto_region 4 with fail
  try rw [M3.out]
  go_upto_region 5 with fail
  try rw [M4.out]
  go_upto_region 6 with fail
  try rw [M5.out]
  go_upto_region 7 with fail
  try rw [M6.out]
  go_wp2_with fail
  go_ret
  exact ⟨ret_i M7.out, rfl⟩
set_option maxHeartbeats 1000000 in
/-- The document's count. -/
theorem size_any (x : Nat) (w : World) (hx : x < 18446744073709551616) :
    Calls Tryd.prog 55 #[.int .u64 x] w (fun e w' => e = .returned (.int .i64 (cntB x 64)) ∧ w' = w) := by
  have hx' := Lib.hid hx
  have hle := Lib.hid (cntB_le x)
  clear hx
  go_enter Tryd.func55, Tryd.ntmps55
  go_wp2_with fail
  go_loopw [4, 3] (fun a b wr => ∃ k : Nat, k ≤ 64 ∧ a = .int .i64 k ∧ b = .int .i64 (cntB x k) ∧ wr = w) (fun a _ _ => 64 - (intOf a).toNat)
  case atStart => exact ⟨0, by omega, rfl, rfl, rfl⟩
  case round =>
    obtain ⟨k, hk, rfl, rfl, rfl⟩ := hrel
    by_cases hlt : k < 64
    · have hb := Lib.hid (in_bits (k := k) hx'.out)
      have ht := Lib.hid (Nat.testBit_eq_decide_div_mod_eq (x := x) (i := k))
      have HL := Lib.hid (hle.out k)
      have HS : Hid (cntB x (k + 1) = cntB x k + if x.testBit k then 1 else 0) := rfl
      obtain ⟨tb, htb⟩ : ∃ tb, x.testBit k = tb := ⟨_, rfl⟩
      rw [htb] at HS ht
      clear htb
      have hb' := hb.out
      cases tb with
      | true =>
        have h1 : (bits .and .u64 ((x : Int) / 2 ^ k) 1 == (1 : Int)) = true := by
          have hm : x / 2 ^ k % 2 = 1 := of_decide_eq_true ht.out.symm
          rw [hb', hm]; rfl
        have h2 : decide (bits .and .u64 ((x : Int) / 2 ^ k) 1 = (1 : Int)) = true := by simpa using h1
        have h3 : Hid ((cntB x k : Int) + 1 = (cntB x (k + 1) : Int)) := by show _ = _; rw [HS.out]; simp
        have h4 : cntB x k ≤ 64 := by have := HL.out; omega
        clear hb'
        go_wp2_with fail
        go_roundw
        case rel => exact ⟨k + 1, by omega, by go_num, by first | rw [← h3.out] | rw [h3.out], by trivial⟩
        case measure => simp [intOf]; omega
      | false =>
        have h1 : (bits .and .u64 ((x : Int) / 2 ^ k) 1 == (1 : Int)) = false := by
          have hm : ¬ (x / 2 ^ k % 2 = 1) := of_decide_eq_false ht.out.symm
          have hz : x / 2 ^ k % 2 = 0 := by omega
          rw [hb', hz]; rfl
        have h2 : decide (bits .and .u64 ((x : Int) / 2 ^ k) 1 = (1 : Int)) = false := by simpa using h1
        have h3 : Hid ((cntB x k : Int) = (cntB x (k + 1) : Int)) := by show _ = _; rw [HS.out]; simp
        clear hb'
        go_wp2_with fail
        go_roundw
        case rel => exact ⟨k + 1, by omega, by go_num, by first | rw [← h3.out] | rw [h3.out], by trivial⟩
        case measure => simp [intOf]; omega
    · have e : k = 64 := by omega
      subst e
      go_wp2_with fail
      go_ret
      exact ⟨rfl, rfl⟩
/-- The order of sets: more languages first, then the lesser number. -/
def setBef (x y : Nat) : Bool := if cntB x 64 = cntB y 64 then decide (x < y) else decide (cntB y 64 < cntB x 64)
set_option maxHeartbeats 1000000 in
theorem before_any (x y : Nat) (w : World) (hx : x < 18446744073709551616) (hy : y < 18446744073709551616) :
    Calls Tryd.prog 56 #[.int .u64 x, .int .u64 y] w (fun e w' => e = .returned (.bool (setBef x y)) ∧ w' = w) := by
  have HX := Lib.hid (fun W => size_any x W hx)
  have HY := Lib.hid (fun W => size_any y W hy)
  have LX := cntB_le x 64
  have LY := cntB_le y 64
  have HB : Hid (setBef x y = if cntB x 64 = cntB y 64 then decide (x < y) else decide (cntB y 64 < cntB x 64)) := rfl
  clear hx hy
  obtain ⟨a, ha⟩ : ∃ a, cntB x 64 = a := ⟨_, rfl⟩
  obtain ⟨b, hb⟩ : ∃ b, cntB y 64 = b := ⟨_, rfl⟩
  rw [ha] at HX HB LX
  rw [hb] at HY HB LY
  clear ha hb
  by_cases q : a = b
  · subst q
    have HB1 : Hid (setBef x y = decide (x < y)) := by show _ = _; rw [HB.out, if_pos rfl]
    clear HB
    go_enter Tryd.func56, Tryd.ntmps56
    go_wp2_with fail
    refine (HX.out _).mono ?_
    rintro e w' ⟨rfl, rfl⟩
    go_wp2_with fail
    refine (HY.out _).mono ?_
    rintro e w' ⟨rfl, rfl⟩
    go_wp2_with fail
    go_ret
    refine ⟨?_, rfl⟩
    rw [HB1.out]
    exact ret_b (by simp)
  · have HB1 : Hid (setBef x y = decide (b < a)) := by show _ = _; rw [HB.out, if_neg q]
    have q2 : ¬ ((a : Int) = (b : Int)) := by omega
    have q3 : ((a : Int) == (b : Int)) = false := by rw [beq_eq_false_iff_ne]; exact q2
    have q4 : decide ((a : Int) = (b : Int)) = false := decide_eq_false q2
    clear q2
    clear HB
    go_enter Tryd.func56, Tryd.ntmps56
    go_wp2_with fail
    refine (HX.out _).mono ?_
    rintro e w' ⟨rfl, rfl⟩
    go_wp2_with fail
    refine (HY.out _).mono ?_
    rintro e w' ⟨rfl, rfl⟩
    go_wp2_with fail
    refine (HX.out _).mono ?_
    rintro e w' ⟨rfl, rfl⟩
    go_wp2_with fail
    refine (HY.out _).mono ?_
    rintro e w' ⟨rfl, rfl⟩
    go_wp2_with fail
    go_ret
    refine ⟨?_, rfl⟩
    rw [HB1.out]
    exact ret_b (by simp)
/-- What the program's comparison answers. -/
def setCmp (x y : Nat) : Int := if cntB y 64 = cntB x 64 then (if x < y then -1 else if y < x then 1 else 0) else (cntB y 64 : Int) - cntB x 64
set_option maxHeartbeats 1000000 in
theorem cmp_any (x y : Nat) (w : World) (hx : x < 18446744073709551616) (hy : y < 18446744073709551616) :
    Calls Tryd.prog 64 #[.int .u64 x, .int .u64 y] w (fun e w' => e = .returned (.int .i64 (setCmp x y)) ∧ w' = w) := by
  have HX := Lib.hid (fun W => ones_any x W hx)
  have HY := Lib.hid (fun W => ones_any y W hy)
  have LX := cntB_le x 64
  have LY := cntB_le y 64
  have HB : Hid (setCmp x y = if cntB y 64 = cntB x 64 then (if x < y then -1 else if y < x then 1 else 0) else (cntB y 64 : Int) - cntB x 64) := rfl
  clear hx hy
  obtain ⟨a, ha⟩ : ∃ a, cntB x 64 = a := ⟨_, rfl⟩
  obtain ⟨b, hb⟩ : ∃ b, cntB y 64 = b := ⟨_, rfl⟩
  rw [ha] at HX HB LX
  rw [hb] at HY HB LY
  clear ha hb
  by_cases q : b = a
  · subst q
    have HB1 : Hid (setCmp x y = if x < y then -1 else if y < x then 1 else 0) := by show _ = _; rw [HB.out, if_pos rfl]
    have z1 : decide ((b : Int) - (b : Int) = 0) = true := by simp
    have z2 : ((b : Int) - (b : Int) == 0) = true := by simp
    have z3 : ((b : Int) - (b : Int)) = 0 := by omega
    clear HB
    rcases Nat.lt_trichotomy x y with h | h | h
    · have HB2 : Hid (setCmp x y = -1) := by show _ = _; rw [HB1.out, if_pos h]
      have d1 : decide (x < y) = true := decide_eq_true h
      clear HB1
      go_enter Tryd.func64, Tryd.ntmps64
      go_wp2_with fail
      refine (HY.out _).mono ?_
      rintro e w' ⟨rfl, rfl⟩
      go_wp2_with fail
      refine (HX.out _).mono ?_
      rintro e w' ⟨rfl, rfl⟩
      go_wp2_with fail
      go_ret
      exact ⟨ret_i HB2.out.symm, rfl⟩
    · have HB2 : Hid (setCmp x y = 0) := by show _ = _; rw [HB1.out, if_neg (by omega), if_neg (by omega)]
      subst h
      clear HB1
      go_enter Tryd.func64, Tryd.ntmps64
      go_wp2_with fail
      refine (HY.out _).mono ?_
      rintro e w' ⟨rfl, rfl⟩
      go_wp2_with fail
      refine (HX.out _).mono ?_
      rintro e w' ⟨rfl, rfl⟩
      go_wp2_with fail
      go_ret
      exact ⟨ret_i HB2.out.symm, rfl⟩
    · have HB2 : Hid (setCmp x y = 1) := by show _ = _; rw [HB1.out, if_neg (by omega), if_pos h]
      have h2 : ¬ x < y := by omega
      have d1 : decide (x < y) = false := decide_eq_false h2
      have d2 : decide (y < x) = true := decide_eq_true h
      clear HB1
      go_enter Tryd.func64, Tryd.ntmps64
      go_wp2_with fail
      refine (HY.out _).mono ?_
      rintro e w' ⟨rfl, rfl⟩
      go_wp2_with fail
      refine (HX.out _).mono ?_
      rintro e w' ⟨rfl, rfl⟩
      go_wp2_with fail
      go_ret
      exact ⟨ret_i HB2.out.symm, rfl⟩
  · have HB1 : Hid (setCmp x y = (b : Int) - a) := by show _ = _; rw [HB.out, if_neg q]
    have z0 : ¬ ((b : Int) - (a : Int) = 0) := by omega
    have z1 : decide ((b : Int) - (a : Int) = 0) = false := decide_eq_false z0
    have z2 : ((b : Int) - (a : Int) == 0) = false := by rw [beq_eq_false_iff_ne]; exact z0
    clear HB z0
    go_enter Tryd.func64, Tryd.ntmps64
    go_wp2_with fail
    refine (HY.out _).mono ?_
    rintro e w' ⟨rfl, rfl⟩
    go_wp2_with fail
    refine (HX.out _).mono ?_
    rintro e w' ⟨rfl, rfl⟩
    go_wp2_with fail
    go_ret
    exact ⟨ret_i HB1.out.symm, rfl⟩
end Go.Proofs.YtnabbmdhhddfbaaDoor
namespace Go.Proofs.YtnabbmdhhddfbaaDoor
open Go.RowKit Go.Shelf Go.Sort
abbrev U64 := Fin 18446744073709551616
def encU (x : U64) : Value := .int .u64 (x.val : Int)
def cfU (x y : U64) : Int := setCmp x.val y.val
theorem setBef_iff (x y : Nat) : setBef x y = true ↔ cntB y 64 < cntB x 64 ∨ (cntB x 64 = cntB y 64 ∧ x < y) := by
  unfold setBef
  by_cases h : cntB x 64 = cntB y 64
  · rw [if_pos h]; simp [h]
  · rw [if_neg h]; simp [h]
theorem setBef_iff' (x y : Nat) : setBef x y = false ↔ ¬ (cntB y 64 < cntB x 64 ∨ (cntB x 64 = cntB y 64 ∧ x < y)) := by
  rw [← setBef_iff, Bool.not_eq_true]
theorem ltU (x y : U64) : ltOf cfU x y = setBef x.val y.val := by
  unfold ltOf cfU setCmp
  rw [Bool.eq_iff_iff, decide_eq_true_iff, setBef_iff]
  by_cases h : cntB y.val 64 = cntB x.val 64
  · rw [if_pos h]
    by_cases h1 : x.val < y.val
    · rw [if_pos h1]; omega
    · rw [if_neg h1]
      by_cases h2 : y.val < x.val
      · rw [if_pos h2]; omega
      · rw [if_neg h2]; omega
  · rw [if_neg h]; omega
theorem swo_cfU : SWO (ltOf cfU) where
  irrefl x := by rw [ltU, setBef_iff']; omega
  trans x y z h1 h2 := by rw [ltU, setBef_iff] at *; omega
  ntrans x y z h1 h2 := by rw [ltU, setBef_iff'] at *; omega
theorem tot_cfU (x y : U64) (h1 : ltOf cfU x y = false) (h2 : ltOf cfU y x = false) : x = y := by
  rw [ltU, setBef_iff'] at *
  exact Fin.ext (by omega)
def cmpSets_ren : Go.Shelf.Ren := ⟨fun | 43 => 65 | n => n, fun | 22 => 62 | 23 => 61 | 0 => 0 | 3 => 3 | 4 => 4 | n => n, fun | n => n⟩
theorem cmpSets : Go.Proofs.SlLaysE.n43 Tryd.prog cmpSets_ren := {
  mixed := by kernel_rfl
  f43 := ⟨Tryd.f65.name, by decide, Tryd.func65.trans (congrArg some (by kernel_rfl))⟩
  t0 := Tryd.underlying0
  a0 := Tryd.isAgg0
  z0 := Tryd.sizeOf0
  v0 := Tryd.zeroValue0
  t3 := Tryd.underlying3
  a3 := Tryd.isAgg3
  z3 := Tryd.sizeOf3
  v3 := Tryd.zeroValue3
  t4 := Tryd.underlying4
  a4 := Tryd.isAgg4
  z4 := Tryd.sizeOf4
  v4 := Tryd.zeroValue4
  t22 := Tryd.underlying62
  a22 := Tryd.isAgg62
  z22 := Tryd.sizeOf62
  v22 := Tryd.zeroValue62
  a23 := Tryd.isAgg61
  z23 := Tryd.sizeOf61 }
theorem oneU : OneCell encU := fun _ => rfl
theorem decU (x y : U64) : decide ((x.val : Int) = (y.val : Int)) = decide (x = y) := by
  by_cases q : x = y
  · simp [q]
  · have : ¬ ((x.val : Int) = (y.val : Int)) := fun e => q (Fin.ext (by omega))
    rw [decide_eq_false q, decide_eq_false this]
theorem guardU (P : Program) (T : TypeId) : GuardAt P T encU := fun op a b x y w => GuardAt.int P T .u64 op a b (x.val : Int) (y.val : Int) w
theorem eqU (P : Program) (T : TypeId) : EqlAt P T encU (fun x y => decide (x = y)) := ⟨fun x y w => by
  have h := (EqlAt.intD P T .u64).1 (x.val : Int) (y.val : Int) w
  show Sem.run P (binOp .eql T (encU x) (encU y)) w = .ok (.bool (decide (x = y))) w
  rw [← decU]
  exact h, guardU P T⟩
theorem neU (P : Program) (T : TypeId) : NeqAt P T encU (fun x y => decide (x = y)) := ⟨fun x y w => by
  have h := (NeqAt.intD P T .u64).1 (x.val : Int) (y.val : Int) w
  show Sem.run P (binOp .neq T (encU x) (encU y)) w = .ok (.bool (!decide (x = y))) w
  rw [← decU]
  exact h, guardU P T⟩
theorem compact_any (blk off cap : Nat) (d : Array U64) (w : World) (hH : Holds encU w blk off d) (hsz : d.size ≤ 9223372036854775807) (hcap : d.size ≤ cap) :
    Calls Tryd.prog 65 #[.slice (some ⟨blk, off, none⟩) d.size cap] w fun e w' => e = .returned (.slice (some ⟨blk, off, none⟩) (Go.Lib.compactUpTo d d.size).length cap) ∧ ∃ q, w' = putRow encU (Sort.ahead w q) blk off (Go.Lib.compactUpTo d d.size ++ List.replicate (d.size - (Go.Lib.compactUpTo d d.size).length) 0).toArray :=
  AnyE.slices_Compact cmpSets encU oneU (eqU _ _) (neU _ _) 0 Tryd.zeroValue61 blk off cap d w hH hsz hcap
theorem cmpLaysU (blk off size : Nat) (w : World) : CmpLays1 Tryd.prog 64 #[] encU cfU blk off size w := fun m os dk _ x y =>
  (cmp_any x.val y.val _ x.isLt y.isLt).mono fun e w' h => ⟨h.1, 0, #[], by rw [h.2, grow_empty]; rfl⟩
theorem sort_any (blk off cap : Nat) (d : Array U64) (w : World) (hH : Holds encU w blk off d) (hblk : blk < w.heap.size) (hsz : d.size < 4611686018427387904) :
    Calls Tryd.prog 63 #[.slice (some ⟨blk, off, none⟩) d.size cap, .func (.func 64) #[] #[]] w fun e w' =>
      e = .returned (.tuple #[]) ∧ ∃ n os, w' = sortWorld encU w blk off n (d.toList.mergeSort fun x y => !(ltOf cfU) y x).toArray os :=
  Any.slices_SortFunc_total Tryd.sortSets encU oneU cfU swo_cfU 64 #[] blk off cap d w (enters_of Tryd.func64 (by kernel_rfl) rfl) (cmpLaysU _ _ _ _) hH hblk hsz tot_cfU
theorem sort_none (p : Option Addr) (cap : Nat) (fv : Value) (w : World) :
    Calls Tryd.prog 63 #[.slice p 0 cap, fv] w fun e w' => e = .returned (.tuple #[]) ∧ w' = w := by
  have h := AnyF.slices_SortFunc_none (P := Tryd.prog) (ρ := Tryd.sortSets_ren) { Tryd.sortSets with } p cap fv w
  exact h
end Go.Proofs.YtnabbmdhhddfbaaDoor
namespace Go.Proofs.YtnabbmdhhddfbaaDoor
open Go.RowKit Go.Shelf Go.Sort
set_option maxHeartbeats 1000000 in
theorem grp1_any (x o S : Nat) (w : World) (hx : x < 18446744073709551616) (ho : o < 18446744073709551616) (hB : Blk w S #[.int .u64 x] 61) :
    Calls Tryd.prog 62 #[.int .u64 o, .pointer (some ⟨S, 0, none⟩)] w fun e w' => e = .returned (.bool (!fitB x o)) ∧ w' = w := by
  have e0 : w.cell? ⟨S, 0, none⟩ = some (.int .u64 x) := hB.cell 0
  go_enter Tryd.func62, Tryd.ntmps62
  go_wp2_with fail
  refine (fits_any x o w hx ho).mono ?_
  rintro e w' ⟨rfl, rfl⟩
  obtain ⟨b, hb⟩ : ∃ b, fitB x o = b := ⟨_, rfl⟩
  have HBB := Lib.hid hb
  rw [hb]
  clear hb
  go_wp2_with fail
  go_ret
  exact ⟨by rw [HBB.out]; rfl, rfl⟩
/-- x without its lowest bit. -/
def lowOff (x : Nat) : Nat := x &&& (x + 18446744073709551615) % 18446744073709551616
theorem lowOff_bits {x : Nat} (hx : x < 18446744073709551616) : bits .and .u64 (x : Int) (IntKind.u64.wrap ((x : Int) - 1)) = (lowOff x : Int) := by
  have e : IntKind.u64.wrap ((x : Int) - 1) = (((x + 18446744073709551615) % 18446744073709551616 : Nat) : Int) := by
    rw [IntKind.wrap_u64]; omega
  rw [e, bits_and hx (Nat.mod_lt _ (by omega))]
  rfl
/-- Is x a group of the table? -/
def grpB (L : Nat) (l : List Nat) (x : Nat) : Bool := (!decide (lowOff x = 0) && !decide (x = 2 ^ L - 1)) && !(l.any fun o => !fitB x o)
/-- The groups among the first k rows, in the order of the rows. -/
def grpL (L : Nat) (l : List Nat) (k : Nat) : List Nat := (l.take k).filter (grpB L l)
theorem grpL_snoc (L : Nat) (l : List Nat) (k : Nat) (h : k < l.length) : grpL L l (k + 1) = grpL L l k ++ (if grpB L l (vA l k) then [vA l k] else []) := by
  unfold grpL
  rw [List.take_succ_eq_append_getElem h, List.filter_append, ← vA_get h]
  congr 1
  by_cases q : grpB L l (vA l k)
  · simp [q]
  · simp [q]
theorem info_G : (Tryd.prog.info? 61).map (fun i => (i.zero, i.size, i.bytes)) = some (some (.int .u64 0), 1, 8) := by kernel_rfl
theorem push_G {w : World} {ops : Array Oper} {rest : List Oper} {o : Oper} {a : Act} {Q : Exit → Act → World → Prop} (hgd : o.guard = none) (s x : Operand) (ho : o.op = .call { callee := .builtin .append, args := #[s, x], argTypes := #[62, 62] })
    (base : Nat) (v : Value) (l : List Nat) (n : Nat) (hn : n = l.length) (hs : a.eval s = v) (hown : w.ownsRow base 61 1 v n (fl encV l)) (B c : Nat) (y : Nat) (hx : a.eval x = .slice (some ⟨B, 0, none⟩) 1 c) (hB : Blk w B (encV y).toArray 61) (hl : n < 8796093022208) (hbase : base ≤ w.heap.size)
    (h : ∀ g cap w', w'.ownsRow base 61 1 (.slice (some ⟨g, 0, none⟩) (n + 1) cap) (n + 1) (fl encV (l ++ [y])) → w.grownBy w' v.ownBlock → (v.ownBlock = some g ∨ g = w.heap.size) → g < w'.heap.size → wpList Tryd.prog ops Q rest (a.put o.dst (.slice (some ⟨g, 0, none⟩) (n + 1) cap)) w') : wpList Tryd.prog ops Q (o :: rest) a w := by
  obtain ⟨i0, hi, hz0, hz1, hz2⟩ := info_parts info_G
  refine wpList_append_lies w hgd s x 62 ho base 61 i0 _ 1 8 Tryd.underlying62 hi hz0 hz1 hz2 rfl (by decide) v n (fl encV l) hs hown ⟨B, 0, none⟩ 1 c (encV y) hx (by simp [encV]) (World.news_of_block (cs := (encV y).toArray) (t := 61) (fr := (0, 0)) hB) (by intro u hu; simp [encV] at hu; first | (subst hu; rfl) | (rcases hu with rfl | rfl <;> rfl) | (rcases hu with rfl | rfl | rfl | rfl | rfl <;> rfl)) (by omega) (by unfold maxLen; omega) (by omega) hbase _ rfl ?_
  intro g cap w' h1 h2 h3 h4
  rw [← fl_snoc] at h1
  exact h g cap w' h1 h2 h3 h4
theorem spush_G {w : World} {ops : Array Oper} {o : Oper} {a : Act} {K : Act → World → Prop} {Q : Exit → Act → World → Prop} {E : Prop} (hgd : o.guard = none) (s x : Operand) (ho : o.op = .call { callee := .builtin .append, args := #[s, x], argTypes := #[62, 62] })
    (base : Nat) (v : Value) (l : List Nat) (n : Nat) (hn : n = l.length) (hs : a.eval s = v) (hown : w.ownsRow base 61 1 v n (fl encV l)) (B c : Nat) (y : Nat) (hx : a.eval x = .slice (some ⟨B, 0, none⟩) 1 c) (hB : Blk w B (encV y).toArray 61) (hl : n < 8796093022208) (hbase : base ≤ w.heap.size)
    (h : ∀ g cap w', w'.ownsRow base 61 1 (.slice (some ⟨g, 0, none⟩) (n + 1) cap) (n + 1) (fl encV (l ++ [y])) → w.grownBy w' v.ownBlock → (v.ownBlock = some g ∨ g = w.heap.size) → g < w'.heap.size → K (a.put o.dst (.slice (some ⟨g, 0, none⟩) (n + 1) cap)) w') : if Region.wanted o (yielded ops a.tmps) = true then Oper.wp Tryd.prog o a w K Q else E := by
  obtain ⟨i0, hi, hz0, hz1, hz2⟩ := info_parts info_G
  refine step_append_lies w hgd s x 62 ho base 61 i0 _ 1 8 Tryd.underlying62 hi hz0 hz1 hz2 rfl (by decide) v n (fl encV l) hs hown ⟨B, 0, none⟩ 1 c (encV y) hx (by simp [encV]) (World.news_of_block (cs := (encV y).toArray) (t := 61) (fr := (0, 0)) hB) (by intro u hu; simp [encV] at hu; first | (subst hu; rfl) | (rcases hu with rfl | rfl <;> rfl) | (rcases hu with rfl | rfl | rfl | rfl | rfl <;> rfl)) (by omega) (by unfold maxLen; omega) (by omega) hbase _ rfl ?_
  intro g cap w' h1 h2 h3 h4
  rw [← fl_snoc] at h1
  exact h g cap w' h1 h2 h3 h4
end Go.Proofs.YtnabbmdhhddfbaaDoor
namespace Go.Proofs.YtnabbmdhhddfbaaDoor
open Go.RowKit Go.Shelf Go.Sort
theorem owns_putRow {w : World} {base e n m cap g : Nat} {xs : List Value} (h : w.ownsRow base e 1 (.slice (some ⟨g, 0, none⟩) n cap) n xs) (d : Array U64) (hd : d.size = n) (hm : m ≤ n) :
    (putRow encU w g 0 d).ownsRow base e 1 (.slice (some ⟨g, 0, none⟩) m cap) m ((d.toList.take m).map encU) := by
  rcases h.2 with ⟨hv, _⟩ | ⟨g', cap', cur, hv, hg, hh, hn, hmx, hcs, _⟩
  · cases hv
  · cases hv
    refine ⟨by simp; omega, .inr ⟨g, cap, putCells encU 0 d cur, rfl, hg, by simp [putRow, mapBlock, Array.getElem?_modify, hh, onCells], by omega, hmx, by simp [putCells, hcs], ?_⟩⟩
    apply List.ext_getElem?
    intro i
    by_cases hi : i < m
    · have h1 : i < cur.size := by omega
      have h2 : i < d.size := by omega
      simp [putCells, List.getElem?_take, hi, h1, h2]
    · simp [List.getElem?_take, hi]
theorem owns_holds {w : World} {base e n cap g : Nat} {d : Array U64} (h : w.ownsRow base e 1 (.slice (some ⟨g, 0, none⟩) n cap) n (d.toList.map encU)) : Holds encU w g 0 d := by
  rcases h.2 with ⟨hv, _⟩ | ⟨g', cap', cur, hv, hg, hh, hn, hmx, hcs, ht⟩
  · cases hv
  · cases hv
    intro j hj
    have hl := h.1
    rw [List.length_map, Array.length_toList] at hl
    have h1 : j < cur.size := by omega
    have h2 : cur[j]? = some (encU d[j]!) := by
      have := congrArg (fun l => l[j]?) ht
      simp [List.getElem?_take, show j < n by omega, h1, hj] at this
      simp [h1, hj, this]
    refine ⟨?_, ?_⟩
    · simp [World.cell?, hh, h2]
    · simp [World.frozen?, hh]
end Go.Proofs.YtnabbmdhhddfbaaDoor
namespace Go.Proofs.YtnabbmdhhddfbaaDoor
open Go.RowKit Go.Shelf Go.Sort
theorem bl_putRow {a w : World} (h : Below a.heap.size a w) {g off : Nat} (hg : a.heap.size ≤ g) (d : Array U64) : Below a.heap.size a (putRow encU w g off d) :=
  ⟨h.os, h.tape, h.output, by rw [size_putRow]; exact h.size, fun k hk => by
    rw [← h.block k hk]
    simp [putRow, mapBlock, Array.getElem?_modify, show g ≠ k by omega]⟩
theorem bl_ahead {a w : World} (h : Below a.heap.size a w) (n : Nat) : Below a.heap.size a (Sort.ahead w n) := ⟨h.os, h.tape, h.output, h.size, h.block⟩
theorem bl_growS {a w : World} (h : Below a.heap.size a w) (os : Array Obj) : Below a.heap.size a (grow w os) :=
  ⟨h.os, h.tape, h.output, by have := h.size; simp [grow]; omega, fun k hk => by
    rw [← h.block k hk]
    have := h.size
    simp [grow, Array.getElem?_append_left (show k < w.heap.size by omega)]⟩
theorem owns_ahead {w : World} {base e k n : Nat} {v : Value} {xs : List Value} (h : w.ownsRow base e k v n xs) (q : Nat) : (Sort.ahead w q).ownsRow base e k v n xs := h
/-- The row sorted. -/
def srtU (d : Array U64) : Array U64 := (d.toList.mergeSort fun x y => !(ltOf cfU) y x).toArray
theorem srtU_size (d : Array U64) : (srtU d).size = d.size := by simp [srtU]
theorem sortRow_any {w : World} {base cap g : Nat} (d : Array U64) (h : w.ownsRow base 61 1 (.slice (some ⟨g, 0, none⟩) d.size cap) d.size (d.toList.map encU)) (hg : g < w.heap.size) (hsz : d.size < 4611686018427387904) :
    Calls Tryd.prog 63 #[.slice (some ⟨g, 0, none⟩) d.size cap, .func (.func 64) #[] #[]] w fun e w' =>
      e = .returned (.tuple #[]) ∧ w'.ownsRow base 61 1 (.slice (some ⟨g, 0, none⟩) d.size cap) d.size ((srtU d).toList.map encU) ∧ (∀ a : World, Below a.heap.size a w → a.heap.size ≤ g → Below a.heap.size a w') ∧ g < w'.heap.size := by
  refine (sort_any g 0 cap d w (owns_holds h) hg hsz).mono ?_
  rintro e w' ⟨he, n, os, rfl⟩
  refine ⟨he, ?_, fun a ha hag => bl_growS (bl_putRow (bl_ahead ha n) hag _) os, ?_⟩
  · have h1 := owns_putRow (m := d.size) (owns_ahead h n) (srtU d) (srtU_size d) (Nat.le_refl _)
    rw [List.take_of_length_le (by rw [Array.length_toList, srtU_size]; exact Nat.le_refl _)] at h1
    exact owns_below h1 (bl_growS (Below.refl _ _) os)
  · have := (bl_growS (Below.refl _ (putRow encU (Sort.ahead w n) g 0 (srtU d))) os).size
    rw [size_putRow] at this
    exact Nat.lt_of_lt_of_le hg this
end Go.Proofs.YtnabbmdhhddfbaaDoor
namespace Go.Proofs.YtnabbmdhhddfbaaDoor
open Go.RowKit Go.Shelf Go.Sort
def cmpU (d : Array U64) : List U64 := Go.Lib.compactUpTo d d.size
theorem cmpU_le (d : Array U64) : (cmpU d).length ≤ d.size := by
  unfold cmpU Go.Lib.compactUpTo
  rw [List.length_map]
  exact Nat.le_trans (List.length_filter_le _ _) (by simp)
theorem owns_capS {w : World} {base e n cap g : Nat} {xs : List Value} (h : w.ownsRow base e 1 (.slice (some ⟨g, 0, none⟩) n cap) n xs) : n ≤ cap := by
  rcases h.2 with ⟨hv, _⟩ | ⟨g', cap', cur, hv, hg, hh, hn, _⟩
  · cases hv
  · cases hv; exact hn
theorem compactRow_any {w : World} {base cap g : Nat} (d : Array U64) (h : w.ownsRow base 61 1 (.slice (some ⟨g, 0, none⟩) d.size cap) d.size (d.toList.map encU)) (hsz : d.size ≤ 9223372036854775807) :
    Calls Tryd.prog 65 #[.slice (some ⟨g, 0, none⟩) d.size cap] w fun e w' =>
      e = .returned (.slice (some ⟨g, 0, none⟩) (cmpU d).length cap) ∧ w'.ownsRow base 61 1 (.slice (some ⟨g, 0, none⟩) (cmpU d).length cap) (cmpU d).length ((cmpU d).map encU) ∧ (∀ a : World, Below a.heap.size a w → a.heap.size ≤ g → Below a.heap.size a w') := by
  refine (compact_any g 0 cap d w (owns_holds h) hsz (owns_capS h)).mono ?_
  rintro e w' ⟨he, q, rfl⟩
  refine ⟨he, ?_, fun a ha hag => bl_putRow (bl_ahead ha q) hag _⟩
  have hle := cmpU_le d
  have hs : (cmpU d ++ List.replicate (d.size - (cmpU d).length) (0 : U64)).toArray.size = d.size := by simp; omega
  have h1 := owns_putRow (m := (cmpU d).length) (owns_ahead h q) (cmpU d ++ List.replicate (d.size - (cmpU d).length) (0 : U64)).toArray hs hle
  rw [show ((cmpU d ++ List.replicate (d.size - (cmpU d).length) (0 : U64)).toArray.toList.take (cmpU d).length) = cmpU d by simp] at h1
  exact h1
/-- The sets of the table as elements of U64. -/
def toU (l : List Nat) : List U64 := l.map fun x => Fin.ofNat _ x
theorem toU_enc {l : List Nat} (h : ∀ x, x ∈ l → x < 18446744073709551616) : (toU l).map encU = fl encV l := by
  unfold toU fl
  induction l with
  | nil => rfl
  | cons x l ih =>
    have hx := h x (by simp)
    have := ih (fun y hy => h y (by simp [hy]))
    simp only [List.map_cons, List.flatMap_cons, this]
    simp [encU, encV, Nat.mod_eq_of_lt hx]
end Go.Proofs.YtnabbmdhhddfbaaDoor
namespace Go.Proofs.YtnabbmdhhddfbaaDoor
open Go.RowKit Go.Shelf Go.Sort
theorem bl_grown {a w w' : World} {row : Option Nat} (h : Below a.heap.size a w) (hg : w.grownBy w' row) (hr : ∀ k, row = some k → a.heap.size ≤ k) : Below a.heap.size a w' :=
  ⟨hg.os.trans h.os, hg.tape.trans h.tape, hg.output.trans h.output, Nat.le_trans h.size hg.size, fun k hk => (hg.block k (by have := h.size; omega) (fun e => by have := hr k e.symm; omega)).trans (h.block k hk)⟩
/-- The groups in order, each once. -/
def grpsU (L : Nat) (l : List Nat) : List U64 := cmpU (srtU (toU (grpL L l l.length)).toArray)
theorem grpsU_nil {L : Nat} {l : List Nat} (h : grpL L l l.length = []) : grpsU L l = [] := by
  unfold grpsU
  rw [h]
  have h1 := cmpU_le (srtU (toU []).toArray)
  rw [srtU_size] at h1
  exact List.eq_nil_of_length_eq_zero (Nat.le_zero.1 h1)
theorem grpL_lt {L : Nat} {l : List Nat} (hF : ∀ i, i < l.length → vA l i < 18446744073709551616) (k : Nat) : ∀ x, x ∈ grpL L l k → x < 18446744073709551616 := by
  intro x hx
  have h1 : x ∈ l := List.mem_of_mem_take (List.mem_filter.1 hx).1
  obtain ⟨i, hi, rfl⟩ := List.mem_iff_getElem.1 h1
  have := hF i hi
  rwa [vA_get hi] at this
set_option maxHeartbeats 1000000 in
theorem compact_none (p : Option Addr) (cap : Nat) (w : World) :
    Calls Tryd.prog 65 #[.slice p 0 cap] w fun e w' => e = .returned (.slice p 0 cap) ∧ w' = w := by
  go_enter Tryd.func65, Tryd.ntmps65
  go_wp2_with fail
  go_ret
  exact ⟨rfl, rfl⟩
set_option maxRecDepth 100000 in
set_option maxHeartbeats 2000000 in
theorem groups_any (L : Nat) (a : Option Addr) (N c : Nat) (l : List Nat) (w : World) (hl : l.length = N) (hN : N ≤ 64) (hL : L ≤ 32) (hA : Rd w a (fl encV l)) (hF : ∀ i, i < l.length → vA l i < 18446744073709551616) :
    Calls Tryd.prog 36 #[.agg #[.int .i64 L, .slice a N c]] w fun e w' => ∃ v', e = .returned v' ∧ w'.ownsRow w.heap.size 61 1 v' (grpsU L l).length ((grpsU L l).map encU) ∧ Below w.heap.size w w' := by
  have HL := Lib.hid hl
  have HF := Lib.hid hF
  have HW := Lib.hid (wrap_all hL)
  have hB := Blk.new w #[.int .i64 L, .slice a N c] 24
  have hb0 : Below w.heap.size w (w.alloc (.cells #[.int .i64 L, .slice a N c] 24)) := bl_alloc (Below.refl _ _) _
  have e0 := hB.cell 0
  have e1 := hB.cell 1
  obtain ⟨X, hX⟩ : ∃ X, X = w.heap.size := ⟨_, rfl⟩
  obtain ⟨w1, hw1⟩ : ∃ w1, w1 = w.alloc (.cells #[.int .i64 L, .slice a N c] 24) := ⟨_, rfl⟩
  rw [← hw1] at e0 e1 hb0 hB
  have HA1 := Lib.hid (hA.bl hb0)
  rw [← hX] at e0 e1 hB
  have e0' : w1.cell? ⟨X, 0, none⟩ = some (.int .i64 L) := e0
  have e1' : w1.cell? ⟨X, 1, none⟩ = some (.slice a N c) := e1
  have HBX := Lib.hid hB
  have HB0 := Lib.hid hb0
  clear hB e0 e1 hb0 hl hF hA
  go_enter Tryd.func36, Tryd.ntmps36
  go_upto_region 1 with fail
  rw [← hw1, ← hX]
  clear hw1
  have HXS := Lib.hid hX
  clear hX
  go_upto_region 2 with fail
  rw [HW.out]
  go_wp2_with fail
  go_loopw [15, 4] (fun x v wr => ∃ k : Nat, k ≤ N ∧ x = .int .i64 k ∧ wr.ownsRow w1.heap.size 61 1 v (grpL L l k).length (fl encV (grpL L l k)) ∧ Below w1.heap.size w1 wr) (fun x _ _ => N - (intOf x).toNat)
  case atStart => exact ⟨0, by omega, rfl, World.ownsRow_nil _ _ _ _, Below.refl _ _⟩
  case round =>
    obtain ⟨k, hk, rfl, how, hbw⟩ := hrel
    by_cases hlt : k < N
    · obtain ⟨b, o, rfl, hb, hc⟩ := rdV (HA1.out.bl hbw) (by rw [HL.out]; omega)
      have hkl : k < l.length := by rw [HL.out]; exact hlt
      have G1 := hc k hkl
      have hxb := HF.out k hkl
      have HSN := Lib.hid (grpL_snoc L l k hkl)
      have HLB := Lib.hid (lowOff_bits hxb)
      have hdef : Hid (grpB L l (vA l k) = ((!decide (lowOff (vA l k) = 0) && !decide (vA l k = 2 ^ L - 1)) && !(l.any fun o => !fitB (vA l k) o))) := rfl
      have HOW := Lib.hid how
      have HBW := Lib.hid hbw
      have hBXr := HBX.out.below hbw
      have f0 : wr.cell? ⟨X, 0, none⟩ = some (.int .i64 L) := hBXr.cell 0
      have f1 : wr.cell? ⟨X, 1, none⟩ = some (.slice (some ⟨b, o, none⟩) N c) := hBXr.cell 1
      clear hc hkl how hbw hBXr e0' e1'
      generalize vA l k = z at *
      have HBz := Lib.hid (Blk.new wr #[.int .u64 z] 61)
      have HRz := Lib.hid ((HA1.out.bl HBW.out).bl (bl_alloc (Below.refl wr.heap.size wr) (.cells #[.int .u64 z] 61)))
      have HC := Lib.hid (containsF_any 62 (enters_of Tryd.func62 (by kernel_rfl) rfl) #[.pointer (some ⟨wr.heap.size, 0, none⟩)] (fun o => !fitB z o) (some ⟨b, o, none⟩) N c l (wr.alloc (.cells #[.int .u64 z] 61)) HL.out (by omega) HRz.out (fun i hi W hW => (grp1_any z (vA l i) wr.heap.size W hxb (HF.out i (by rw [HL.out]; exact hi)) (HBz.out.below hW)).mono fun e w' hh => ⟨hh.1, by rw [hh.2]; exact Below.refl _ _⟩))
      have HBN := Lib.hid (bl_alloc HBW.out (.cells #[.int .u64 z] 61))
      have HON := Lib.hid (HOW.out.alloc (.cells #[.int .u64 z] 61))
      by_cases q1 : lowOff z = 0
      · have hg : Hid (grpL L l (k + 1) = grpL L l k) := by show _ = _; rw [HSN.out, hdef.out, decide_eq_true q1]; simp
        have h0 : bits .and .u64 (z : Int) (IntKind.u64.wrap ((z : Int) - 1)) = 0 := by rw [HLB.out, q1]; rfl
        clear q1
        go_wp2_with fail
        go_roundw
        case rel => exact ⟨k + 1, by omega, by go_num, by rw [hg.out]; exact HON.out, HBN.out⟩
        case measure => simp [intOf]; omega
      · have hq1 := decide_eq_false q1
        have h0 : ¬ (bits .and .u64 (z : Int) (IntKind.u64.wrap ((z : Int) - 1)) = 0) := by rw [HLB.out]; omega
        have HQ1 := Lib.hid hq1
        clear q1 hq1
        by_cases q2 : z = 2 ^ L - 1
        · have hg : Hid (grpL L l (k + 1) = grpL L l k) := by show _ = _; rw [HSN.out, hdef.out, HQ1.out, decide_eq_true q2]; simp
          obtain ⟨al, hal⟩ : ∃ al, 2 ^ L - 1 = al := ⟨_, rfl⟩
          rw [hal] at q2
          rw [hal]
          clear hal hdef
          subst q2
          go_wp2_with fail
          go_roundw
          case rel => exact ⟨k + 1, by omega, by go_num, by rw [hg.out]; exact HON.out, HBN.out⟩
          case measure => simp [intOf]; omega
        · obtain ⟨al, hal⟩ : ∃ al, 2 ^ L - 1 = al := ⟨_, rfl⟩
          rw [hal] at q2 hdef
          rw [hal]
          have h1 : ¬ ((z : Int) = (al : Int)) := by omega
          have hq2 := Lib.hid (decide_eq_false q2)
          have b1 : (bits .and .u64 (z : Int) (IntKind.u64.wrap ((z : Int) - 1)) != 0) = true := bne_iff_ne.2 h0
          have b2 : ((z : Int) != (al : Int)) = true := bne_iff_ne.2 h1
          have f1' : (wr.alloc (.cells #[.int .u64 z] 61)).cell? ⟨X, 1, none⟩ = some (.slice (some ⟨b, o, none⟩) N c) := (HBX.out.below HBN.out).cell 1
          have fz : (wr.alloc (.cells #[.int .u64 z] 61)).cell? ⟨wr.heap.size, 0, none⟩ = some (.int .u64 z) := HBz.out.cell 0
          clear h0 h1
          clear hal q2
          cases hs : l.any (fun o => !fitB z o) with
          | true =>
            have hg : Hid (grpL L l (k + 1) = grpL L l k) := by show _ = _; rw [HSN.out, hdef.out, hs]; simp
            rw [hs] at HC
            clear hs
            go_wp2_with fail
            refine (HC.out).mono ?_
            rintro e w' ⟨rfl, hw'⟩
            have HBM := bl_trans HBN.out hw'
            have HOM := owns_below HON.out hw'
            go_wp2_with fail
            go_roundw
            case rel => exact ⟨k + 1, by omega, by go_num, by rw [hg.out]; exact HOM, HBM⟩
            case measure => simp [intOf]; omega
          | false =>
            have hg : Hid (grpL L l (k + 1) = grpL L l k ++ [z]) := by show _ = _; rw [HSN.out, hdef.out, hs, HQ1.out, hq2.out]; simp
            have hlen : (grpL L l k).length < 8796093022208 := by
              have : (grpL L l k).length ≤ (l.take k).length := List.length_filter_le _ _
              rw [List.length_take] at this; omega
            rw [hs] at HC
            clear hs
            go_wp2_with fail
            refine (HC.out).mono ?_
            rintro e w' ⟨rfl, hw'⟩
            have HBM := Lib.hid (bl_trans HBN.out hw')
            have HOM := Lib.hid (owns_below HON.out hw')
            have fz' : w'.cell? ⟨wr.heap.size, 0, none⟩ = some (.int .u64 z) := (HBz.out.below hw').cell 0
            clear fz f1'
            have hbase : w1.heap.size ≤ (w'.alloc (.cells #[.int .u64 z] 61)).heap.size := (bl_alloc HBM.out _).size
            obtain ⟨n, hn⟩ : ∃ n, n = (grpL L l k).length := ⟨_, rfl⟩
            rw [← hn] at HOM hlen
            have HN := Lib.hid hn
            clear hn
            go_wp2_with (at_builtin; refine push_G rfl (.tmp 37) (.tmp 39) rfl w1.heap.size u4 (grpL L l k) n HN.out rfl (HOM.out.alloc _) _ _ z rfl (Blk.new _ _ _) hlen hbase ?_; intro g cap w8 h81 h82 h83 h84; rw [← hg.out] at h81; have H81 := Lib.hid h81; have H82 := Lib.hid h82; have H83 := Lib.hid h83; clear h81 h82 h83)
            have hlen2 : Hid ((grpL L l (k + 1)).length = n + 1) := by show _ = _; rw [hg.out, List.length_append, HN.out]; rfl
            have HB8 := Lib.hid (bl_grown (bl_alloc HBM.out (.cells #[.int .u64 z] 61)) H82.out (fun x e => (HOM.out.lt x e).1))
            go_roundw
            case rel => exact ⟨k + 1, by omega, by go_num, by rw [hlen2.out]; exact H81.out, HB8.out⟩
            case measure => simp [intOf]; omega
    · have e : k = N := by omega
      subst e
      have hlt' := grpL_lt (L := L) HF.out k
      have henc := toU_enc hlt'
      have hk0 : Hid (grpsU L l = cmpU (srtU (toU (grpL L l k)).toArray)) := by show _ = _; unfold grpsU; rw [HL.out]
      have hnil : Hid (grpL L l k = [] → grpsU L l = []) := fun h => grpsU_nil (by rw [HL.out]; exact h)
      have hle : (grpL L l k).length < 4611686018427387904 := by
        have : (grpL L l k).length ≤ (l.take k).length := List.length_filter_le _ _
        rw [List.length_take] at this; omega
      have hsz0 := HB0.out.size
      obtain ⟨A, cap, rfl, hAc⟩ := owns_slice how
      by_cases h0 : (grpL L l k).length = 0
      · have hz : Hid (grpsU L l = []) := hnil.out (List.eq_nil_of_length_eq_zero h0)
        have HOW := Lib.hid how
        rw [h0] at HOW ⊢
        clear hAc how h0 henc hlt'
        go_wp2_with fail
        refine (sort_none _ _ _ _).mono ?_
        rintro e w' ⟨rfl, rfl⟩
        go_wp2_with fail
        refine (compact_none _ _ _).mono ?_
        rintro e w' ⟨rfl, rfl⟩
        go_wp2_with fail
        go_ret
        refine ⟨_, rfl, ?_, bl_trans HB0.out hbw⟩
        rw [hz.out]
        have h3 := owns_mono HOW.out hsz0
        exact ⟨rfl, h3.2.imp (fun h => h) (fun ⟨g, cp, cur, a1, a2, a3, a4, a5, a6, a7⟩ => ⟨g, cp, cur, a1, a2, a3, a4, a5, a6, by simp⟩)⟩
      · obtain ⟨g, hg1, hg2, rfl⟩ := hAc.resolve_left h0
        obtain ⟨d, hd⟩ : ∃ d, (toU (grpL L l k)).toArray = d := ⟨_, rfl⟩
        have hds : (grpL L l k).length = d.size := by rw [← hd]; simp [toU]
        have hdl : toU (grpL L l k) = d.toList := by rw [← hd]
        rw [← henc, hdl, hds] at how
        rw [hd] at hk0
        rw [hds] at hle ⊢
        have HS := Lib.hid (sortRow_any d how hg2 hle)
        have HKK := hk0
        clear henc hlt' hAc h0 how hd hds hdl hnil
        have hle2 : d.size ≤ 9223372036854775807 := by omega
        go_wp2_with fail
        refine (HS.out).mono ?_
        rintro e w2 ⟨rfl, ho2, hb2, hg3⟩
        have HO2 := Lib.hid ho2
        have HB2 := Lib.hid (hb2 w1 hbw hg1)
        clear ho2 hb2
        have hss := srtU_size d
        obtain ⟨ds, hds⟩ : ∃ ds, srtU d = ds := ⟨_, rfl⟩
        rw [hds] at HO2 HKK hss
        rw [← hss] at HO2 hle2 ⊢
        have HC := Lib.hid (compactRow_any ds HO2.out hle2)
        clear hds hss hle
        go_wp2_with fail
        refine (HC.out).mono ?_
        rintro e w3 ⟨rfl, ho3, hb3⟩
        have HO3 := Lib.hid ho3
        have HB3 := Lib.hid (hb3 w1 HB2.out hg1)
        clear ho3 hb3
        go_wp2_with fail
        go_ret
        refine ⟨_, rfl, ?_, bl_trans HB0.out HB3.out⟩
        rw [HKK.out]
        exact owns_mono HO3.out hsz0
end Go.Proofs.YtnabbmdhhddfbaaDoor
namespace Go.Proofs.YtnabbmdhhddfbaaDoor
open Go.RowKit Go.Shelf Go.Sort
/-- The groups as numbers. -/
def grpsN (L : Nat) (l : List Nat) : List Nat := (grpsU L l).map Fin.val
theorem grpsN_enc (L : Nat) (l : List Nat) : (grpsU L l).map encU = fl encV (grpsN L l) := by
  unfold grpsN fl
  induction grpsU L l with
  | nil => rfl
  | cons x l ih => simp only [List.map_cons, List.flatMap_cons, ih]; rfl
theorem grpsN_len (L : Nat) (l : List Nat) : (grpsN L l).length = (grpsU L l).length := by simp [grpsN]
theorem grpsU_le (L : Nat) (l : List Nat) : (grpsU L l).length ≤ l.length := by
  unfold grpsU
  refine Nat.le_trans (cmpU_le _) ?_
  rw [srtU_size]
  have : (grpL L l l.length).length ≤ (l.take l.length).length := List.length_filter_le _ _
  rw [List.take_length] at this
  simpa [toU] using this
set_option maxRecDepth 100000 in
set_option maxHeartbeats 2000000 in
theorem grp_any (L : Int) (a : Option Addr) (N c : Nat) (l : List Nat) (w : World) (hl : l.length = N) (hN : N ≤ 1152921504606846976) (hA : Rd w a (fl encV l)) (hF : FitV l) :
    Calls Tryd.prog 28 #[.agg #[.int .i64 L, .slice a N c]] w fun e w' => ∃ v', e = .returned (.tuple #[v', .int .i64 (chkT L l)]) ∧ (chkT L l ≠ 0 → v' = .slice none 0 0) ∧ (chkT L l = 0 → w'.ownsRow w.heap.size 44 1 v' (grpsN L.toNat l).length (fl encV (grpsN L.toNat l))) ∧ Below w.heap.size w w' := by
  have hb0 := bl_alloc (Below.refl _ w) (.cells #[.int .i64 L, .slice a N c] 24)
  have hB := Blk.new w #[.int .i64 L, .slice a N c] 24
  have HL := Lib.hid hl
  have HF := Lib.hid hF
  have HC := Lib.hid (tchk_any L a N c l (w.alloc (.cells #[.int .i64 L, .slice a N c] 24)) hl hN (hA.bl hb0) hF)
  have HA := Lib.hid (hA.bl hb0)
  clear hl hA hF
  go_enter Tryd.func28, Tryd.ntmps28
  go_wp2_with fail
  refine HC.out.mono ?_
  rintro e w2 ⟨rfl, hb2⟩
  have hb3 := bl_trans hb0 hb2
  have hB2 := hB.below hb2
  have HA2 := Lib.hid (HA.out.bl hb2)
  obtain ⟨E, hE⟩ : ∃ E, chkT L l = E := ⟨_, rfl⟩
  rw [hE]
  have HE := Lib.hid hE
  clear hE HC HA hB hb0 hb2
  by_cases h0 : E = 0
  · have d0 : (E == 0) = true := by simp [h0]
    subst h0
    obtain ⟨X, hX⟩ : ∃ X, X = w.heap.size := ⟨_, rfl⟩
    rw [← hX] at hB2 ⊢
    have HB3 := Lib.hid hb3
    have e0 : w2.cell? ⟨X, 0, none⟩ = some (.int .i64 L) := hB2.cell 0
    have e1 : w2.cell? ⟨X, 1, none⟩ = some (.slice a N c) := hB2.cell 1
    clear hX hB2 hb3
    have hk : 0 ≤ L ∧ L ≤ 32 ∧ l.length ≤ 64 := by
      have h := HE.out
      unfold chkT at h
      by_cases q : L < 0 ∨ 32 < L
      · rw [if_pos q] at h; omega
      · rw [if_neg q] at h
        by_cases q2 : 64 < l.length
        · rw [if_pos q2] at h; omega
        · exact ⟨by omega, by omega, by omega⟩
    obtain ⟨M, rfl⟩ : ∃ M : Nat, L = M := ⟨L.toNat, by omega⟩
    have HG := Lib.hid (groups_any M a N c l w2 HL.out (by have := HL.out; omega) (by omega) HA2.out HF.out)
    have hgl := grpsU_le M l
    have hgl2 : (grpsN M l).length ≤ 64 := by rw [grpsN_len]; omega
    have hn64 : N ≤ 64 := by have := HL.out; omega
    clear hk hgl
    rw [grpsN_enc, ← grpsN_len] at HG
    obtain ⟨zs, hzs⟩ : ∃ zs, grpsN M l = zs := ⟨_, rfl⟩
    rw [hzs] at HG hgl2
    have HZ := Lib.hid hzs
    clear hzs
    go_wp2_with fail
    refine HG.out.mono ?_
    rintro e w3 ⟨v, rfl, ho, hb⟩
    obtain ⟨G, cap, rfl, _⟩ := owns_slice ho
    have HR := Lib.hid (rd_of_owns ho)
    have HB4 := Lib.hid (bl_trans HB3.out hb)
    obtain ⟨K, hK⟩ : ∃ K, K = zs.length := ⟨_, rfl⟩
    rw [← hK] at hgl2 ⊢
    have HK := Lib.hid hK
    clear ho hb hK HG e0 e1 d0
    go_wp2_with fail
    go_loopw [16, 5] (fun x v wr => ∃ k : Nat, k ≤ K ∧ x = .int .i64 k ∧ wr.ownsRow w3.heap.size 44 1 v k (fl encV (zs.take k)) ∧ Below w3.heap.size w3 wr) (fun x _ _ => K - (intOf x).toNat)
    case atStart => exact ⟨0, by omega, rfl, World.ownsRow_nil _ _ _ _, Below.refl _ _⟩
    case round =>
      obtain ⟨k, hk, rfl, how, hbw⟩ := hrel
      by_cases hlt : k < K
      · obtain ⟨b, o, rfl, hb, hc⟩ := rdV (HR.out.bl hbw) (by rw [← HK.out]; omega)
        have hkl : k < zs.length := by rw [← HK.out]; exact hlt
        have G1 := hc k hkl
        have hsn : Hid (zs.take (k + 1) = zs.take k ++ [vA zs k]) := by show _ = _; rw [List.take_succ_eq_append_getElem hkl, vA_get hkl]
        have hn : Hid (k = (zs.take k).length) := by show _ = _; rw [List.length_take]; omega
        have HOW := Lib.hid how
        have HBW := Lib.hid hbw
        have hbase : w3.heap.size ≤ (wr.alloc (.cells #[.int .u64 (vA zs k)] 44)).heap.size := (bl_alloc hbw _).size
        clear hc hkl how hbw
        generalize vA zs k = z at *
        go_wp2_with (at_builtin; refine push_V rfl (.tmp 20) (.tmp 22) rfl w3.heap.size u5 (zs.take k) k hn.out rfl (HOW.out.alloc _) _ _ z rfl (Blk.new _ _ _) (by omega) hbase ?_; intro g cap2 w8 h81 h82 h83 h84; rw [← hsn.out] at h81; have H81 := Lib.hid h81; have H82 := Lib.hid h82; clear h81 h82 h83)
        have HB8 := Lib.hid (bl_grown (bl_alloc HBW.out (.cells #[.int .u64 z] 44)) H82.out (fun x e => (HOW.out.lt x e).1))
        go_roundw
        case rel => exact ⟨k + 1, by omega, by go_num, H81.out, HB8.out⟩
        case measure => simp [intOf]; omega
      · have e : k = K := by omega
        subst e
        have h9 : wr.ownsRow w.heap.size 44 1 u5 zs.length (fl encV zs) := by
          have h := owns_mono how HB4.out.size
          rw [List.take_of_length_le (by rw [← HK.out]; exact Nat.le_refl _), HK.out] at h
          exact h
        have H9 := Lib.hid h9
        have HB9 := Lib.hid (bl_trans HB4.out hbw)
        clear h9 how hbw
        go_wp2_with fail
        exact bodyPost_ret (v := .tuple #[u5, .int .i64 0]) (by simp [results, Tryd.results28, go_sem]) rfl ⟨_, by rw [HE.out], fun h => absurd HE.out h, fun _ => by rw [Int.toNat_natCast, HZ.out]; exact H9.out, HB9.out⟩
  · have d0 : (E == 0) = false := by simp [h0]
    have HB3 := Lib.hid hb3
    clear hB2 hb3
    go_wp2_with fail
    exact bodyPost_ret (v := .tuple #[.slice none 0 0, .int .i64 E]) (by simp [results, Tryd.results28, go_sem]) rfl ⟨_, by rw [HE.out], fun _ => rfl, fun h => absurd (HE.out.symm.trans h) h0, HB3.out⟩
end Go.Proofs.YtnabbmdhhddfbaaDoor
namespace Go.Proofs.YtnabbmdhhddfbaaDoor
open Go.RowKit Go.Shelf
set_option maxHeartbeats 1000000 in
theorem rall_any (L : Nat) (a : Option Addr) (n c : Nat) (w : World) (hL : L ≤ 32) :
    Calls Tryd.prog 38 #[.agg #[.int .i64 L, .slice a n c]] w fun e w' => e = .returned (.int .u64 ((2 ^ L - 1 : Nat) : Int)) ∧ Below w.heap.size w w' := by
  have hw := Lib.hid (wrap_all hL)
  go_enter Tryd.func38, Tryd.ntmps38
  go_wp2_with fail
  go_ret
  exact ⟨ret_i hw.out, bl_alloc (Below.refl _ _) _⟩
end Go.Proofs.YtnabbmdhhddfbaaDoor
namespace Go.Proofs.YtnabbmdhhddfbaaDoor
open Go.RowKit Go.Shelf Go.Sort
theorem sorted_ext {α : Type} {R : α → α → Prop} (irr : ∀ x, ¬ R x x) (asy : ∀ x y, R x y → R y x → False) {l m : List α} (hl : l.Pairwise R) (hm : m.Pairwise R) (h : ∀ x, x ∈ l ↔ x ∈ m) : l = m := by
  have nl : l.Nodup := hl.imp (fun {a b} h e => by subst e; exact irr _ h)
  have nm : m.Nodup := hm.imp (fun {a b} h e => by subst e; exact irr _ h)
  exact List.Perm.eq_of_pairwise (fun a b _ _ h1 h2 => (asy a b h1 h2).elim) hl hm ((List.perm_ext_iff_of_nodup nl nm).2 h)
def BefR (x y : Nat) : Prop := setBef x y = true
theorem bef_irr (x : Nat) : ¬ BefR x x := by unfold BefR; rw [setBef_iff]; omega
theorem bef_asy (x y : Nat) : BefR x y → BefR y x → False := by unfold BefR; rw [setBef_iff, setBef_iff]; omega
theorem bef_trans {x y z : Nat} : BefR x y → BefR y z → BefR x z := by unfold BefR; rw [setBef_iff, setBef_iff, setBef_iff]; omega
theorem bef_tot {x y : Nat} (h : ¬ BefR x y) (k : x ≠ y) : BefR y x := by unfold BefR at *; rw [setBef_iff] at *; omega

theorem cmp_mem (d : Array U64) : ∀ m, m ≤ d.size → ∀ x, x ∈ Go.Lib.compactUpTo d m ↔ ∃ j, j < m ∧ d[j]! = x := by
  intro m
  induction m with
  | zero => intro _ x; simp [Go.Lib.compactUpTo]
  | succ m ih =>
    intro hm x
    rw [Go.Lib.compactUpTo_succ, List.mem_append, ih (by omega)]
    constructor
    · rintro (⟨j, hj, rfl⟩ | h)
      · exact ⟨j, by omega, rfl⟩
      · by_cases q : Go.Lib.keeps d m = true
        · rw [if_pos q] at h; exact ⟨m, by omega, (List.mem_singleton.1 h).symm⟩
        · rw [if_neg q] at h; cases h
    · rintro ⟨j, hj, rfl⟩
      by_cases e : j = m
      · subst e
        by_cases q : Go.Lib.keeps d j = true
        · right; rw [if_pos q]; exact List.mem_singleton.2 rfl
        · left
          unfold Go.Lib.keeps at q
          simp only [decide_eq_true_iff] at q
          by_cases h0 : j = 0
          · exact absurd (Or.inl h0) q
          · exact ⟨j - 1, by omega, (Decidable.of_not_not fun h => q (.inr (fun h2 => h h2.symm)))⟩
      · left; exact ⟨j, by omega, rfl⟩
theorem cmp_pw (d : Array U64) (hs : ∀ i j, i < j → j < d.size → ltOf cfU d[j]! d[i]! = false) : ∀ m, m ≤ d.size → (Go.Lib.compactUpTo d m).Pairwise (fun x y => ltOf cfU x y = true) := by
  intro m
  induction m with
  | zero => intro _; simp [Go.Lib.compactUpTo]
  | succ m ih =>
    intro hm
    rw [Go.Lib.compactUpTo_succ]
    by_cases q : Go.Lib.keeps d m = true
    · rw [if_pos q, List.pairwise_append]
      refine ⟨ih (by omega), List.pairwise_singleton _ _, fun x hx y hy => ?_⟩
      rw [List.mem_singleton.1 hy]
      obtain ⟨j, hj, rfl⟩ := (cmp_mem d m (by omega) x).1 hx
      have h1 := hs j m hj (by omega)
      cases h2 : ltOf cfU d[j]! d[m]! with
      | true => rfl
      | false =>
        have e := tot_cfU _ _ h2 h1
        exfalso
        unfold Go.Lib.keeps at q
        simp only [decide_eq_true_iff] at q
        rcases q with q | q
        · omega
        · refine q (tot_cfU _ _ (hs (m - 1) m (by omega) (by omega)) ?_)
          by_cases e2 : j = m - 1
          · subst e2; rw [e]; exact swo_cfU.irrefl _
          · rw [← e]; exact hs j (m - 1) (by omega) (by omega)
    · rw [if_neg q, List.append_nil]; exact ih (by omega)
theorem srtU_pw (d : Array U64) : ∀ i j, i < j → j < (srtU d).size → ltOf cfU (srtU d)[j]! (srtU d)[i]! = false := by
  intro i j hij hj
  have h := List.pairwise_mergeSort (le := fun x y => !(ltOf cfU) y x)
    (fun a b c h1 h2 => by simp only [Bool.not_eq_true'] at *; exact swo_cfU.ntrans _ _ _ h2 h1)
    (fun a b => by
      cases h : ltOf cfU b a with
      | false => rfl
      | true =>
        cases h2 : ltOf cfU a b with
        | false => rfl
        | true => have := swo_cfU.trans _ _ _ h h2; rw [swo_cfU.irrefl] at this; cases this) d.toList
  have hj' : j < (d.toList.mergeSort fun x y => !(ltOf cfU) y x).length := by simpa [srtU] using hj
  have := List.pairwise_iff_getElem.1 h i j (by omega) hj' hij
  simp only [Bool.not_eq_true'] at this
  rw [getElem!_pos (srtU d) j hj, getElem!_pos (srtU d) i (by omega)]
  simpa [srtU] using this
theorem srtU_mem (d : Array U64) (x : U64) : (∃ j, j < (srtU d).size ∧ (srtU d)[j]! = x) ↔ x ∈ d.toList := by
  have h := (List.mergeSort_perm d.toList (fun x y => !(ltOf cfU) y x)).mem_iff (a := x)
  rw [← h]
  constructor
  · rintro ⟨j, hj, rfl⟩
    rw [getElem!_pos (srtU d) j hj]
    simp [srtU]
  · intro hx
    obtain ⟨j, hj, rfl⟩ := List.mem_iff_getElem.1 hx
    have hj' : j < (srtU d).size := by simpa [srtU] using hj
    refine ⟨j, hj', ?_⟩
    rw [getElem!_pos (srtU d) j hj']
    simp [srtU]
theorem grpsN_pw (L : Nat) (l : List Nat) : (grpsN L l).Pairwise BefR := by
  unfold grpsN grpsU cmpU
  rw [List.pairwise_map]
  refine (cmp_pw _ (srtU_pw _) _ (Nat.le_refl _)).imp ?_
  intro a b h
  rwa [ltU] at h
theorem grpsN_mem {L : Nat} {l : List Nat} (hF : FitV l) (x : Nat) : x ∈ grpsN L l ↔ x ∈ grpL L l l.length := by
  have hlt := grpL_lt (L := L) hF l.length
  unfold grpsN grpsU cmpU
  rw [List.mem_map]
  constructor
  · rintro ⟨y, hy, rfl⟩
    have := (cmp_mem _ _ (Nat.le_refl _) y).1 hy
    rw [srtU_mem] at this
    simp only [toU, List.mem_map] at this
    obtain ⟨z, hz, rfl⟩ := this
    have e : (Fin.ofNat 18446744073709551616 z).val = z := Nat.mod_eq_of_lt (hlt z hz)
    rw [e]; exact hz
  · intro hx
    refine ⟨Fin.ofNat _ x, (cmp_mem _ _ (Nat.le_refl _) _).2 ((srtU_mem _ _).2 ?_), Nat.mod_eq_of_lt (hlt x hx)⟩
    simp only [toU, List.mem_map]
    exact ⟨x, hx, rfl⟩

theorem cntB_half (x : Nat) : ∀ n, cntB x (n + 1) = (if x % 2 = 1 then 1 else 0) + cntB (x / 2) n := by
  intro n
  induction n with
  | zero =>
    show 0 + (if x.testBit 0 then 1 else 0) = _ + 0
    rw [Nat.testBit_zero]; simp
  | succ n ih =>
    show cntB x (n + 1) + (if x.testBit (n + 1) then 1 else 0) = _ + (cntB (x / 2) n + if (x / 2).testBit n then 1 else 0)
    rw [ih, Nat.testBit_succ]; omega
theorem cntB_zero : ∀ n x, x < 2 ^ n → (cntB x n = 0 ↔ x = 0) := by
  intro n
  induction n with
  | zero => intro x hx; simp at hx; simp [cntB, hx]
  | succ n ih =>
    intro x hx
    rw [Nat.pow_succ] at hx
    rw [cntB_half]
    have := ih (x / 2) (by omega)
    by_cases h : x % 2 = 1
    · rw [if_pos h]; omega
    · rw [if_neg h]; omega
theorem low_odd (y : Nat) : (2 * y + 1) &&& (2 * y + 1 - 1) = 2 * y := by
  have e1 : ((2 * y + 1) &&& (2 * y)) / 2 = y := by rw [Nat.and_div_two]; rw [show (2 * y + 1) / 2 = y by omega, show 2 * y / 2 = y by omega, Nat.and_self]
  have e2 : ((2 * y + 1) &&& (2 * y)) % 2 = 0 := by have h := Nat.and_mod_two_pow (a := 2 * y + 1) (b := 2 * y) (n := 1); rw [Nat.pow_one, show 2 * y % 2 = 0 by omega, Nat.and_zero] at h; exact h
  rw [show 2 * y + 1 - 1 = 2 * y by omega]; omega
theorem low_even (y : Nat) : (2 * y) &&& (2 * y - 1) = 2 * (y &&& (y - 1)) := by
  have e1 : ((2 * y) &&& (2 * y - 1)) / 2 = y &&& (y - 1) := by rw [Nat.and_div_two]; rw [show (2 * y) / 2 = y by omega, show (2 * y - 1) / 2 = y - 1 by omega]
  have e2 : ((2 * y) &&& (2 * y - 1)) % 2 = 0 := by have h := Nat.and_mod_two_pow (a := 2 * y) (b := 2 * y - 1) (n := 1); rw [Nat.pow_one, show 2 * y % 2 = 0 by omega, Nat.zero_and] at h; exact h
  omega
theorem low_cnt : ∀ n x, x < 2 ^ n → (x &&& (x - 1) = 0 ↔ cntB x n ≤ 1) := by
  intro n
  induction n with
  | zero => intro x hx; simp at hx; simp [cntB, hx]
  | succ n ih =>
    intro x hx
    rw [Nat.pow_succ] at hx
    rw [cntB_half]
    by_cases h : x % 2 = 1
    · rw [if_pos h]
      have e : x = 2 * (x / 2) + 1 := by omega
      have h0 := cntB_zero n (x / 2) (by omega)
      generalize cntB (x / 2) n = q at *
      generalize x / 2 = y at *
      subst e
      rw [low_odd]; omega
    · rw [if_neg h]
      have e : x = 2 * (x / 2) := by omega
      have h0 := ih (x / 2) (by omega)
      generalize cntB (x / 2) n = q at *
      generalize x / 2 = y at *
      subst e
      rw [low_even]; omega
theorem lowOff_cnt {x : Nat} (hx : x < 18446744073709551616) : lowOff x = 0 ↔ cntB x 64 ≤ 1 := by
  rw [← low_cnt 64 x hx]
  unfold lowOff
  by_cases h : x = 0
  · subst h; simp
  · rw [show (x + 18446744073709551615) % 18446744073709551616 = x - 1 by omega]
/-- Does the document keep set z, behind the groups out? -/
def okR (L : Nat) (l : List Nat) (z : Nat) (out : List Nat) : Bool := ((decide (2 ≤ cntB z 64) && !decide (z = 2 ^ L - 1)) && l.all (fitB z)) && out.all (fun y => !decide (y = z))
def befN (z : Nat) (out : List Nat) : Nat := (out.takeWhile (fun y => setBef y z)).length
def insG (z : Nat) (out : List Nat) : List Nat := out.take (befN z out) ++ [z] ++ out.drop (befN z out)
/-- The document's groups after k rows. -/
def refG (L : Nat) (l : List Nat) : Nat → List Nat
  | 0 => []
  | k + 1 => if okR L l (vA l k) (refG L l k) then insG (vA l k) (refG L l k) else refG L l k
theorem refG_le (L : Nat) (l : List Nat) : ∀ k, (refG L l k).length ≤ k := by
  intro k
  induction k with
  | zero => simp [refG]
  | succ k ih =>
    unfold refG
    split
    · simp [insG]; omega
    · omega
theorem ins_pw {z : Nat} {out : List Nat} (h : out.Pairwise BefR) (hn : z ∉ out) : (insG z out).Pairwise BefR := by
  unfold insG befN
  have e1 : out.take (out.takeWhile (fun y => setBef y z)).length = out.takeWhile (fun y => setBef y z) := by
    exact (List.prefix_iff_eq_take.1 (List.takeWhile_prefix (fun y => setBef y z) (l := out))).symm
  have e2 : out.drop (out.takeWhile (fun y => setBef y z)).length = out.dropWhile (fun y => setBef y z) := by
    exact (congrArg (List.drop (out.takeWhile (fun y => setBef y z)).length) (List.takeWhile_append_dropWhile (p := fun y => setBef y z) (l := out)).symm).trans List.drop_left
  rw [e1, e2]
  have h2 := h
  rw [← List.takeWhile_append_dropWhile (p := fun y => setBef y z) (l := out), List.pairwise_append] at h2
  obtain ⟨p1, p2, p3⟩ := h2
  have a1 : ∀ y, y ∈ out.takeWhile (fun y => setBef y z) → BefR y z := fun y hy => by
    have := List.all_takeWhile (l := out) (p := fun y => setBef y z)
    exact List.all_eq_true.1 this y hy
  have a2 : ∀ y, y ∈ out.dropWhile (fun y => setBef y z) → BefR z y := by
    intro y hy
    have hsub : ∀ y, y ∈ out.dropWhile (fun y => setBef y z) → y ∈ out := fun y hy => (List.dropWhile_sublist _).subset hy
    cases hd : out.dropWhile (fun y => setBef y z) with
    | nil => rw [hd] at hy; cases hy
    | cons u us =>
      have hu : ¬ BefR u z := by
        have := List.head_dropWhile_not (fun y => setBef y z) (l := out) (by rw [hd]; simp)
        simp only [hd, List.head_cons] at this
        unfold BefR
        simpa using this
      have hzu : BefR z u := bef_tot hu (fun e => hn (by rw [← e]; exact hsub u (by rw [hd]; simp)))
      rw [hd] at hy p2
      rcases List.mem_cons.1 hy with rfl | hy
      · exact hzu
      · exact bef_trans hzu (List.rel_of_pairwise_cons p2 hy)
  rw [List.pairwise_append, List.pairwise_append]
  refine ⟨⟨p1, List.pairwise_singleton _ _, fun y hy x hx => ?_⟩, p2, fun y hy x hx => ?_⟩
  · rw [List.mem_singleton.1 hx]; exact a1 y hy
  · rcases List.mem_append.1 hy with hy | hy
    · exact p3 y hy x hx
    · rw [List.mem_singleton.1 hy]; exact a2 x hx
theorem ins_mem (z : Nat) (out : List Nat) (x : Nat) : x ∈ insG z out ↔ x ∈ out ∨ x = z := by
  unfold insG
  rw [List.mem_append, List.mem_append, List.mem_singleton]
  constructor
  · rintro ((h | h) | h)
    · exact .inl (List.mem_of_mem_take h)
    · exact .inr h
    · exact .inl (List.mem_of_mem_drop h)
  · rintro (h | h)
    · rw [← List.take_append_drop (befN z out) out, List.mem_append] at h
      rcases h with h | h
      · exact .inl (.inl h)
      · exact .inr h
    · exact .inl (.inr h)
theorem okR_iff {L : Nat} {l : List Nat} {z : Nat} {out : List Nat} (hz : z < 18446744073709551616) : okR L l z out = (grpB L l z && !decide (z ∈ out)) := by
  have h := lowOff_cnt hz
  unfold okR grpB
  have e1 : decide (2 ≤ cntB z 64) = !decide (lowOff z = 0) := by
    rw [Bool.eq_iff_iff]; simp only [decide_eq_true_iff, Bool.not_eq_true', decide_eq_false_iff_not]; rw [h]; omega
  have e2 : l.all (fitB z) = !(l.any fun o => !fitB z o) := by
    rw [Bool.eq_iff_iff]; simp
  have e3 : (out.all fun y => !decide (y = z)) = !decide (z ∈ out) := by
    rw [Bool.eq_iff_iff]; simp only [List.all_eq_true, Bool.not_eq_true', decide_eq_false_iff_not]
    exact ⟨fun h1 h2 => h1 z h2 rfl, fun h1 y hy e => h1 (e ▸ hy)⟩
  rw [e1, e2, e3]
theorem refG_ok {L : Nat} {l : List Nat} (hF : FitV l) : ∀ k, k ≤ l.length → (refG L l k).Pairwise BefR ∧ ∀ x, x ∈ refG L l k ↔ x ∈ grpL L l k := by
  intro k
  induction k with
  | zero => intro _; exact ⟨List.Pairwise.nil, fun x => by simp [refG, grpL]⟩
  | succ k ih =>
    intro hk
    obtain ⟨h1, h2⟩ := ih (by omega)
    have hsn := grpL_snoc L l k (by omega)
    have e := okR_iff (L := L) (l := l) (out := refG L l k) (hF k (by omega))
    unfold refG
    rw [hsn, e]
    by_cases q : grpB L l (vA l k) = true
    · rw [q, if_pos rfl]
      by_cases q2 : vA l k ∈ refG L l k
      · rw [decide_eq_true q2]
        refine ⟨h1, fun x => ?_⟩
        show x ∈ refG L l k ↔ _
        rw [h2, List.mem_append, List.mem_singleton]
        exact ⟨.inl, fun h => h.elim id (fun e => by rw [e]; exact (h2 _).1 q2)⟩
      · rw [decide_eq_false q2]
        refine ⟨ins_pw h1 q2, fun x => ?_⟩
        show x ∈ insG (vA l k) (refG L l k) ↔ _
        rw [ins_mem, h2, List.mem_append, List.mem_singleton]
    · rw [if_neg q, List.append_nil, Bool.eq_false_iff.2 q]
      exact ⟨h1, h2⟩
theorem refG_eq {L : Nat} {l : List Nat} (hF : FitV l) : refG L l l.length = grpsN L l := by
  obtain ⟨h1, h2⟩ := refG_ok (L := L) hF l.length (Nat.le_refl _)
  exact sorted_ext bef_irr bef_asy h1 (grpsN_pw L l) (fun x => by rw [h2, grpsN_mem hF])
end Go.Proofs.YtnabbmdhhddfbaaDoor
namespace Go.Proofs.YtnabbmdhhddfbaaDoor
open Go
section
variable {P : Program} {ops : Array Oper} {md : Region.Mode} {C : World → Prop}

/-- Whatever order is picked for the first f operations; then L. -/
def anyLQ (P : Program) (md : Region.Mode) (ops : Array Oper) (C : World → Prop) (n : Nat) (L : Array Bool → Act → Prop) : Nat → Array Bool → Act → Prop
  | 0, listed, a => L listed a
  | f + 1, listed, a => Region.ready md ops listed ≠ [] ∧ ∀ i ∈ Region.ready md ops listed, i < n ∧ qOp P ops C i (anyLQ P md ops C n L f (listed.setIfInBounds i true)) a

theorem any_of_LQ {n g : Nat} {L : Array Bool → Act → Prop} {Q' : Exit → Act → World → Prop} (hL : ∀ listed a w, C w → L listed a → wpAny P md ops Q' g listed a w) :
    ∀ (f : Nat) (listed : Array Bool) (a : Act) (w : World), C w → anyLQ P md ops C n L f listed a → wpAny P md ops Q' (f + g) listed a w
  | 0, listed, a, w, hC, h => by rw [Nat.zero_add]; exact hL _ _ _ hC h
  | f + 1, listed, a, w, hC, h => by
    rw [show f + 1 + g = (f + g) + 1 by omega]
    exact ⟨fun h0 => absurd h0 h.1, fun i hi => wpOp_of_qOp hC (fun a' w' hw' h' => any_of_LQ hL f _ a' w' hw' h') (h.2 i hi).2⟩

theorem anyLQ_first {n i : Nat} {oi : Oper} {v : Value} {L : Array Bool → Act → Prop} (hi : ops[i]? = some oi) (hsel : ∀ (j : Nat) (o : Oper) cs b, ops[j]? = some o → o.op ≠ .select cs b)
    (hs : Region.sinkB md ops n = true) (hc : Region.chainB md ops n = true) (hn : n < ops.size) (hin : i < n)
    (hdone : ∀ listed a, L listed a → ∀ j ∈ Region.ready md ops listed, n ≤ j) :
    ∀ (f : Nat) (listed : Array Bool) (a : Act), HeadInv md ops n listed →
      (∀ j oj, ops[j]? = some oj → j ≠ i → listed.getD j true = false → (∀ e ∈ oj.after, Region.binds md e = true → e.on ≠ i) → oi.apart ops oj = true) →
      i ∈ Region.ready md ops listed → YieldsIn P ops C oi v a →
      anyLQ P md ops C n L f (listed.setIfInBounds i true) (a.put oi.dst v) → anyLQ P md ops C n L (f + 1) listed a := by
  intro f
  induction f with
  | zero =>
    intro listed a inv _ hr hy H
    have hun := (mem_ready.1 hr).1
    refine ⟨fun h => (by rw [h] at hr; cases hr), fun j hj => ?_⟩
    have hjn : j < n := by
      rcases Nat.lt_or_ge j n with h | h
      · exact h
      · exact absurd hj (tail_waits hs hc hn inv _ i rfl hin hun j h)
    refine ⟨hjn, ?_⟩
    by_cases hji : j = i
    · subst hji; exact hy.qOp hi H
    · have := hdone _ _ H j (ready_mono hj hji)
      omega
  | succ f ih =>
    intro listed a inv hfree hr hy H
    have hun := (mem_ready.1 hr).1
    refine ⟨fun h => (by rw [h] at hr; cases hr), fun j hj => ?_⟩
    have hjn : j < n := by
      rcases Nat.lt_or_ge j n with h | h
      · exact h
      · exact absurd hj (tail_waits hs hc hn inv _ i rfl hin hun j h)
    refine ⟨hjn, ?_⟩
    by_cases hji : j = i
    · subst hji; exact hy.qOp hi H
    · have h1 := (H.2 j (ready_mono hj hji)).2
      obtain ⟨hjun, oj, hoj, hall⟩ := mem_ready.1 hj
      have hnot : ∀ e ∈ oj.after, Region.binds md e = true → e.on ≠ i := fun e he hb heq => by
        have h1 := hall e he hb
        rw [heq, getD_both hun] at h1
        cases h1
      have h2 := qOp_put hoj (hfree j oj hoj hji hjun hnot) (fun cs b => hsel i oi cs b hi) (fun cs b => hsel j oj cs b hoj) hy h1
      have hfree' : ∀ k ok, ops[k]? = some ok → k ≠ i → (listed.setIfInBounds j true).getD k true = false →
          (∀ e ∈ ok.after, Region.binds md e = true → e.on ≠ i) → oi.apart ops ok = true := fun k ok hk hki hun hno => by
        refine hfree k ok hk hki ?_ hno
        by_cases hjk : j = k
        · subst hjk; exact hjun
        · rw [getD_set_ne true hjk] at hun; exact hun
      refine qOp_mono (fun a' h3 => ih (listed.setIfInBounds j true) a' (inv.set hj hjn) hfree' (ready_mono hr (Ne.symm hji)) h3.1 ?_) h2
      rw [Array.setIfInBounds_comm _ _ hji]
      exact h3.2

theorem anyLQ_lex {n g : Nat} {Lq : Act → Prop} (hsel : Region.noSelect ops = true) (hs : Region.sinkB md ops n = true) (hc : Region.chainB md ops n = true) (hn : n < ops.size) :
    ∀ (l : List Oper) (k : Nat) (listed : Array Bool) (a : Act), (∀ j, j < l.length → l[j]? = ops[k + j]?) → k + l.length = n → HeadInv md ops n listed →
    Region.lexHead md ops g l.length k listed = true → wpQuiet P ops C Lq l a →
    anyLQ P md ops C n (fun listed' a' => Region.seqB md ops g n listed' = true ∧ Lq a') l.length listed a
  | [], k, listed, a, _, hk, _, hB, h => by
    have : k = n := by simpa using hk
    subst this
    exact ⟨by simpa [Region.lexHead] using hB, h⟩
  | o :: l, k, listed, a, hl, hk, inv, hB, h => by
    have h0 : ops[k]? = some o := by simpa using (hl 0 (by simp)).symm
    simp only [List.length_cons, Region.lexHead, Bool.and_eq_true] at hB
    obtain ⟨⟨hr, hf⟩, hB'⟩ := hB
    have hkn : k < n := by simp only [List.length_cons] at hk; omega
    have hr' : k ∈ Region.ready md ops listed := by simpa using hr
    have hst : qOp P ops C k (wpQuiet P ops C Lq l) a := by unfold qOp; simp only [h0]; exact h
    obtain ⟨v, hy, hK⟩ := yieldsIn_of_qOp h0 hst
    exact anyLQ_first h0 (Region.noSelect_spec hsel) hs hc hn hkn (fun listed' a' hL => seqB_ready hL.1) l.length listed a inv (Region.free_spec h0 hf) hr' hy
      (anyLQ_lex hsel hs hc hn l (k + 1) _ _ (fun j hj => by have := hl (j + 1) (by simp; omega); simpa [Nat.add_assoc, Nat.add_comm 1 j] using this) (by simp only [List.length_cons] at hk; omega) (inv.set hr' hkn) hB' hK)

/-- ONE WALK OF THE TEXT's ORDER: the head quiet in the class C, then the forced tail from any world of the class. -/
theorem wp_quiet_tail {id : Nat} {Q : Exit → Act → World → Prop} {a : Act} {w : World} {l : List Oper} (n : Nat) (hm : P.follows .mixedOrders = true) (hB : Region.lexTailB .any l.toArray n = true) (hC : C { w with drawn := w.drawn + 1 })
    (h : wpQuiet P l.toArray C (fun a' => ∀ w', C w' → wpList P l.toArray Q (l.drop n) a' w') (l.take n) a) : (Code.region id l.toArray true).wp P Q a w := by
  simp only [Region.lexTailB, Bool.and_eq_true, decide_eq_true_eq] at hB
  obtain ⟨⟨⟨⟨hsel, hn⟩, hs⟩, hc⟩, hlex⟩ := hB
  have hn' : n < l.length := by simpa using hn
  have htl : (l.take n).length = n := by simp; omega
  have hdl : (l.drop n).length = l.toArray.size - n := by simp
  have inv0 : HeadInv .any l.toArray n (Array.replicate l.toArray.size false) :=
    ⟨by simp, fun j oj _ hl => (by rw [getD_replicate_false] at hl; cases hl), fun t _ ht => getD_in (by simpa using ht) (getD_replicate_false _ _)⟩
  have H := anyLQ_lex (md := .any) (C := C) (g := l.toArray.size - n) hsel hs hc hn (l.take n) 0 _ a (fun j hj => by
    have hj' : j < n := by rw [htl] at hj; exact hj
    simp [hj']) (by simpa using htl) inv0 (by rw [htl]; exact hlex) h
  refine wp_region_any hm ?_
  have := any_of_LQ (Q' := Q) (C := C) (g := l.toArray.size - n) (fun listed a' w' hw' hL => by
    have := wpAny_of_seq (md := .any) (Q' := Q) (l.drop n) n listed a' w' (fun j => by simp [List.getElem?_drop]) (by rw [hdl]; exact hL.1) (hL.2 w' hw')
    rwa [hdl] at this) _ _ _ _ hC H
  rw [htl, show n + (l.toArray.size - n) = l.toArray.size by omega] at this
  exact this

/-- .. at the class 'w after some draws'. -/
theorem wp_quiet_tail_lit {id : Nat} {Q : Exit → Act → World → Prop} {a : Act} {w : World} {l : List Oper} (n : Nat) (hm : P.follows .mixedOrders = true) (hB : Region.lexTailB .any l.toArray n = true)
    (h : wpQuiet P l.toArray (fun w' => ∃ m, w' = w.drewN m) (fun a' => ∀ w', (∃ m, w' = w.drewN m) → wpList P l.toArray Q (l.drop n) a' w') (l.take n) a) : (Code.region id l.toArray true).wp P Q a w :=
  wp_quiet_tail (C := fun w' => ∃ m, w' = w.drewN m) n hm hB ⟨1, rfl⟩ h
end

open Go.RowKit
/-- A world that keeps all that lay in W. -/
structure Wb (W : World) where
  w : World
  h : Below W.heap.size W w
instance (W : World) : Inhabited (Wb W) := ⟨⟨W, Below.refl _ _⟩⟩
section
variable {P : Program}
/-- The class of these worlds: a call that lays blocks of its own stays in it. -/
theorem wp_quiet_wb {id : Nat} {Q : Exit → Act → World → Prop} {a : Act} {w : World} {l : List Oper} (hm : P.follows .mixedOrders = true) (hB : Region.lexB .any l.toArray = true)
    (h : wpQuiet P l.toArray (fun w' => ∃ i : Wb w, w' = i.w) (fun a' => ∀ w', (∃ i : Wb w, w' = i.w) → Q .normal a' w') l a) : (Code.region id l.toArray true).wp P Q a w :=
  wp_region_quiet (C := fun w' => ∃ i : Wb w, w' = i.w) hm hB ⟨⟨{ w with drawn := w.drawn + 1 }, (Below.refl w.heap.size w).drew⟩, rfl⟩ (by simpa using h)
theorem wp_quiet_wb_tail {id : Nat} {Q : Exit → Act → World → Prop} {a : Act} {w : World} {l : List Oper} (n : Nat) (hm : P.follows .mixedOrders = true) (hB : Region.lexTailB .any l.toArray n = true)
    (h : wpQuiet P l.toArray (fun w' => ∃ i : Wb w, w' = i.w) (fun a' => ∀ w', (∃ i : Wb w, w' = i.w) → wpList P l.toArray Q (l.drop n) a' w') (l.take n) a) : (Code.region id l.toArray true).wp P Q a w :=
  wp_quiet_tail (C := fun w' => ∃ i : Wb w, w' = i.w) n hm hB ⟨⟨{ w with drawn := w.drawn + 1 }, (Below.refl w.heap.size w).drew⟩, rfl⟩ h
theorem quiet_of_wb {f : FuncId} {args : Array Value} {W : World} {i : Wb W} {v : Value} (h : Calls P f args i.w fun e w' => e = .returned v ∧ Below i.w.heap.size i.w w') :
    Calls P f args i.w fun e w'' => e = .returned v ∧ ∃ j : Wb W, w'' = j.w :=
  h.mono fun _ w' ⟨he, hb⟩ => ⟨he, ⟨w', i.h.trans (hb.mono i.h.size)⟩, rfl⟩
theorem quiet_of_wb_drew {f : FuncId} {args : Array Value} {W : World} {i : Wb W} {v : Value} (h : Calls P f args i.w fun e w' => e = .returned v ∧ ∃ n, w' = i.w.drewN n) :
    Calls P f args i.w fun e w'' => e = .returned v ∧ ∃ j : Wb W, w'' = j.w :=
  h.mono fun _ w' ⟨he, n, hb⟩ => ⟨he, ⟨w', hb ▸ ⟨i.h.os, i.h.tape, i.h.output, i.h.size, i.h.block⟩⟩, rfl⟩
theorem wb_cell {W : World} {b o : Nat} {v : Value} (h : W.cell? ⟨b, o, none⟩ = some v) (hb : b < W.heap.size) : ∀ i : Wb W, i.w.cell? ⟨b, o, none⟩ = some v := fun i => (i.h.cell (p := ⟨b, o, none⟩) hb).trans h
end
/-- Two cells below are kept by a call. -/
theorem hold2 {W W' : World} {b o o' : Nat} {u1 u2 : Value} (hb : Below W.heap.size W W') (h : b < W.heap.size) (h1 : W.cell? ⟨b, o, none⟩ = some u1) (h2 : W.cell? ⟨b, o', none⟩ = some u2) :
    W'.cell? ⟨b, o, none⟩ = some u1 ∧ W'.cell? ⟨b, o', none⟩ = some u2 ∧ W.heap.size ≤ W'.heap.size :=
  ⟨(hb.cell (p := ⟨b, o, none⟩) h).trans h1, (hb.cell (p := ⟨b, o', none⟩) h).trans h2, hb.size⟩
end Go.Proofs.YtnabbmdhhddfbaaDoor
namespace Go.Proofs.YtnabbmdhhddfbaaDoor
open Go
section
variable {P : Program} {ops : Array Oper} {md : Region.Mode} {S : World → Prop} {Q : Exit → Act → World → Prop}
/-- Which operations may come up, one after another. -/
inductive OT where
  | leaf : OT
  | one : Nat → OT → OT
  | two : Nat → OT → Nat → OT → OT
def OT.dep : OT → Nat → Bool
  | .leaf, f => f == 0
  | .one _ t, f => f != 0 && t.dep (f - 1)
  | .two _ t _ u, f => f != 0 && t.dep (f - 1) && u.dep (f - 1)
def midG (P : Program) (ops : Array Oper) (Q : Exit → Act → World → Prop) (S : World → Prop) (K : Act → World → Prop) : OT → Act → World → Prop
  | .leaf, a, w => K a w
  | .one k t, a, w => wpOp P ops Q k (fun a' w' => S w' ∧ midG P ops Q S K t a' w') a w
  | .two k t j u, a, w => wpOp P ops Q k (fun a' w' => S w' ∧ midG P ops Q S K t a' w') a w ∧ wpOp P ops Q j (fun a' w' => S w' ∧ midG P ops Q S K u a' w') a w
def seqG (md : Region.Mode) (ops : Array Oper) (n : Nat) : OT → Array Bool → Bool
  | .leaf, listed => Region.seqB md ops (ops.size - n) n listed
  | .one k t, listed => decide (Region.ready md ops listed = [k]) && decide (k < n) && seqG md ops n t (listed.setIfInBounds k true)
  | .two k t j u, listed => decide (Region.ready md ops listed = [k, j]) && decide (k < n) && decide (j < n) && seqG md ops n t (listed.setIfInBounds k true) && seqG md ops n u (listed.setIfInBounds j true)
def headG (md : Region.Mode) (ops : Array Oper) (n : Nat) (t : OT) : List Nat → Array Bool → Bool
  | [], listed => seqG md ops n t listed
  | k :: is, listed => (Region.ready md ops listed).contains k && Region.free md ops listed k && decide (k < n) && headG md ops n t is (listed.setIfInBounds k true)
def orderG (md : Region.Mode) (ops : Array Oper) (n : Nat) (is : List Nat) (t : OT) : Bool :=
  Region.noSelect ops && decide (is.length ≤ n) && t.dep (n - is.length) && decide (n < ops.size) && Region.sinkB md ops n && Region.chainB md ops n && headG md ops n t is (Array.replicate ops.size false)
theorem anyG_seq {n : Nat} {K : Act → World → Prop} : ∀ (t : OT) (f : Nat) (listed : Array Bool) (a : Act) (w : World), t.dep f = true → seqG md ops n t listed = true → midG P ops Q S K t a w → anyT P md ops Q S n K f listed a w
  | .leaf, f, listed, a, w, hd, hB, h => by
    obtain rfl : f = 0 := by simpa [OT.dep] using hd
    exact ⟨hB, h⟩
  | .one k t, f, listed, a, w, hd, hB, h => by
    simp only [OT.dep, Bool.and_eq_true, bne_iff_ne] at hd
    obtain ⟨g, rfl⟩ : ∃ g, f = g + 1 := ⟨f - 1, by omega⟩
    rw [seqG] at hB
    simp only [Bool.and_eq_true, decide_eq_true_eq] at hB
    obtain ⟨⟨h1, h2⟩, h3⟩ := hB
    refine ⟨fun h0 => (by rw [h1] at h0; cases h0), fun i hi => ?_⟩
    rw [h1] at hi
    obtain rfl : i = k := by simpa using hi
    exact ⟨h2, wpOp_mono (fun a' w' h' => ⟨h'.1, anyG_seq t g _ a' w' (by simpa using hd.2) h3 h'.2⟩) h⟩
  | .two k t j u, f, listed, a, w, hd, hB, h => by
    simp only [OT.dep, Bool.and_eq_true, bne_iff_ne] at hd
    obtain ⟨g, rfl⟩ : ∃ g, f = g + 1 := ⟨f - 1, by omega⟩
    rw [seqG] at hB
    simp only [Bool.and_eq_true, decide_eq_true_eq] at hB
    obtain ⟨⟨⟨⟨h1, h2⟩, h2'⟩, h3⟩, h4⟩ := hB
    refine ⟨fun h0 => (by rw [h1] at h0; cases h0), fun i hi => ?_⟩
    rw [h1] at hi
    have hi' : i = k ∨ i = j := by simpa using hi
    rcases hi' with rfl | rfl
    · exact ⟨h2, wpOp_mono (fun a' w' h' => ⟨h'.1, anyG_seq t g _ a' w' (by simpa using hd.1.2) h3 h'.2⟩) h.1⟩
    · exact ⟨h2', wpOp_mono (fun a' w' h' => ⟨h'.1, anyG_seq u g _ a' w' (by simpa using hd.2) h4 h'.2⟩) h.2⟩
theorem anyG_head {n : Nat} {K : Act → World → Prop} (hsel : Region.noSelect ops = true) (hs : Region.sinkB md ops n = true) (hc : Region.chainB md ops n = true) (hn : n < ops.size)
    (hQ : ∀ c a d v w, Q (.panic c) (Act.put a d v) w → Q (.panic c) a w) {t : OT} {f : Nat} (hd : t.dep f = true) :
    ∀ (is : List Nat) (listed : Array Bool) (a : Act) (w : World), HeadInv md ops n listed → headG md ops n t is listed = true → S w →
      headT P ops S (fun a' => midG P ops Q S K t a' w) is a → anyT P md ops Q S n K (is.length + f) listed a w
  | [], listed, a, w, _, hB, _, h => by
    rw [List.length_nil, Nat.zero_add]
    exact anyG_seq t f listed a w hd hB h
  | i :: is, listed, a, w, inv, hB, hS, h => by
    rw [headG] at hB
    simp only [Bool.and_eq_true, decide_eq_true_eq] at hB
    obtain ⟨⟨⟨h1, h2⟩, h3⟩, h4⟩ := hB
    obtain ⟨o, v, ho, hy, hk⟩ := h
    have hr : i ∈ Region.ready md ops listed := by simpa using h1
    have := anyT_first ho (Region.noSelect_spec hsel) hs hc hn h3 (fun c a w => hQ c a _ _ w) (is.length + f) listed a w inv (Region.free_spec ho h2) hr hy hS (anyG_head hsel hs hc hn hQ hd is _ _ w (inv.set hr h3) h4 hS hk)
    rw [List.length_cons, show is.length + 1 + f = is.length + f + 1 by omega]
    exact this
/-- Reads first, then a tree of operations that keep S, then the forced end. -/
theorem wp_region_tree {id : Nat} {a : Act} {w : World} {l : List Oper} (n : Nat) (is : List Nat) (t : OT) (hm : P.follows .mixedOrders = true) (hB : orderG .any l.toArray n is t = true)
    (hS : S w.drew)
    (h : headT P l.toArray S (fun a' => midG P l.toArray (NoPanic Q) S (wpList P l.toArray (NoPanic Q) (l.drop n)) t a' w.drew) is a) : (Code.region id l.toArray true).wp P Q a w := by
  simp only [orderG, Bool.and_eq_true, decide_eq_true_eq] at hB
  obtain ⟨⟨⟨⟨⟨⟨hsel, hlen⟩, hd⟩, hn⟩, hs⟩, hc⟩, hB⟩ := hB
  have inv0 : HeadInv .any l.toArray n (Array.replicate l.toArray.size false) :=
    ⟨by simp, fun j oj _ hl => (by rw [getD_replicate_false] at hl; cases hl), fun t _ ht => getD_in (by simpa using ht) (getD_replicate_false _ _)⟩
  refine wp_region_noPanic (wp_region_any hm ?_)
  have hdl : (l.drop n).length = l.toArray.size - n := by simp
  have := any_of_T (Q := NoPanic Q) (g := l.toArray.size - n) (fun listed a' w' h1 h2 => by
    have := wpAny_of_seq (md := .any) (Q' := NoPanic Q) (l.drop n) n listed a' w' (fun j => by simp [List.getElem?_drop]) (by rw [hdl]; exact h1) h2
    rwa [hdl] at this) _ _ _ _ (anyG_head (Q := NoPanic Q) hsel hs hc hn (fun _ _ _ _ _ h => h) hd is _ a w.drew inv0 hB hS h)
  rw [show is.length + (n - is.length) = n by omega, show n + (l.toArray.size - n) = l.toArray.size by omega] at this
  exact this
theorem midG_leaf {K : Act → World → Prop} {a : Act} {w : World} (h : K a w) : midG P ops Q S K .leaf a w := h
theorem midG_one {l : List Oper} {K : Act → World → Prop} {a : Act} {w : World} {k : Nat} {t : OT} {o : Oper} {r : List Oper} (ho : l.drop k = o :: r)
    (h : ∀ K' : Act → World → Prop, Shut (∀ a w, S w → (S w → midG P l.toArray Q S K t a w) → K' a w) → if Region.wanted o (yielded l.toArray a.tmps) = true then Oper.wp P o a w K' Q else K' (a.put o.dst undef) w) : midG P l.toArray Q S K (.one k t) a w :=
  wpOp_step (get_of_drop ho) (fun K' hK => h K' (fun a w hS hW => hK a w ⟨hS, hW hS⟩))
theorem midG_two {l : List Oper} {K : Act → World → Prop} {a : Act} {w : World} {k j : Nat} {t u : OT}
    (h1 : midG P l.toArray Q S K (.one k t) a w) (h2 : midG P l.toArray Q S K (.one j u) a w) : midG P l.toArray Q S K (.two k t j u) a w := ⟨h1, h2⟩
end
open Go.RowKit in
theorem rd_block {w w' : World} {a : Option Addr} {cs : List Value} (h : Rd w a cs) (hs : w.heap.size ≤ w'.heap.size) (hb : ∀ b off, a = some ⟨b, off, none⟩ → b < w.heap.size → w'.heap[b]? = w.heap[b]?) : Rd w' a cs := by
  intro h0
  obtain ⟨b, off, e, hlt, hc⟩ := h h0
  refine ⟨b, off, e, Nat.lt_of_lt_of_le hlt hs, fun i hi => ?_⟩
  rw [← hc i hi]
  simp only [World.cell?]
  rw [hb b off e hlt]
theorem own_ne {g X n c : Nat} (d : g ≠ X) : (Value.slice (some ⟨g, 0, none⟩) n c).ownBlock ≠ some X := fun e => d (Option.some.inj (show some g = some X from e))
end Go.Proofs.YtnabbmdhhddfbaaDoor
namespace Go.Proofs.YtnabbmdhhddfbaaDoor
open Go.RowKit Go.Shelf
theorem fitB_symm (x y : Nat) : fitB x y = fitB y x := by
  unfold fitB
  rw [Nat.and_comm y x, Bool.or_assoc, Bool.or_assoc, Bool.or_comm (decide (x &&& y = x))]
/-- The longer list; the first of two that are as long. -/
def updL (b x : List Nat) : List Nat := if b.length < x.length then x else b
/-- Number i has no conflict with those of l. -/
def okL (has : List Nat) (l : List Nat) (i : Nat) : Bool := l.all fun k => fitB (vA has k) (vA has i)
/-- The lists that go on from l with the last r numbers. -/
def goB (has : List Nat) : Nat → List Nat → List Nat → List Nat
  | 0, _, best => best
  | r + 1, l, best => goB has r l (if okL has l (has.length - (r + 1)) then goB has r (l ++ [has.length - (r + 1)]) (updL best (l ++ [has.length - (r + 1)])) else best)
/-- The same in the document's order. -/
def dsc (has : List Nat) : Nat → List Nat → List (List Nat)
  | 0, l => [l]
  | r + 1, l => (if okL has l (has.length - (r + 1)) then dsc has r (l ++ [has.length - (r + 1)]) else []) ++ dsc has r l
theorem dsc_len (has : List Nat) : ∀ r l x, x ∈ dsc has r l → l.length ≤ x.length := by
  intro r
  induction r with
  | zero => intro l x hx; rw [dsc, List.mem_singleton] at hx; subst hx; exact Nat.le_refl _
  | succ r ih =>
    intro l x hx
    rw [dsc, List.mem_append] at hx
    rcases hx with hx | hx
    · split at hx
      · have := ih _ _ hx
        rw [List.length_append, List.length_singleton] at this; omega
      · cases hx
    · exact ih _ _ hx
theorem dsc_self (has : List Nat) : ∀ r l, l ∈ dsc has r l := by
  intro r
  induction r with
  | zero => intro l; simp [dsc]
  | succ r ih => intro l; rw [dsc, List.mem_append]; exact .inr (ih l)
theorem upd_ge (b x : List Nat) : b.length ≤ (updL b x).length ∧ x.length ≤ (updL b x).length := by
  unfold updL; split <;> omega
theorem fold_ge (xs : List (List Nat)) : ∀ b, b.length ≤ (xs.foldl updL b).length ∧ ∀ x, x ∈ xs → x.length ≤ (xs.foldl updL b).length := by
  induction xs with
  | nil => intro b; exact ⟨Nat.le_refl _, fun x hx => by cases hx⟩
  | cons y xs ih =>
    intro b
    obtain ⟨h1, h2⟩ := ih (updL b y)
    have h3 := upd_ge b y
    refine ⟨by rw [List.foldl_cons]; omega, fun x hx => ?_⟩
    rw [List.foldl_cons]
    rcases List.mem_cons.1 hx with rfl | hx
    · omega
    · exact h2 x hx
theorem fold_mem (xs : List (List Nat)) : ∀ b, xs.foldl updL b = b ∨ xs.foldl updL b ∈ xs := by
  induction xs with
  | nil => intro b; exact .inl rfl
  | cons y xs ih =>
    intro b
    rw [List.foldl_cons]
    rcases ih (updL b y) with h | h
    · rw [h]
      unfold updL
      split
      · right; simp
      · left; rfl
    · right; exact List.mem_cons_of_mem _ h
theorem fold_same (xs : List (List Nat)) (b c : List Nat) (hne : xs ≠ []) (h : ∀ x, x ∈ xs → b.length < x.length ∧ c.length < x.length) : xs.foldl updL b = xs.foldl updL c := by
  cases xs with
  | nil => exact absurd rfl hne
  | cons y ys =>
    have hy := h y (by simp)
    rw [List.foldl_cons, List.foldl_cons, updL, updL, if_pos hy.1, if_pos hy.2]
theorem goB_dsc (has : List Nat) : ∀ r l best, goB has r l (updL best l) = (dsc has r l).foldl updL best := by
  intro r
  induction r with
  | zero => intro l best; rfl
  | succ r ih =>
    intro l best
    rw [goB, dsc]
    by_cases q : okL has l (has.length - (r + 1)) = true
    · rw [if_pos q, if_pos q, List.foldl_append, ih]
      generalize has.length - (r + 1) = i
      have e1 : (dsc has r (l ++ [i])).foldl updL (updL best l) = (dsc has r (l ++ [i])).foldl updL best := by
        unfold updL
        split
        · refine fold_same _ _ _ (fun e => by have := dsc_self has r (l ++ [i]); rw [e] at this; cases this) fun x hx => ?_
          have := dsc_len has r _ x hx
          rw [List.length_append, List.length_singleton] at this; omega
        · rfl
      have e2 : updL ((dsc has r (l ++ [i])).foldl updL best) l = (dsc has r (l ++ [i])).foldl updL best := by
        have := (fold_ge (dsc has r (l ++ [i])) best).2 _ (dsc_self has r (l ++ [i]))
        rw [List.length_append, List.length_singleton] at this
        rw [updL, if_neg (by omega)]
      have h3 := ih l ((dsc has r (l ++ [i])).foldl updL best)
      rw [e2] at h3
      rw [e1, h3]
    · rw [if_neg q, if_neg q, List.nil_append, ih]
/-- What Largest answers. -/
def bigL (has : List Nat) : List Nat := goB has has.length [] []
theorem bigL_dsc (has : List Nat) : bigL has = (dsc has has.length []).foldl updL [] := by
  rw [← goB_dsc]; rfl
/-- The numbers of the innovations that x takes, of the first k; the highest bit is innovation 0. -/
def bitsL (n x k : Nat) : List Nat := (List.range k).filter fun i => x.testBit (n - 1 - i)
/-- No two of them have a conflict. -/
def cmpL (has : List Nat) (l : List Nat) : Bool := (List.range l.length).all fun i => (List.range i).all fun k => fitB (vA has (vA l i)) (vA has (vA l k))
/-- The document's best after it looked at the numbers from x on down. -/
def docB (has : List Nat) (x : Nat) (best : List Nat) : List Nat := if cmpL has (bitsL has.length x has.length) then updL best (bitsL has.length x has.length) else best
theorem cmpL_snoc (has l : List Nat) (i : Nat) : cmpL has (l ++ [i]) = (cmpL has l && okL has l i) := by
  have e1 : ∀ j, j < l.length → vA (l ++ [i]) j = vA l j := fun j hj => by simp [vA, List.getElem?_append_left hj]
  have e2 : vA (l ++ [i]) l.length = i := by simp [vA]
  unfold cmpL
  rw [List.length_append, List.length_singleton, List.range_succ, List.all_append]
  congr 1
  · apply Bool.eq_iff_iff.2
    simp only [List.all_eq_true, List.mem_range]
    constructor
    · intro h j hj k hk
      have := h j hj k hk
      rwa [e1 j hj, e1 k (by omega)] at this
    · intro h j hj k hk
      rw [e1 j hj, e1 k (by omega)]; exact h j hj k hk
  · unfold okL
    apply Bool.eq_iff_iff.2
    simp only [List.all_cons, List.all_nil, Bool.and_true, List.all_eq_true, List.mem_range, e2]
    constructor
    · intro h x hx
      obtain ⟨k, hk, rfl⟩ := List.mem_iff_getElem.1 hx
      have := h k hk
      rw [e1 k hk, fitB_symm, vA_get hk] at this
      exact this
    · intro h k hk
      rw [e1 k hk, fitB_symm, vA_get hk]
      exact h _ (List.getElem_mem hk)
/-- The document's numbers from hi 2^r on, r bits, downwards. -/
def docR (has : List Nat) : Nat → Nat → List Nat → List Nat
  | 0, hi, best => docB has hi best
  | r + 1, hi, best => docR has r (2 * hi) (docR has r (2 * hi + 1) best)
theorem bitsL_shift (n hi r k : Nat) (hk : k + r ≤ n) (lo : Nat) (hlo : lo < 2 ^ r) : bitsL n (hi * 2 ^ r + lo) k = bitsL n (hi * 2 ^ r) k := by
  unfold bitsL
  apply List.filter_congr
  intro i hi'
  have := List.mem_range.1 hi'
  rw [Nat.mul_comm, Nat.testBit_two_pow_mul_add _ hlo, if_neg (by omega), Nat.testBit_two_pow_mul]
  simp [show r ≤ n - 1 - i by omega]
theorem bitsL_step (n hi r : Nat) (hr : r + 1 ≤ n) : bitsL n ((2 * hi + 1) * 2 ^ r) (n - r) = bitsL n (hi * 2 ^ (r + 1)) (n - (r + 1)) ++ [n - (r + 1)] ∧ bitsL n (2 * hi * 2 ^ r) (n - r) = bitsL n (hi * 2 ^ (r + 1)) (n - (r + 1)) := by
  have e1 : hi * 2 ^ (r + 1) = 2 * hi * 2 ^ r := by rw [Nat.pow_succ]; rw [Nat.mul_comm 2 hi, Nat.mul_assoc, Nat.mul_comm 2]
  have hx : ∀ y, bitsL n y (n - r) = bitsL n y (n - (r + 1)) ++ (if y.testBit r then [n - (r + 1)] else []) := by
    intro y
    unfold bitsL
    rw [show n - r = n - (r + 1) + 1 by omega, List.range_succ, List.filter_append]
    congr 1
    rw [List.filter_cons, show n - 1 - (n - (r + 1)) = r by omega]
    rfl
  constructor
  · rw [hx, show (2 * hi + 1) * 2 ^ r = hi * 2 ^ (r + 1) + 2 ^ r by rw [e1, Nat.add_mul, Nat.one_mul], bitsL_shift n hi (r + 1) (n - (r + 1)) (by omega) (2 ^ r) (by rw [Nat.pow_succ]; have := Nat.two_pow_pos r; omega)]
    rw [if_pos]
    rw [show hi * 2 ^ (r + 1) + 2 ^ r = 2 ^ (r + 1) * hi + 2 ^ r by rw [Nat.mul_comm], Nat.testBit_two_pow_mul_add _ (by rw [Nat.pow_succ]; have := Nat.two_pow_pos r; omega), if_pos (by omega), Nat.testBit_two_pow_self]
  · rw [hx, ← e1, if_neg, List.append_nil]
    rw [Nat.mul_comm, Nat.testBit_two_pow_mul]
    simp
    omega
theorem docR_dsc (has : List Nat) : ∀ r hi best, r ≤ has.length → docR has r hi best = if cmpL has (bitsL has.length (hi * 2 ^ r) (has.length - r)) then (dsc has r (bitsL has.length (hi * 2 ^ r) (has.length - r))).foldl updL best else best := by
  intro r
  induction r with
  | zero =>
    intro hi best _
    rw [docR, docB, dsc, Nat.pow_zero, Nat.mul_one]; rfl
  | succ r ih =>
    intro hi best hr
    obtain ⟨s1, s2⟩ := bitsL_step has.length hi r hr
    rw [docR, ih _ _ (by omega), ih _ _ (by omega), s1, s2, cmpL_snoc, dsc]
    generalize bitsL has.length (hi * 2 ^ (r + 1)) (has.length - (r + 1)) = l
    generalize has.length - (r + 1) = i
    by_cases q : cmpL has l = true
    · rw [q, if_pos rfl, if_pos rfl]
      by_cases q2 : okL has l i = true
      · rw [q2, if_pos (by rfl), if_pos rfl, List.foldl_append]
      · rw [Bool.eq_false_iff.2 q2]; rfl
    · rw [Bool.eq_false_iff.2 q]; rfl
/-- From x on down to 1. -/
def docD (has : List Nat) : Nat → List Nat → List Nat
  | 0, best => best
  | x + 1, best => docD has x (docB has (x + 1) best)
/-- k numbers from a + k on down to a + 1 (all that are greater than a). -/
def docS (has : List Nat) (a : Nat) : Nat → List Nat → List Nat
  | 0, best => best
  | k + 1, best => docS has a k (docB has (a + k) best)
theorem docS_add (has : List Nat) (a m : Nat) : ∀ k best, docS has a (m + k) best = docS has a m (docS has (a + m) k best) := by
  intro k
  induction k with
  | zero => intro best; rfl
  | succ k ih =>
    intro best
    show docS has a (m + k) (docB has (a + (m + k)) best) = docS has a m (docS has (a + m) k (docB has (a + m + k) best))
    rw [ih, Nat.add_assoc]
theorem docR_docS (has : List Nat) : ∀ r hi best, docR has r hi best = docS has (hi * 2 ^ r) (2 ^ r) best := by
  intro r
  induction r with
  | zero => intro hi best; rw [docR, Nat.pow_zero, Nat.mul_one]; rfl
  | succ r ih =>
    intro hi best
    rw [docR, ih, ih, Nat.pow_succ, show 2 ^ r * 2 = 2 ^ r + 2 ^ r by omega, docS_add]
    congr 1
    · rw [Nat.mul_add, Nat.mul_comm 2 hi, Nat.mul_assoc, Nat.two_mul, Nat.mul_add]
    · congr 1
      rw [Nat.add_mul, Nat.one_mul, Nat.mul_add, Nat.mul_comm 2 hi, Nat.mul_assoc, Nat.two_mul, Nat.mul_add]
theorem docD_S (has : List Nat) : ∀ x best, docS has 0 (x + 1) best = docB has 0 (docD has x best) := by
  intro x
  induction x with
  | zero => intro best; rfl
  | succ x ih =>
    intro best
    show docS has 0 (x + 1) (docB has (0 + (x + 1)) best) = docB has 0 (docD has x (docB has (x + 1) best))
    rw [ih, Nat.zero_add]
theorem docB_zero (has best : List Nat) : docB has 0 best = best := by
  have e : bitsL has.length 0 has.length = [] := by unfold bitsL; simp
  unfold docB
  rw [e]
  show (if cmpL has [] then updL best [] else best) = best
  split
  · rw [updL, if_neg (by simp)]
  · rfl
/-- The document's list is the program's. -/
theorem docD_big (has : List Nat) : docD has (2 ^ has.length - 1) [] = bigL has := by
  have h1 := docD_S has (2 ^ has.length - 1) []
  rw [docB_zero, Nat.sub_add_cancel (Nat.two_pow_pos _)] at h1
  rw [← h1, bigL_dsc]
  have h2 := docR_docS has has.length 0 []
  rw [Nat.zero_mul] at h2
  rw [← h2, docR_dsc has has.length 0 [] (Nat.le_refl _), Nat.sub_self]
  rfl
end Go.Proofs.YtnabbmdhhddfbaaDoor
