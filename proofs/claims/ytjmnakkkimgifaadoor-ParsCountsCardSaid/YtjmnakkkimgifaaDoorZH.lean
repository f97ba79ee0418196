/- Plain: how many bits of a number are set, by sums of its digits. How many languages a set has, in Go's library and in the document; the order of sets. How many languages a set has, in Go's library and in the document; the order of sets. ParsCounts: the walk of the statement. -/
import Derived.WalkKit
import Derived.Test.YtjmnakkkimgifaaDoorZA
import Derived.Lib.Zigzag
import Derived.Test.YtjmnakkkimgifaaDoorZG
namespace Go.Proofs.YtjmnakkkimgifaaDoor
/-- The sum of the first n digits to the base 2 ^ k. -/
def popD (k : Nat) : Nat → Nat → Nat
  | 0, _ => 0
  | n + 1, x => x % 2 ^ k + popD k n (x / 2 ^ k)
/-- The first n digits to the base 2 ^ k are at most d, the others 0. -/
def DigOk (k d : Nat) : Nat → Nat → Prop
  | 0, x => x = 0
  | n + 1, x => x % 2 ^ k ≤ d ∧ DigOk k d n (x / 2 ^ k)
/-- The lower half of each of n pairs of digits. -/
def mk2 (k : Nat) : Nat → Nat
  | 0 => 0
  | n + 1 => 2 ^ (2 * k) * mk2 k n + (2 ^ k - 1)
theorem and_rec (k x m : Nat) : x &&& (2 ^ (2 * k) * m + (2 ^ k - 1)) = 2 ^ (2 * k) * ((x / 2 ^ (2 * k)) &&& m) + x % 2 ^ k := by
  have hk : 2 ^ k ≤ 2 ^ (2 * k) := Nat.pow_le_pow_right (by omega) (by omega)
  have hp : 0 < 2 ^ k := Nat.two_pow_pos k
  have h1 : 2 ^ k - 1 < 2 ^ (2 * k) := by omega
  have h2 : x % 2 ^ k < 2 ^ (2 * k) := Nat.lt_of_lt_of_le (Nat.mod_lt _ hp) hk
  apply Nat.eq_of_testBit_eq
  intro i
  rw [Nat.testBit_and, Nat.testBit_two_pow_mul_add _ h1, Nat.testBit_two_pow_mul_add _ h2]
  by_cases hi : i < 2 * k
  · rw [if_pos hi, if_pos hi, Nat.testBit_two_pow_sub_one, Nat.testBit_mod_two_pow, Bool.and_comm]
  · rw [if_neg hi, if_neg hi, Nat.testBit_and, Nat.testBit_div_two_pow]
    rw [show i - 2 * k + 2 * k = i by omega]
theorem DigOk.lt {k d : Nat} : ∀ {n x : Nat}, DigOk k d n x → x < 2 ^ (k * n)
  | 0, x, h => by rw [show x = 0 from h]; exact Nat.two_pow_pos _
  | n + 1, x, h => by
    have ih := DigOk.lt h.2
    rw [Nat.mul_succ, Nat.add_comm, Nat.pow_add, Nat.mul_comm]
    exact (Nat.div_lt_iff_lt_mul (Nat.two_pow_pos k)).1 ih
theorem digOk_of {k : Nat} : ∀ {n x : Nat}, x < 2 ^ (k * n) → DigOk k (2 ^ k - 1) n x
  | 0, x, h => by rw [Nat.mul_zero] at h; show x = 0; omega
  | n + 1, x, h => by
    have hp : 0 < 2 ^ k := Nat.two_pow_pos k
    refine ⟨by have := Nat.mod_lt x hp; omega, digOk_of ?_⟩
    rw [Nat.mul_succ, Nat.add_comm, Nat.pow_add, Nat.mul_comm] at h
    exact (Nat.div_lt_iff_lt_mul hp).2 h
/-- One stage: two digits are added up. -/
theorem pop_stage {k d : Nat} (hd : d < 2 ^ k) (hdd : 2 * d < 2 ^ (2 * k)) : ∀ {n x : Nat}, DigOk k d (2 * n) x → DigOk (2 * k) (2 * d) n ((x / 2 ^ k &&& mk2 k n) + (x &&& mk2 k n)) ∧ popD (2 * k) n ((x / 2 ^ k &&& mk2 k n) + (x &&& mk2 k n)) = popD k (2 * n) x
  | 0, x, h => by
    have : x = 0 := h
    subst this
    exact ⟨by show _ = 0; simp, rfl⟩
  | n + 1, x, h => by
    have hp : 0 < 2 ^ k := Nat.two_pow_pos k
    have hB : 0 < 2 ^ (2 * k) := Nat.two_pow_pos (2 * k)
    obtain ⟨h1, h2, h3⟩ : x % 2 ^ k ≤ d ∧ x / 2 ^ k % 2 ^ k ≤ d ∧ DigOk k d (2 * n) (x / 2 ^ k / 2 ^ k) := h
    have e0 : x / 2 ^ k / 2 ^ k = x / 2 ^ (2 * k) := by rw [Nat.div_div_eq_div_mul, ← Nat.pow_add, show k + k = 2 * k by omega]
    have e1 : x / 2 ^ k / 2 ^ (2 * k) = x / 2 ^ (2 * k) / 2 ^ k := by rw [Nat.div_div_eq_div_mul, Nat.div_div_eq_div_mul, Nat.mul_comm]
    rw [e0] at h3
    obtain ⟨i1, i2⟩ := pop_stage hd hdd h3
    have es : (x / 2 ^ k &&& mk2 k (n + 1)) + (x &&& mk2 k (n + 1)) = 2 ^ (2 * k) * ((x / 2 ^ (2 * k) / 2 ^ k &&& mk2 k n) + (x / 2 ^ (2 * k) &&& mk2 k n)) + (x / 2 ^ k % 2 ^ k + x % 2 ^ k) := by
      show (x / 2 ^ k &&& (2 ^ (2 * k) * mk2 k n + (2 ^ k - 1))) + (x &&& (2 ^ (2 * k) * mk2 k n + (2 ^ k - 1))) = _
      rw [and_rec, and_rec, e1, Nat.mul_add]
      omega
    rw [es]
    have em : (2 ^ (2 * k) * ((x / 2 ^ (2 * k) / 2 ^ k &&& mk2 k n) + (x / 2 ^ (2 * k) &&& mk2 k n)) + (x / 2 ^ k % 2 ^ k + x % 2 ^ k)) % 2 ^ (2 * k) = x / 2 ^ k % 2 ^ k + x % 2 ^ k := by
      rw [Nat.mul_add_mod]; exact Nat.mod_eq_of_lt (by omega)
    have ed : (2 ^ (2 * k) * ((x / 2 ^ (2 * k) / 2 ^ k &&& mk2 k n) + (x / 2 ^ (2 * k) &&& mk2 k n)) + (x / 2 ^ k % 2 ^ k + x % 2 ^ k)) / 2 ^ (2 * k) = (x / 2 ^ (2 * k) / 2 ^ k &&& mk2 k n) + (x / 2 ^ (2 * k) &&& mk2 k n) := by
      have hlt : x / 2 ^ k % 2 ^ k + x % 2 ^ k < 2 ^ (2 * k) := by omega
      rw [Nat.mul_add_div hB, Nat.div_eq_of_lt hlt, Nat.add_zero]
    refine ⟨⟨by rw [em]; omega, by rw [ed]; exact i1⟩, ?_⟩
    show _ % 2 ^ (2 * k) + popD (2 * k) n (_ / 2 ^ (2 * k)) = x % 2 ^ k + (x / 2 ^ k % 2 ^ k + popD k (2 * n) (x / 2 ^ k / 2 ^ k))
    rw [em, ed, i2, e0]
    omega
/-- The third stage: nibbles of at most 4 are added before the mask. -/
theorem pop_third : ∀ {n x : Nat}, DigOk 4 4 (2 * n) x → DigOk 8 8 n (x / 16 + x &&& mk2 4 n) ∧ popD 8 n (x / 16 + x &&& mk2 4 n) = popD 4 (2 * n) x
  | 0, x, h => by
    have : x = 0 := h
    subst this
    exact ⟨by show _ = 0; simp, rfl⟩
  | n + 1, x, h => by
    obtain ⟨h1, h2, h3⟩ : x % 2 ^ 4 ≤ 4 ∧ x / 2 ^ 4 % 2 ^ 4 ≤ 4 ∧ DigOk 4 4 (2 * n) (x / 2 ^ 4 / 2 ^ 4) := h
    have e0 : x / 2 ^ 4 / 2 ^ 4 = x / 256 := by omega
    rw [e0] at h3
    have h4 : x / 256 % 16 ≤ 4 := by
      cases n with
      | zero => rw [show x / 256 = 0 from h3]; omega
      | succ n => exact h3.1
    obtain ⟨i1, i2⟩ := pop_third h3
    have es : x / 16 + x &&& mk2 4 (n + 1) = 256 * (x / 256 / 16 + x / 256 &&& mk2 4 n) + (x % 16 + x / 16 % 16) := by
      show x / 16 + x &&& (2 ^ (2 * 4) * mk2 4 n + (2 ^ 4 - 1)) = _
      rw [and_rec]
      obtain ⟨x', hx'⟩ : ∃ y, x / 256 = y := ⟨_, rfl⟩
      obtain ⟨x2, hx2⟩ : ∃ y, x' / 16 = y := ⟨_, rfl⟩
      obtain ⟨lo, hlo⟩ : ∃ y, x % 16 = y := ⟨_, rfl⟩
      obtain ⟨hi, hhi⟩ : ∃ y, x / 16 % 16 = y := ⟨_, rfl⟩
      obtain ⟨l2, hl2⟩ : ∃ y, x' % 16 = y := ⟨_, rfl⟩
      have q1 : lo ≤ 4 := by rw [← hlo]; exact h1
      have q2 : hi ≤ 4 := by rw [← hhi]; exact h2
      have q3 : l2 ≤ 4 := by rw [← hl2, ← hx']; exact h4
      have g2 : x' = l2 + 16 * x2 := by omega
      have g3 : x / 16 = hi + 16 * x' := by omega
      have g4 : x = lo + 16 * (hi + 16 * x') := by omega
      have g1 : x / 16 + x = lo + hi + 16 * (hi + l2) + 256 * (x' + x2) := by omega
      have e2 : (x / 16 + x) / 2 ^ (2 * 4) = x2 + x' := by
        rw [g1]
        clear g1 g2 g3 g4 hx' hx2 hlo hhi hl2 h1 h2 h3 h4 i1 i2
        show (lo + hi + 16 * (hi + l2) + 256 * (x' + x2)) / 256 = _
        omega
      have e3 : (x / 16 + x) % 2 ^ 4 = lo + hi := by
        rw [g1]
        clear g1 g2 g3 g4 hx' hx2 hlo hhi hl2 h1 h2 h3 h4 i1 i2
        show (lo + hi + 16 * (hi + l2) + 256 * (x' + x2)) % 16 = _
        omega
      rw [e2, e3, hlo, hhi, hx', hx2]
    rw [es]
    generalize (x / 256 / 16 + x / 256 &&& mk2 4 n) = y at *
    have hs : x % 16 + x / 16 % 16 ≤ 8 := by
      have q1 : x % 16 ≤ 4 := h1
      have q2 : x / 16 % 16 ≤ 4 := h2
      omega
    have em : (256 * y + (x % 16 + x / 16 % 16)) % 2 ^ 8 = x % 16 + x / 16 % 16 := by
      generalize x % 16 + x / 16 % 16 = u at *
      show (256 * y + u) % 256 = u
      rw [Nat.mul_add_mod]; exact Nat.mod_eq_of_lt (by omega)
    have ed : (256 * y + (x % 16 + x / 16 % 16)) / 2 ^ 8 = y := by
      generalize x % 16 + x / 16 % 16 = u at *
      show (256 * y + u) / 256 = y
      rw [Nat.mul_add_div (by omega), Nat.div_eq_of_lt (by omega), Nat.add_zero]
    refine ⟨⟨by rw [em]; omega, by rw [ed]; exact i1⟩, ?_⟩
    show _ % 2 ^ 8 + popD 8 n (_ / 2 ^ 8) = x % 2 ^ 4 + (x / 2 ^ 4 % 2 ^ 4 + popD 4 (2 * n) (x / 2 ^ 4 / 2 ^ 4))
    rw [em, ed, i2, e0]
    omega
theorem ls1 {c0 c1 c2 c3 c4 c5 c6 c7 y1 y2 y3 y4 y5 y6 : Nat} (h1 : y1 = c1 + 256 * y2) (h2 : y2 = c2 + 256 * y3) (h3 : y3 = c3 + 256 * y4) (h4 : y4 = c4 + 256 * y5) (h5 : y5 = c5 + 256 * y6) (h6 : y6 = c6 + 256 * c7) : y1 = c1 + 256 * c2 + 65536 * c3 + 16777216 * c4 + 4294967296 * c5 + 1099511627776 * c6 + 281474976710656 * c7 := by omega
theorem ls2 {x y c : Nat} (h : x = c + 256 * y) (b : c ≤ 8) : x / 256 = y := by omega
theorem ls3 {x c0 c1 c2 c3 c4 c5 c6 c7 : Nat} (h : x = c0 + 256 * (c1 + 256 * c2 + 65536 * c3 + 16777216 * c4 + 4294967296 * c5 + 1099511627776 * c6 + 281474976710656 * c7)) (b0 : c0 ≤ 8) (b1 : c1 ≤ 8) (b2 : c2 ≤ 8) (b3 : c3 ≤ 8) (b4 : c4 ≤ 8) (b5 : c5 ≤ 8) (b6 : c6 ≤ 8) (b7 : c7 ≤ 8) : x < 1152921504606846976 := by omega
theorem ls4 {x y1 c0 c1 c2 c3 c4 c5 c6 c7 : Nat} (h : x = c0 + 256 * y1) (k : y1 = c1 + 256 * c2 + 65536 * c3 + 16777216 * c4 + 4294967296 * c5 + 1099511627776 * c6 + 281474976710656 * c7) : x + y1 = ((c0 + c1) + 256 * (c1 + c2)) + 65536 * ((c2 + c3) + 256 * (c3 + c4) + 65536 * (c4 + c5) + 16777216 * (c5 + c6) + 4294967296 * (c6 + c7) + 1099511627776 * c7) := by omega
theorem ls5 {p u q : Nat} (h : p = u + 65536 * q) (hu : u < 65536) (hq : q < 17592186044416) : p / 65536 = q ∧ p < 1152921504606846976 := by omega
theorem ls6 {c0 c1 c2 : Nat} (b0 : c0 ≤ 8) (b1 : c1 ≤ 8) (b2 : c2 ≤ 8) : (c0 + c1) + 256 * (c1 + c2) < 65536 := by omega
theorem ls7 {c2 c3 c4 c5 c6 c7 : Nat} (b2 : c2 ≤ 8) (b3 : c3 ≤ 8) (b4 : c4 ≤ 8) (b5 : c5 ≤ 8) (b6 : c6 ≤ 8) (b7 : c7 ≤ 8) : (c2 + c3) + 256 * (c3 + c4) + 65536 * (c4 + c5) + 16777216 * (c5 + c6) + 4294967296 * (c6 + c7) + 1099511627776 * c7 < 17592186044416 := by omega
theorem ls8 {p q c0 c1 c2 c3 c4 c5 c6 c7 : Nat} (h : p = ((c0 + c1) + 256 * (c1 + c2)) + 65536 * q) (k : (c2 + c3) + 256 * (c3 + c4) + 65536 * (c4 + c5) + 16777216 * (c5 + c6) + 4294967296 * (c6 + c7) + 1099511627776 * c7 = q) : p + q = ((c0 + c1 + c2 + c3) + 256 * (c1 + c2 + c3 + c4) + 65536 * (c2 + c3 + c4 + c5) + 16777216 * (c3 + c4 + c5 + c6)) + 4294967296 * ((c4 + c5 + c6 + c7) + 256 * (c5 + c6 + c7) + 65536 * (c6 + c7) + 16777216 * c7) := by omega
theorem ls9 {c0 c1 c2 c3 c4 c5 c6 : Nat} (b0 : c0 ≤ 8) (b1 : c1 ≤ 8) (b2 : c2 ≤ 8) (b3 : c3 ≤ 8) (b4 : c4 ≤ 8) (b5 : c5 ≤ 8) (b6 : c6 ≤ 8) : (c0 + c1 + c2 + c3) + 256 * (c1 + c2 + c3 + c4) + 65536 * (c2 + c3 + c4 + c5) + 16777216 * (c3 + c4 + c5 + c6) < 4294967296 := by omega
theorem ls10 {c4 c5 c6 c7 : Nat} (b4 : c4 ≤ 8) (b5 : c5 ≤ 8) (b6 : c6 ≤ 8) (b7 : c7 ≤ 8) : (c4 + c5 + c6 + c7) + 256 * (c5 + c6 + c7) + 65536 * (c6 + c7) + 16777216 * c7 < 268435456 := by omega
theorem ls11 {r u v : Nat} (h : r = u + 4294967296 * v) (hu : u < 4294967296) (hv : v < 268435456) : r / 4294967296 = v ∧ r < 1152921504606846976 ∧ r + v < 1152921504606846976 + 268435456 := by omega
theorem ls12 {r v c0 c1 c2 c3 c4 c5 c6 c7 : Nat} (h : r = ((c0 + c1 + c2 + c3) + 256 * (c1 + c2 + c3 + c4) + 65536 * (c2 + c3 + c4 + c5) + 16777216 * (c3 + c4 + c5 + c6)) + 4294967296 * v) (k : (c4 + c5 + c6 + c7) + 256 * (c5 + c6 + c7) + 65536 * (c6 + c7) + 16777216 * c7 = v) : r + v = 128 * (2 * (c1 + c2 + c3 + c4) + 512 * (c2 + c3 + c4 + c5) + 131072 * (c3 + c4 + c5 + c6) + 33554432 * v + 2 * (c5 + c6 + c7) + 512 * (c6 + c7) + 131072 * c7) + (c0 + c1 + c2 + c3 + c4 + c5 + c6 + c7) := by omega
theorem ls13 {c0 c1 c2 c3 c4 c5 c6 c7 : Nat} (b0 : c0 ≤ 8) (b1 : c1 ≤ 8) (b2 : c2 ≤ 8) (b3 : c3 ≤ 8) (b4 : c4 ≤ 8) (b5 : c5 ≤ 8) (b6 : c6 ≤ 8) (b7 : c7 ≤ 8) : c0 + c1 + c2 + c3 + c4 + c5 + c6 + c7 < 128 := by omega
theorem last_sum {x c0 c1 c2 c3 c4 c5 c6 c7 y1 y2 y3 y4 y5 y6 : Nat} (h0 : x = c0 + 256 * y1) (h1 : y1 = c1 + 256 * y2) (h2 : y2 = c2 + 256 * y3) (h3 : y3 = c3 + 256 * y4) (h4 : y4 = c4 + 256 * y5) (h5 : y5 = c5 + 256 * y6) (h6 : y6 = c6 + 256 * c7)
    (b0 : c0 ≤ 8) (b1 : c1 ≤ 8) (b2 : c2 ≤ 8) (b3 : c3 ≤ 8) (b4 : c4 ≤ 8) (b5 : c5 ≤ 8) (b6 : c6 ≤ 8) (b7 : c7 ≤ 8) : x < 1152921504606846976 ∧ x + x / 256 < 1152921504606846976 ∧ (x + x / 256) + (x + x / 256) / 65536 < 1152921504606846976 ∧ ((x + x / 256) + (x + x / 256) / 65536) + ((x + x / 256) + (x + x / 256) / 65536) / 4294967296 < 1152921504606846976 + 268435456 ∧
    (((x + x / 256) + (x + x / 256) / 65536) + ((x + x / 256) + (x + x / 256) / 65536) / 4294967296) % 128 = c0 + c1 + c2 + c3 + c4 + c5 + c6 + c7 := by
  have f1 := ls1 (c0 := c0) h1 h2 h3 h4 h5 h6
  have hx : x < 1152921504606846976 := ls3 (h0.trans (by rw [f1])) b0 b1 b2 b3 b4 b5 b6 b7
  rw [ls2 h0 b0]
  have s1 := ls4 h0 f1
  obtain ⟨q, hq⟩ : ∃ q, (c2 + c3) + 256 * (c3 + c4) + 65536 * (c4 + c5) + 16777216 * (c5 + c6) + 4294967296 * (c6 + c7) + 1099511627776 * c7 = q := ⟨_, rfl⟩
  have hqb := ls7 b2 b3 b4 b5 b6 b7
  rw [hq] at s1 hqb
  generalize x + y1 = p at *
  have d1 := ls5 s1 (ls6 b0 b1 b2) hqb
  rw [d1.1]
  have s2 := ls8 s1 hq
  obtain ⟨v, hv⟩ : ∃ v, (c4 + c5 + c6 + c7) + 256 * (c5 + c6 + c7) + 65536 * (c6 + c7) + 16777216 * c7 = v := ⟨_, rfl⟩
  have hvb := ls10 b4 b5 b6 b7
  rw [hv] at s2 hvb
  generalize p + q = r at *
  have d2 := ls11 s2 (ls9 b0 b1 b2 b3 b4 b5 b6) hvb
  rw [d2.1]
  refine ⟨hx, d1.2, d2.2.1, d2.2.2, ?_⟩
  rw [ls12 s2 hv, Nat.mul_add_mod, Nat.mod_eq_of_lt (ls13 b0 b1 b2 b3 b4 b5 b6 b7)]
/-- The last stage: the bytes are added up. -/
theorem pop_last {x : Nat} (h : DigOk 8 8 8 x) : x < 1152921504606846976 ∧ x + x / 256 < 1152921504606846976 ∧ (x + x / 256) + (x + x / 256) / 65536 < 1152921504606846976 ∧ ((x + x / 256) + (x + x / 256) / 65536) + ((x + x / 256) + (x + x / 256) / 65536) / 4294967296 < 1152921504606846976 + 268435456 ∧
    (((x + x / 256) + (x + x / 256) / 65536) + ((x + x / 256) + (x + x / 256) / 65536) / 4294967296) % 128 = popD 8 8 x := by
  obtain ⟨a0, a1, a2, a3, a4, a5, a6, a7, a8⟩ := h
  have a9 : x / 2 ^ 8 / 2 ^ 8 / 2 ^ 8 / 2 ^ 8 / 2 ^ 8 / 2 ^ 8 / 2 ^ 8 / 2 ^ 8 = 0 := a8
  have st : ∀ z : Nat, z = z % 2 ^ 8 + 256 * (z / 2 ^ 8) := fun z => (Nat.mod_add_div z 256).symm
  have l := last_sum (st x) (st (x / 2 ^ 8)) (st (x / 2 ^ 8 / 2 ^ 8)) (st (x / 2 ^ 8 / 2 ^ 8 / 2 ^ 8)) (st (x / 2 ^ 8 / 2 ^ 8 / 2 ^ 8 / 2 ^ 8)) (st (x / 2 ^ 8 / 2 ^ 8 / 2 ^ 8 / 2 ^ 8 / 2 ^ 8)) (c7 := x / 2 ^ 8 / 2 ^ 8 / 2 ^ 8 / 2 ^ 8 / 2 ^ 8 / 2 ^ 8 / 2 ^ 8 % 2 ^ 8) (by
      have h7 := st (x / 2 ^ 8 / 2 ^ 8 / 2 ^ 8 / 2 ^ 8 / 2 ^ 8 / 2 ^ 8 / 2 ^ 8)
      rw [a9, Nat.mul_zero, Nat.add_zero] at h7
      rw [← h7]
      exact st _) a0 a1 a2 a3 a4 a5 a6 a7
  refine ⟨l.1, l.2.1, l.2.2.1, l.2.2.2.1, ?_⟩
  rw [l.2.2.2.2]
  simp only [popD, Nat.add_zero, Nat.add_assoc]
/-- The bits of x below n. -/
def cntB (x : Nat) : Nat → Nat
  | 0 => 0
  | n + 1 => cntB x n + if x.testBit n then 1 else 0
theorem cntB_le (x : Nat) : ∀ n, cntB x n ≤ n
  | 0 => Nat.le_refl _
  | n + 1 => by
    have := cntB_le x n
    unfold cntB
    split <;> omega
theorem popD_snoc : ∀ (n x : Nat), popD 1 (n + 1) x = popD 1 n x + x / 2 ^ n % 2
  | 0, x => by simp [popD]
  | n + 1, x => by
    have ih := popD_snoc n (x / 2 ^ 1)
    show x % 2 ^ 1 + popD 1 (n + 1) (x / 2 ^ 1) = (x % 2 ^ 1 + popD 1 n (x / 2 ^ 1)) + x / 2 ^ (n + 1) % 2
    rw [ih, Nat.div_div_eq_div_mul, ← Nat.pow_add, Nat.add_comm 1 n]
    omega
theorem cntB_pop (x : Nat) : ∀ n, cntB x n = popD 1 n x
  | 0 => rfl
  | n + 1 => by
    rw [popD_snoc, ← cntB_pop x n]
    show cntB x n + (if x.testBit n then 1 else 0) = _
    rw [Nat.testBit_eq_decide_div_mod_eq]
    by_cases h : x / 2 ^ n % 2 = 1
    · rw [h]; simp
    · rw [show x / 2 ^ n % 2 = 0 by omega]; simp
end Go.Proofs.YtjmnakkkimgifaaDoor
namespace Go.Proofs.YtjmnakkkimgifaaDoor
open Go.RowKit Go.Shelf
theorem mk2_1 : mk2 1 32 = 6148914691236517205 := by decide
theorem mk2_2 : mk2 2 16 = 3689348814741910323 := by decide
theorem mk2_4 : mk2 4 8 = 1085102592571150095 := by decide
theorem idiv (x k : Nat) : ((x : Int) / (k : Int)) = ((x / k : Nat) : Int) := by simp
structure Pops (x y1 y2 y3 : Nat) : Prop where
  s1 : y1 = (x / 2 &&& 6148914691236517205) + (x &&& 6148914691236517205)
  s2 : y2 = (y1 / 4 &&& 3689348814741910323) + (y1 &&& 3689348814741910323)
  s3 : y3 = (y2 / 16 + y2 &&& 1085102592571150095)
  b1 : y1 < 18446744073709551616
  b2 : y2 < 5764607523034234880
  last : y3 < 1152921504606846976 ∧ y3 + y3 / 256 < 1152921504606846976 ∧ (y3 + y3 / 256) + (y3 + y3 / 256) / 65536 < 1152921504606846976 ∧ ((y3 + y3 / 256) + (y3 + y3 / 256) / 65536) + ((y3 + y3 / 256) + (y3 + y3 / 256) / 65536) / 4294967296 < 1152921504606846976 + 268435456 ∧
    (((y3 + y3 / 256) + (y3 + y3 / 256) / 65536) + ((y3 + y3 / 256) + (y3 + y3 / 256) / 65536) / 4294967296) % 128 = cntB x 64
theorem pops_of {x : Nat} (hx : x < 18446744073709551616) : ∃ y1 y2 y3, Pops x y1 y2 y3 := by
  have h0 : DigOk 1 1 (2 * 32) x := digOk_of (k := 1) (n := 64) hx
  obtain ⟨d1, p1⟩ := pop_stage (k := 1) (d := 1) (by decide) (by decide) h0
  rw [mk2_1] at d1 p1
  obtain ⟨y1, hy1⟩ : ∃ y, (x / 2 ^ 1 &&& 6148914691236517205) + (x &&& 6148914691236517205) = y := ⟨_, rfl⟩
  rw [hy1] at d1 p1
  have h1 : DigOk 2 2 (2 * 16) y1 := d1
  obtain ⟨d2, p2⟩ := pop_stage (k := 2) (d := 2) (by decide) (by decide) h1
  rw [mk2_2] at d2 p2
  obtain ⟨y2, hy2⟩ : ∃ y, (y1 / 2 ^ 2 &&& 3689348814741910323) + (y1 &&& 3689348814741910323) = y := ⟨_, rfl⟩
  rw [hy2] at d2 p2
  have h2 : DigOk 4 4 (2 * 8) y2 := d2
  obtain ⟨d3, p3⟩ := pop_third h2
  rw [mk2_4] at d3 p3
  obtain ⟨y3, hy3⟩ : ∃ y, (y2 / 16 + y2 &&& 1085102592571150095) = y := ⟨_, rfl⟩
  rw [hy3] at d3 p3
  have l := pop_last d3
  have e1 : popD 2 32 y1 = popD 1 64 x := p1
  have e2 : popD 4 16 y2 = popD 2 32 y1 := p2
  have e3 : popD 8 8 y3 = popD 4 16 y2 := p3
  have b1 : y1 < 2 ^ (2 * 32) := h1.lt
  have b2 : y2 < 5764607523034234880 := by
    have h16 : DigOk 4 4 (15 + 1) y2 := d2
    have hdig : ∀ n x, DigOk 4 4 (n + 1) x → x < 5 * 16 ^ n := by
      intro n
      induction n with
      | zero => intro x h; have h1 := h.1; have h2 : x / 2 ^ 4 = 0 := h.2; simp at h1 h2 ⊢; omega
      | succ n ih =>
        intro x h
        have h1 : x % 16 ≤ 4 := h.1
        have h2 : x / 16 < 5 * 16 ^ n := ih _ h.2
        rw [Nat.pow_succ]
        omega
    have := hdig 15 y2 h16
    have e : 5 * 16 ^ 15 = 5764607523034234880 := by decide
    omega
  refine ⟨y1, y2, y3, hy1.symm, hy2.symm, hy3.symm, b1, b2, ?_⟩
  rw [cntB_pop, ← e1, ← e2, ← e3]
  exact l
end Go.Proofs.YtjmnakkkimgifaaDoor
namespace Go.Proofs.YtjmnakkkimgifaaDoor
open Go.RowKit Go.Shelf
theorem pop_m1 {x y1 : Nat} (hx : x < 18446744073709551616) (e : y1 = (x / 2 &&& 6148914691236517205) + (x &&& 6148914691236517205)) (hy : y1 < 18446744073709551616) :
    IntKind.u64.wrap (bits .and .u64 ((x : Int) / 2) 6148914691236517205 + bits .and .u64 (x : Int) 6148914691236517205) = (y1 : Int) := by
  have e1 : ((x : Int) / 2) = ((x / 2 : Nat) : Int) := by omega
  have b1 := bits_and (x := x / 2) (y := 6148914691236517205) (by omega) (by decide)
  have b2 := bits_and (x := x) (y := 6148914691236517205) hx (by decide)
  rw [e1]
  rw [show ((6148914691236517205 : Nat) : Int) = (6148914691236517205 : Int) from rfl] at b1 b2
  rw [b1, b2, show (((x / 2 &&& 6148914691236517205 : Nat) : Int) + ((x &&& 6148914691236517205 : Nat) : Int)) = (y1 : Int) by rw [e]; simp, w64 _ hy]
theorem pop_m2 {x y1 : Nat} (hx : x < 18446744073709551616) (e : y1 = (x / 4 &&& 3689348814741910323) + (x &&& 3689348814741910323)) (hy : y1 < 18446744073709551616) :
    IntKind.u64.wrap (bits .and .u64 ((x : Int) / 4) 3689348814741910323 + bits .and .u64 (x : Int) 3689348814741910323) = (y1 : Int) := by
  have e1 : ((x : Int) / 4) = ((x / 4 : Nat) : Int) := by omega
  have b1 := bits_and (x := x / 4) (y := 3689348814741910323) (by omega) (by decide)
  have b2 := bits_and (x := x) (y := 3689348814741910323) hx (by decide)
  rw [e1]
  rw [show ((3689348814741910323 : Nat) : Int) = (3689348814741910323 : Int) from rfl] at b1 b2
  rw [b1, b2, show (((x / 4 &&& 3689348814741910323 : Nat) : Int) + ((x &&& 3689348814741910323 : Nat) : Int)) = (y1 : Int) by rw [e]; simp, w64 _ hy]
theorem pop_m3 {x y3 : Nat} (hx : x < 5764607523034234880) (e : y3 = (x / 16 + x &&& 1085102592571150095)) :
    bits .and .u64 (IntKind.u64.wrap ((x : Int) / 16 + (x : Int))) 1085102592571150095 = (y3 : Int) := by
  have e1 : ((x : Int) / 16 + (x : Int)) = ((x / 16 + x : Nat) : Int) := by omega
  have b1 := bits_and (x := x / 16 + x) (y := 1085102592571150095) (by omega) (by decide)
  rw [show ((1085102592571150095 : Nat) : Int) = (1085102592571150095 : Int) from rfl] at b1
  rw [e1, w64 _ (by omega), b1, e]
theorem pop_m4 {y k : Nat} (hy : y + y / k < 18446744073709551616) : IntKind.u64.wrap ((y : Int) + (y : Int) / (k : Int)) = ((y + y / k : Nat) : Int) := by
  rw [show ((y : Int) + (y : Int) / (k : Int)) = ((y + y / k : Nat) : Int) by simp, w64 _ hy]
theorem pop_m4' {y : Nat} (k : Nat) (k' : Int) (e : k' = (k : Int)) (hy : y + y / k < 18446744073709551616) : IntKind.u64.wrap ((y : Int) + (y : Int) / k') = ((y + y / k : Nat) : Int) := by
  subst e; exact pop_m4 hy
theorem i64w {x : Nat} (h : x < 9223372036854775808) : IntKind.i64.wrap (x : Int) = (x : Int) := wrap_nat _ x rfl (by omega)
theorem and127 (y : Nat) : y &&& 127 = y % 128 := by
  have := Nat.and_two_pow_sub_one_eq_mod y 7
  simpa using this
theorem pop_m5 {y c : Nat} (hy : y < 9223372036854775808) (e : y % 128 = c) : bits .and .i64 (wrap64 (y : Int)) 127 = (c : Int) := by
  have h1 : wrap64 (y : Int) = (y : Int) := IntWalk.wrap64_in _ ⟨by omega, by omega⟩
  rw [h1]
  show IntKind.i64.wrap ((BitVec.ofInt 64 (y : Int) &&& BitVec.ofInt 64 ((127 : Nat) : Int)).toNat : Int) = _
  rw [BitVec.toNat_and, bv64 (by omega), bv64 (by decide), and127, e]
  exact i64w (by omega)
set_option maxHeartbeats 1000000 in
/-- OnesCount64 answers the number of bits set. -/
theorem ones_any (x : Nat) (w : World) (hx : x < 18446744073709551616) :
    Calls Tryd.prog 28 #[.int .u64 x] w (fun e w' => e = .returned (.int .i64 (cntB x 64)) ∧ w' = w) := by
  obtain ⟨y1, y2, y3, hp⟩ := pops_of hx
  have M1 := Lib.hid (pop_m1 hx hp.s1 hp.b1)
  have M2 := Lib.hid (pop_m2 hp.b1 hp.s2 (by have := hp.b2; omega))
  have M3 := Lib.hid (pop_m3 hp.b2 hp.s3)
  obtain ⟨l0, l1, l2, l3, l4⟩ := hp.last
  have M4 := Lib.hid (pop_m4' (y := y3) 256 256 rfl (by omega))
  obtain ⟨y4, hy4⟩ : ∃ y, y3 + y3 / 256 = y := ⟨_, rfl⟩
  rw [hy4] at M4 l1 l2 l3 l4
  have M5 := Lib.hid (pop_m4' (y := y4) 65536 65536 rfl (by omega))
  obtain ⟨y5, hy5⟩ : ∃ y, y4 + y4 / 65536 = y := ⟨_, rfl⟩
  rw [hy5] at M5 l2 l3 l4
  have M6 := Lib.hid (pop_m4' (y := y5) 4294967296 4294967296 rfl (by omega))
  obtain ⟨y6, hy6⟩ : ∃ y, y5 + y5 / 4294967296 = y := ⟨_, rfl⟩
  rw [hy6] at M6 l3 l4
  have M7 := Lib.hid (pop_m5 (by omega) l4)
  clear hx hp l0 l1 l2 l3 l4 hy4 hy5 hy6
  go_enter Tryd.func28, Tryd.ntmps28
  go_upto_region 2 with fail
  try rw [M1.out]
  go_upto_region 3 with fail
  try rw [M2.out]
  go_upto_region 4 with fail
  try rw [M3.out]
  go_upto_region 5 with fail
  try rw [M4.out]
  go_upto_region 6 with fail
  try rw [M5.out]
  go_upto_region 7 with fail
  try rw [M6.out]
  go_wp2_with fail
  go_ret
  exact ⟨ret_i M7.out, rfl⟩
/-- The order of sets: more languages first, then the lesser number. -/
def setBef (x y : Nat) : Bool := if cntB x 64 = cntB y 64 then decide (x < y) else decide (cntB y 64 < cntB x 64)
/-- What the program's comparison answers. -/
def setCmp (x y : Nat) : Int := if cntB y 64 = cntB x 64 then (if x < y then -1 else if y < x then 1 else 0) else (cntB y 64 : Int) - cntB x 64
end Go.Proofs.YtjmnakkkimgifaaDoor
namespace Go.Proofs.YtjmnakkkimgifaaDoor
open Go Go.RowKit Go.Shelf
theorem xor_lt {x y : Nat} (hx : x < 18446744073709551616) (hy : y < 18446744073709551616) : x ^^^ y < 18446744073709551616 := Nat.xor_lt_two_pow (n := 64) hx hy
theorem bits_xor {x y : Nat} (hx : x < 18446744073709551616) (hy : y < 18446744073709551616) : bits .xor .u64 (x : Int) (y : Int) = ((x ^^^ y : Nat) : Int) := by
  show IntKind.u64.wrap ((BitVec.ofInt 64 (x : Int) ^^^ BitVec.ofInt 64 (y : Int)).toNat : Int) = _
  rw [BitVec.toNat_xor, bv64 hx, bv64 hy, w64 _ (xor_lt hx hy)]
/-- The opposites. -/
def cmpl (N x : Nat) : Nat := x ^^^ (2 ^ N - 1)
theorem cmpl_bit {N x k : Nat} (hk : k < N) : (cmpl N x).testBit k = !x.testBit k := by
  unfold cmpl
  rw [Nat.testBit_xor, Nat.testBit_two_pow_sub_one, decide_eq_true hk]
  cases x.testBit k <;> rfl
theorem cmpl_lt {N x : Nat} (hx : x < 2 ^ N) : cmpl N x < 2 ^ N := Nat.xor_lt_two_pow hx (by have := Nat.two_pow_pos N; omega)
theorem cnt_off {x N : Nat} (hx : x < 2 ^ N) (hN : N ≤ 64) : cntB x 64 = offK x false N := by
  have h1 : ∀ k, offK x false k = cntB x k := fun k => by
    induction k with
    | zero => rfl
    | succ k ih =>
      show sumF _ k + _ = cntB x k + _
      have : sumF (fun i => if x.testBit i != false then 1 else 0) k = cntB x k := ih
      rw [this]
      dsimp only
      cases x.testBit k <;> rfl
  have h2 : ∀ d, cntB x (N + d) = cntB x N := fun d => by
    induction d with
    | zero => rfl
    | succ d ih =>
      show (cntB x (N + d) + if x.testBit (N + d) = true then 1 else 0) = cntB x N
      rw [ih, Nat.testBit_lt_two_pow (Nat.lt_of_lt_of_le hx (Nat.pow_le_pow_right (by omega) (Nat.le_add_right N d)))]
      rfl
  rw [h1, ← h2 (64 - N), show N + (64 - N) = 64 by omega]
/-- How many changes an innovation needs, at least and at most. -/
theorem chg_bounds {t : List Nd} {n N x : Nat} (hn : t.length = n) (hok : TreeOk t) (hL : (lvT t).length = N) (hx : x < 2 ^ N) (hN : N ≤ 64) : cntB x 64 ≤ N ∧ min (min (cntB x 64) (N - cntB x 64)) 1 ≤ chg t x ∧ chg t x ≤ min (cntB x 64) (N - cntB x 64) := by
  have h0 := cnt_off hx hN
  have h1 := chg_le hn hok x false
  have h2 := chg_le hn hok x true
  have h3 := offK_compl x N
  rw [hL] at h1 h2
  rw [h0]
  refine ⟨by omega, ?_, by omega⟩
  by_cases e0 : x = 0
  · subst e0
    have : offK 0 false N = 0 := (offK_zero N).2 fun i _ => Nat.zero_testBit i
    omega
  · by_cases e1 : x = 2 ^ N - 1
    · have : offK x true N = 0 := (offK_zero N).2 fun i hi => by rw [e1, Nat.testBit_two_pow_sub_one]; simpa using hi
      omega
    · have := chg_pos hn hok (by rw [hL]; exact hx) e0 (by rw [hL]; exact e1)
      omega
theorem chg_cmpl {t : List Nd} {n N x : Nat} (hn : t.length = n) (hok : TreeOk t) (hL : (lvT t).length = N) : chg t (cmpl N x) = chg t x := chg_opp hn hok fun k hk => cmpl_bit (by rw [← hL]; exact hk)
theorem map_take_snoc {f : Nat → Nat} {l : List Nat} {k : Nat} (hk : k < l.length) : (l.take (k + 1)).map f = (l.take k).map f ++ [f (vA l k)] := by
  rw [List.take_succ_eq_append_getElem hk, List.map_append, vA_get hk]; rfl
theorem bl_setX {w3 w8 : World} {X : Nat} (hX : X = w3.heap.size) (h : Below X w3 w8) (i j : Nat) (v : Value) : Below X w3 (w8.setCell ⟨X + i, j, none⟩ v) := by
  subst hX
  exact bl_set h _ j none v (by omega)
set_option maxRecDepth 100000 in
set_option maxHeartbeats 8000000 in
theorem ctlaw_any (a : Option Addr) (n c : Nat) (l : List Nat) (b : Option Addr) (m d : Nat) (has : List Nat) (w : World) (hl : l.length = n) (hN : n ≤ 1152921504606846976) (hA : Rd w a (fl enc8 l)) (hF : ∀ i, i < n → vA l i < 256)
    (hm : has.length = m) (hM : m ≤ 1152921504606846976) (hB : Rd w b (fl enc16 has)) (hG : ∀ i, i < m → vA has i < 65536) :
    Calls Tryd.prog 7 #[.slice a n c, .slice b m d] w fun e w' => e = .returned (.bool true) ∧ Below w.heap.size w w' := by
  have HMD := Lib.hid (made_any a n c b m d l has w hN hm hM hB hG)
  have HGR := Lib.hid (fun W (hW : Below w.heap.size w W) => grownS_any a n c l W hl hN (hA.bl hW) hF)
  obtain ⟨M, hMe⟩ : ∃ M, M = min n 9 := ⟨_, rfl⟩
  rw [← hMe] at HMD HGR
  have hM9 : M ≤ 9 := by omega
  obtain ⟨g1, g2, g3, g4⟩ := gr_all l hM9
  obtain ⟨t, ht⟩ : ∃ t, t = (gRun l M).1 := ⟨_, rfl⟩
  rw [← ht] at HGR g1 g2 g3 g4
  obtain ⟨q, hq⟩ : ∃ q, q = 2 * M + 1 := ⟨_, rfl⟩
  rw [← hq] at HGR g1 g3
  have hq19 : q ≤ 19 := by omega
  obtain ⟨N, hNe⟩ : ∃ N, N = M + 1 := ⟨_, rfl⟩
  have hN10 : N ≤ 10 := by omega
  rw [show 1 + M = N by omega] at HMD
  rw [← hNe] at g4
  obtain ⟨L, hLe⟩ : ∃ L, L = mdL N has := ⟨_, rfl⟩
  have hLlt : ∀ x, x ∈ L → x < 2 ^ N := by rw [hLe]; exact mdL_lt
  have hLn : L.length ≤ 8 := by rw [hLe, mdL_len]; omega
  rw [← hLe] at HMD
  obtain ⟨p, hp⟩ : ∃ p, p = L.length := ⟨_, rfl⟩
  rw [← hp] at HMD
  have hp8 : p ≤ 8 := by omega
  have h2N := Nat.two_pow_pos N
  have h2m : 2 ^ N ≤ 1024 := Nat.pow_le_pow_right (n := 2) (by omega) hN10
  have HBD : Hid (∀ i, i < p → cntB (vA L i) 64 ≤ N ∧ min (min (cntB (vA L i) 64) (N - cntB (vA L i) 64)) 1 ≤ chg t (vA L i) ∧ chg t (vA L i) ≤ min (cntB (vA L i) 64) (N - cntB (vA L i) 64)) := fun i hi => chg_bounds g1 g2 g4 (hLlt _ (by rw [vA_get (by omega)]; exact List.getElem_mem _)) (by omega)
  have HLT : Hid (∀ i, i < p → vA L i < 1024) := fun i hi => by
    have := hLlt (vA L i) (by rw [vA_get (by omega)]; exact List.getElem_mem _)
    omega
  have HFL : Hid (FitV L) := fun i hi => by have := HLT.out i (by omega); omega
  have HCL : Hid (FitV (L.map (cmpl N))) := fun i hi => by
    rw [List.length_map] at hi
    have h1 := cmpl_lt (hLlt (vA L i) (by rw [vA_get hi]; exact List.getElem_mem _))
    have e : vA (L.map (cmpl N)) i = cmpl N (vA L i) := by unfold vA; rw [List.getD_eq_getElem?_getD, List.getElem?_map, List.getElem?_eq_getElem hi, List.getD_eq_getElem?_getD, List.getElem?_eq_getElem hi]; rfl
    rw [e]; omega
  have hk1 : chkP (N : Int) L t = 0 := chk_gr g2 g4 (by omega) (by omega) hLlt
  have hk2 : chkP (N : Int) (L.map (cmpl N)) t = 0 := chk_gr g2 g4 (by omega) (by rw [List.length_map]; omega) (fun x hx => by
    obtain ⟨y, hy, rfl⟩ := List.mem_map.1 hx
    exact cmpl_lt (hLlt y hy))
  have HL1 : Hid (lenL (N : Int) L t = L.map (chg t)) := if_pos hk1
  have HL2 : Hid (lenL (N : Int) (L.map (cmpl N)) t = L.map (chg t)) := by
    show (if _ then _ else _) = _
    rw [if_pos hk2, List.map_map]
    exact List.map_congr_left fun x _ => chg_cmpl g1 g2 g4
  have HS1 : Hid (lenS (N : Int) L t = (L.map (chg t)).sum) := by show (lenL _ _ _).sum = _; rw [HL1.out]
  have HK1 := Lib.hid hk1
  have HK2 := Lib.hid hk2
  have H1 := Lib.hid g1
  have HSZ := Lib.hid (tok_size g1 g2)
  have HP := Lib.hid hp
  have HW := Lib.hid works_any
  have HKC := Lib.hid hk1
  clear hl hA hF hm hB hG hMe g1 g2 g3 g4 ht hq hNe hLe hLlt hLn hp hk1 hk2
  go_enter Tryd.func7, Tryd.ntmps7
  go_wp2_with fail
  refine HMD.out.mono ?_
  rintro e w2 ⟨v, rfl, ho, hb⟩
  obtain ⟨A, cp, rfl, _⟩ := owns_slice ho
  have hcp := own_cap ho
  unfold maxLen at hcp
  have HR2 := Lib.hid (rd_of_owns ho)
  have HB2 := Lib.hid hb
  have HGX := Lib.hid (HGR.out w2 hb)
  clear ho hb HMD HGR
  go_wp2_with fail
  refine HGX.out.mono ?_
  rintro e w3 ⟨g, c', rfl, ho3, hb3⟩
  have HT3 := Lib.hid (rd_of_owns ho3)
  have HR3 := Lib.hid (HR2.out.bl hb3)
  have HB3 := Lib.hid (bl_trans HB2.out hb3)
  clear ho3 hb3 HR2 HB2 HGX
  have hb5 := bl_alloc (Below.refl _ w3) (.cells #[.int .i64 N, .slice A p cp] 30)
  have hb7 := bl_alloc hb5 (.cells #[.int .i64 N, .slice none 0 0] 30)
  have HX5 := Lib.hid ((Blk.new w3 #[.int .i64 N, .slice A p cp] 30).alloc (.cells #[.int .i64 N, .slice none 0 0] 30))
  have HX7 := Lib.hid (Blk.new2 w3 (.cells #[.int .i64 N, .slice A p cp] 30) #[.int .i64 N, .slice none 0 0] 30)
  have HB7 := Lib.hid hb7
  clear hb5 hb7
  go_wp2_with fail
  obtain ⟨X, hX⟩ : ∃ X, X = w3.heap.size := ⟨_, rfl⟩
  rw [← hX] at HX5 HX7 HB7 ⊢
  have HXX := Lib.hid hX
  clear hX
  go_loopw [8] (fun x wr => ∃ (k : Nat) (v : Value), k ≤ p ∧ x = .int .i64 k ∧ Hid (Blk wr X #[.int .i64 N, .slice A p cp] 30) ∧ Hid (Blk wr (X + 1) #[.int .i64 N, v] 30) ∧ Hid (wr.ownsRow X 52 1 v k (fl encV ((L.take k).map (cmpl N)))) ∧ Hid (Below X w3 wr)) (fun x _ => p - (intOf x).toNat)
  case atStart => exact ⟨0, .slice none 0 0, by omega, rfl, HX5, HX7, World.ownsRow_nil _ _ _ _, HB7⟩
  case round =>
    clear HX5 HX7 HB7
    obtain ⟨k, v, hk, rfl, h5, h7, hV, hB⟩ := hrel
    have c50 : wr.cell? ⟨X, 0, none⟩ = some (.int .i64 N) := h5.out.cell 0
    have c51 : wr.cell? ⟨X, 1, none⟩ = some (.slice A p cp) := h5.out.cell 1
    have hR : Hid (Rd wr A (fl encV L)) := HR3.out.bl (by rw [← HXX.out]; exact hB.out)
    by_cases hlt : k < p
    · obtain ⟨bb, ob, rfl, hbb, hcb⟩ := rdV hR.out (by rw [← HP.out]; omega)
      have G := hcb k (by rw [← HP.out]; exact hlt)
      have hx := HLT.out k hlt
      have HSN : Hid ((L.take (k + 1)).map (cmpl N) = (L.take k).map (cmpl N) ++ [cmpl N (vA L k)]) := map_take_snoc (by rw [← HP.out]; exact hlt)
      have HLN : Hid (((L.take k).map (cmpl N)).length = k) := by show _ = _; rw [List.length_map, List.length_take, ← HP.out]; omega
      obtain ⟨x, hxe⟩ : ∃ x, x = vA L k := ⟨_, rfl⟩
      rw [← hxe] at G hx HSN
      obtain ⟨A7, c7, rfl, _⟩ := owns_slice hV.out
      have c71 : wr.cell? ⟨X + 1, 1, none⟩ = some (.slice A7 k c7) := h7.out.cell 1
      have f71 : wr.frozen? ⟨X + 1, 1, none⟩ = false := h7.out.free 1
      have ew : ((2 : Int) ^ N) = ((2 ^ N : Nat) : Int) := by simp
      have hw1 : IntKind.u64.wrap (2 ^ N) = ((2 ^ N : Nat) : Int) := by rw [ew, w64 _ (by omega)]
      have hw2 : IntKind.u64.wrap (((2 ^ N : Nat) : Int) - 1) = ((2 ^ N - 1 : Nat) : Int) := by
        rw [show ((2 ^ N : Nat) : Int) - 1 = ((2 ^ N - 1 : Nat) : Int) by omega, w64 _ (by omega)]
      have hba := bits_xor (show x < 18446744073709551616 by omega) (show 2 ^ N - 1 < 18446744073709551616 by omega)
      obtain ⟨y, hy⟩ : ∃ y, y = cmpl N x := ⟨_, rfl⟩
      have hba2 : bits .xor .u64 (x : Int) ((2 ^ N - 1 : Nat) : Int) = (y : Int) := by rw [hba, hy]; rfl
      rw [← hy] at HSN
      obtain ⟨P, hP⟩ : ∃ P, P = 2 ^ N := ⟨_, rfl⟩
      rw [← hP] at hw1 hw2 hba2 h2N h2m
      obtain ⟨P1, hP1⟩ : ∃ P1, P1 = P - 1 := ⟨_, rfl⟩
      rw [← hP1] at hw2 hba2
      have HPP := Lib.hid hP
      have HY := Lib.hid hy
      have HP1 := Lib.hid hP1
      clear hcb hxe hy hP hP1 ew hba
      go_upto_region 6 with fail
      refine wp_region_order (S := fun w' => w'.cell? ⟨X + 1, 1, none⟩ = some (.slice A7 k c7) ∧ w'.cell? ⟨X, 1, none⟩ = some (.slice (some ⟨bb, ob, none⟩) p cp) ∧ w'.cell? ⟨X, 0, none⟩ = some (.int .i64 N) ∧ w'.cell? ⟨bb, ob + k, none⟩ = some (.int .u64 x)) 13 [0, 1, 2, 3, 4, 5, 6, 7, 8, 9, 10, 11] [12] (by kernel_rfl) (by kernel_rfl) ⟨c71, c51, c50, G⟩ ?_
      iterate 12 (refine headT_cons (by rfl) (by rfl) (by intro w hSw; obtain ⟨s0, s1, s2, s3⟩ := hSw; go_simp; try rfl) ?_; simp only [Act.put, List.setIfInBounds_toArray, List.set_cons_zero, List.set_cons_succ])
      refine headT_nil ?_
      obtain ⟨w4, hw4⟩ : ∃ x, x = wr.drew := ⟨_, rfl⟩
      rw [← hw4]
      have hb4 : Below wr.heap.size wr w4 := by rw [hw4]; exact bl_drewN (Below.refl _ wr) 1
      clear hw4
      refine midT_cons (by rfl) (fun K hK => ?_)
      rw [if_pos (by rfl)]
      go_simp
      have hb5 := bl_alloc hb4 (.cells #[.int .u64 y] 52)
      have hN5 := Blk.new w4 #[.int .u64 y] 52
      obtain ⟨w5, hw5⟩ : ∃ x, x = w4.alloc (.cells #[.int .u64 y] 52) := ⟨_, rfl⟩
      obtain ⟨D, hD⟩ : ∃ D, D = w4.heap.size := ⟨_, rfl⟩
      rw [← hw5] at hb5 hN5 ⊢
      rw [← hD] at hN5 ⊢
      have H55 := Lib.hid (h5.out.below hb5)
      have H75 := Lib.hid (h7.out.below hb5)
      have HV5 := Lib.hid (owns_below hV.out hb5)
      have HB5 : Hid (Below X w3 w5) := by
        have h := hB.out
        show Below X w3 w5
        rw [HXX.out] at h ⊢
        exact bl_trans h hb5
      have HN5 := Lib.hid hN5
      have G5 := (hb5.cell (p := ⟨bb, ob + k, none⟩) hbb).trans G
      have hbs5 := HB5.out.size
      refine hK.out _ _ ⟨H75.out.cell 1, H55.out.cell 1, H55.out.cell 0, G5⟩ (fun _ => ?_)
      clear hK K hb4 hb5 hN5 hw5 hD h5 h7 hV hR hB c50 c51 c71 f71 G G5 hw1 hw2 hba2
      try simp only [Act.put, List.setIfInBounds_toArray, List.set_cons_zero, List.set_cons_succ]
      refine midT_nil ?_
      simp only [List.drop_succ_cons, List.drop_zero]
      refine push_V rfl (.tmp 35) (.tmp 46) rfl X (.slice A7 k c7) ((L.take k).map (cmpl N)) k HLN.out.symm rfl HV5.out _ _ y rfl HN5.out (by omega) (by have := HXX.out; omega) ?_
      intro g8 cap8 w8 h81 h82 h83 h84
      rw [← HSN.out] at h81
      have hn5 := own_ne_blk HV5.out H55.out (by decide)
      have hn7 := own_ne_blk HV5.out H75.out (by decide)
      have h58 := H55.out.grown h82 (fun e => hn5 e.symm)
      have h78 := H75.out.grown h82 (fun e => hn7 e.symm)
      have f8 := h78.free 1
      have c8 : w8.cell? ⟨X + 1, 1, none⟩ = some (.slice A7 k c7) := h78.cell 1
      have hB8 : Below X w3 w8 := by
        have := HB5.out
        rw [HXX.out] at this ⊢
        exact bl_grown this h82 (fun r e => by rw [← HXX.out]; exact (HV5.out.lt r e).1)
      have hn78 := own_ne_blk h81 h78 (by decide)
      have HV8 := Lib.hid (ownsRow_setCell_other (a := ⟨X + 1, 1, none⟩) h81 hn78 (.slice (some ⟨g8, 0, none⟩) (k + 1) cap8))
      have H58 := Lib.hid (h58.other (show X ≠ X + 1 by omega) 1 (.slice (some ⟨g8, 0, none⟩) (k + 1) cap8))
      have H78 : Hid (Blk (w8.setCell ⟨X + 1, 1, none⟩ (.slice (some ⟨g8, 0, none⟩) (k + 1) cap8)) (X + 1) #[.int .i64 N, .slice (some ⟨g8, 0, none⟩) (k + 1) cap8] 30) := h78.set 1 _
      have HB8 := Lib.hid (bl_setX HXX.out hB8 1 1 (.slice (some ⟨g8, 0, none⟩) (k + 1) cap8))
      clear h81 h82 h83 h84 hn5 hn7 h58 h78 hB8 hn78 H55 H75 HV5 HB5 HN5
      go_wp2_with fail
      refine NoPanic.normal ?_
      go_wp2_with fail
      go_roundw
      case rel => exact ⟨k + 1, _, by omega, by go_num, H58, H78, HV8, HB8⟩
      case measure => simp [intOf]; omega
    · have hkp : k = p := by omega
      subst hkp
      have hHP := HP.out
      obtain ⟨A7, c7, rfl, _⟩ := owns_slice hV.out
      have hc7 := own_cap hV.out
      unfold maxLen at hc7
      have HCK : (L.take k).map (cmpl N) = L.map (cmpl N) := by rw [List.take_of_length_le (by omega)]
      have HRO : Hid (Rd wr A7 (fl encV (L.map (cmpl N)))) := by rw [← HCK]; exact rd_of_owns hV.out
      have hT : Hid (Rd wr (some ⟨g, 0, none⟩) (fl encNd t)) := HT3.out.bl (by rw [← HXX.out]; exact hB.out)
      obtain ⟨ll, hll⟩ : ∃ ll, ll = L.map (chg t) := ⟨_, rfl⟩
      have hlk : ll.length = k := by rw [hll, List.length_map]; exact hHP.symm
      have HLV : Hid (∀ i, i < k → vA ll i = chg t (vA L i)) := fun i hi => by
        rw [hll]; unfold vA
        rw [List.getD_eq_getElem?_getD, List.getElem?_map, List.getElem?_eq_getElem (by omega), List.getD_eq_getElem?_getD, List.getElem?_eq_getElem (by omega)]; rfl
      rw [← hll] at HL1 HL2 HS1
      have HC1 := lengths_any N A k cp L (some ⟨g, 0, none⟩) q c' t wr hHP.symm (by omega) hR.out HFL.out H1.out (by omega) hT.out HSZ.out
      have HC2 := fun W (hW : Below wr.heap.size wr W) => lengths_any N A7 k c7 (L.map (cmpl N)) (some ⟨g, 0, none⟩) q c' t W (by rw [List.length_map]; exact hHP.symm) (by omega) (HRO.out.bl hW) HCL.out H1.out (by omega) (hT.out.bl hW) HSZ.out
      have HC3 := fun W (hW : Below wr.heap.size wr W) => length_any N A k cp L (some ⟨g, 0, none⟩) q c' t W hHP.symm (by omega) (hR.out.bl hW) HFL.out H1.out (by omega) (hT.out.bl hW) HSZ.out
      rw [HK1.out, HL1.out, hlk] at HC1
      rw [HK2.out, HL2.out, hlk] at HC2
      rw [HK1.out, HS1.out] at HC3
      have HC1 := Lib.hid HC1
      have HC2 := Lib.hid HC2
      have HC3 := Lib.hid HC3
      have HLI : Hid ((iN ll).length = k) := by show _ = _; unfold iN; rw [List.length_map, hlk]
      have H5 := Lib.hid h5.out
      have HLK := Lib.hid hlk.symm
      have HLE : Hid (∀ y, y ∈ ll → y ≤ 64) := fun y hy => by
        rw [hll] at hy
        obtain ⟨x, hx, rfl⟩ := List.mem_map.1 hy
        have := chg_le32 HKC.out x
        omega
      have H7 := Lib.hid h7.out
      have c70 : wr.cell? ⟨X + 1, 0, none⟩ = some (.int .i64 N) := h7.out.cell 0
      have c71 : wr.cell? ⟨X + 1, 1, none⟩ = some (.slice A7 k c7) := h7.out.cell 1
      clear hHP hll hlk h5 h7 hV HCK
      go_wp2_with fail
      refine HC1.out.mono ?_
      rintro e wa ⟨va, rfl, hoa, hba⟩
      obtain ⟨Aa, ca, rfl, _⟩ := owns_slice hoa
      have hca := own_cap hoa
      unfold maxLen at hca
      have HRa := Lib.hid (rd_of_owns hoa)
      have HBa := Lib.hid hba
      have d70 : wa.cell? ⟨X + 1, 0, none⟩ = some (.int .i64 N) := (H7.out.below hba).cell 0
      have d71 : wa.cell? ⟨X + 1, 1, none⟩ = some (.slice A7 k c7) := (H7.out.below hba).cell 1
      have HCb := Lib.hid (HC2.out wa hba)
      clear hba hoa HC1 HC2 c50 c51 c70 c71
      go_wp2_with fail
      refine HCb.out.mono ?_
      rintro e wb ⟨vb, rfl, hob, hbb⟩
      obtain ⟨Ab, cb, rfl, _⟩ := owns_slice hob
      have hcb := own_cap hob
      unfold maxLen at hcb
      have HRb := Lib.hid (rd_of_owns hob)
      have HRab := Lib.hid (HRa.out.bl hbb)
      have HBb := Lib.hid (bl_trans HBa.out hbb)
      have e50 : wb.cell? ⟨X, 0, none⟩ = some (.int .i64 N) := (H5.out.below HBb.out).cell 0
      have e51 : wb.cell? ⟨X, 1, none⟩ = some (.slice A k cp) := (H5.out.below HBb.out).cell 1
      have HCc := Lib.hid (HC3.out wb HBb.out)
      clear hbb hob HCb HC3 HRa HBa d70 d71
      go_wp2_with fail
      refine HCc.out.mono ?_
      rintro e wc ⟨rfl, hbc⟩
      have HRac := Lib.hid (HRab.out.bl hbc)
      have HRbc := Lib.hid (HRb.out.bl hbc)
      have HBc := Lib.hid (bl_trans HBb.out hbc)
      have HEQ := Lib.hid (equal_same Aa Ab k k ca cb (iN ll) wc HLI.out HLI.out (by omega) (by omega) HRac.out HRbc.out)
      have t5 := Lib.hid (H5.out.below HBc.out)
      clear hbc HRab HRb HBb HCc e50 e51 H7
      go_wp2_with fail
      refine HEQ.out.mono ?_
      rintro e wd ⟨rfl, nd, rfl⟩
      have HBd : Hid (Below X w3 (wc.drewN nd)) := by
        have h := hB.out
        show Below X w3 _
        rw [HXX.out] at h ⊢
        exact bl_drewN (bl_trans h HBc.out) nd
      have HRd := Lib.hid (Rd.drewN HRac.out nd)
      have HTd := Lib.hid (Blk.drewN t5.out nd)
      obtain ⟨wd, hwd⟩ : ∃ x, x = wc.drewN nd := ⟨_, rfl⟩
      rw [← hwd] at HBd HRd HTd ⊢
      have e51 : wd.cell? ⟨X, 1, none⟩ = some (.slice A k cp) := HTd.out.cell 1
      clear hwd HRac HRbc HBc HEQ t5 hR HRO hT hB
      go_wp2_with fail
      go_loopw [15, 16] (fun y x wr => ∃ j : Nat, j ≤ k ∧ x = .int .i64 j ∧ y = .int .i64 ((ll.take j).sum : Nat) ∧ Hid (Blk wr X #[.int .i64 N, .slice A k cp] 30) ∧ Hid (Rd wr Aa (fl encI (iN ll))) ∧ Hid (Below X w3 wr)) (fun _ x _ => k - (intOf x).toNat)
      case atStart => exact ⟨0, by omega, rfl, rfl, HTd, HRd, HBd⟩
      case round =>
        clear HTd HRd HBd e51
        obtain ⟨j, hj, rfl, rfl, hT, hR, hB⟩ := hrel
        have c50 : wr.cell? ⟨X, 0, none⟩ = some (.int .i64 N) := hT.out.cell 0
        have c51 : wr.cell? ⟨X, 1, none⟩ = some (.slice A k cp) := hT.out.cell 1
        by_cases hlt : j < k
        · have hA : Hid (Rd wr A (fl encV L)) := HR3.out.bl (by rw [← HXX.out]; exact hB.out)
          obtain ⟨bb, ob, rfl, hbb, hcb⟩ := rdV hA.out (by rw [← HP.out]; omega)
          obtain ⟨ba, oa, rfl, hba, hca⟩ := rdI hR.out (by rw [HLI.out]; omega)
          have G := hcb j (by rw [← HP.out]; exact hlt)
          have Ga := hca j (by rw [HLI.out]; exact hlt)
          have hx := HLT.out j hlt
          obtain ⟨b1, b2, b3⟩ := HBD.out j hlt
          have hv := HLV.out j hlt
          have hia : iA (iN ll) j = (vA ll j : Nat) := iN_get _ _
          rw [hia, hv] at Ga
          have HSN : Hid ((ll.take (j + 1)).sum = (ll.take j).sum + chg t (vA L j)) := by
            show _ = _
            rw [← hv]; exact sum_take_succ (by rw [← HLK.out]; exact hlt)
          have hsl : (ll.take j).sum ≤ 100000 := by
            have h1 := sum_le (l := ll.take j) (c := 64) (fun y hy => HLE.out y (List.mem_of_mem_take hy))
            rw [List.length_take] at h1
            omega
          have HO := Lib.hid (fun W => ones_any (vA L j) W (by omega))
          obtain ⟨x, hxe⟩ : ∃ x, x = vA L j := ⟨_, rfl⟩
          rw [← hxe] at G Ga hx b1 b2 b3 HSN HO
          obtain ⟨ch, hch⟩ : ∃ y, y = chg t x := ⟨_, rfl⟩
          rw [← hch] at Ga b2 b3 HSN
          obtain ⟨on, hon⟩ : ∃ y, y = cntB x 64 := ⟨_, rfl⟩
          rw [← hon] at b1 b2 b3 HO
          obtain ⟨sm, hsm⟩ : ∃ y, y = (ll.take j).sum := ⟨_, rfl⟩
          rw [← hsm] at hsl HSN ⊢
          clear hcb hca hv hia hxe hch hon hsm
          go_wp2_with fail
          refine (HO.out wr).mono ?_
          rintro e w' ⟨rfl, rfl⟩
          go_wp2_with fail
          go_roundw
          case rel => exact ⟨j + 1, by omega, by go_num, by rw [HSN.out]; go_num, hT, hR, hB⟩
          case measure => simp [intOf]; omega
        · have hjk : j = k := by omega
          subst hjk
          have hst : (ll.take j).sum = ll.sum := by rw [List.take_of_length_le (by rw [← HLK.out]; exact Nat.le_refl _)]
          rw [hst]
          have HW2 := Lib.hid (HW.out wr)
          have hBw : Hid (Below w.heap.size w wr) := by
            have h := hB.out
            rw [HXX.out] at h
            exact bl_trans HB3.out h
          obtain ⟨sm, hsm⟩ : ∃ z : Int, z = (ll.sum : Nat) := ⟨_, rfl⟩
          rw [← hsm]
          have t1 : decide (sm = sm) = true := by simp
          have t2 : (sm == sm) = true := by simp
          clear hst hsm hT hR hB
          go_wp2_with fail
          refine HW2.out.mono ?_
          rintro e w6 ⟨rfl, hb6⟩
          have HB6 := Lib.hid (bl_trans hBw.out hb6)
          clear hb6 hBw HW HW2
          go_wp2_with fail
          go_ret
          exact ⟨rfl, HB6.out⟩
end Go.Proofs.YtjmnakkkimgifaaDoor
