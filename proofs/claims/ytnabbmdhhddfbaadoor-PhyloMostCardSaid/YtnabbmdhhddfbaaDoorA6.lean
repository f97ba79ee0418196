/- Plain: how many bits of a number are set, by sums of its digits. -/
import Derived.WalkKit
namespace Go.Proofs.YtnabbmdhhddfbaaDoor
/-- The sum of the first n digits to the base 2 ^ k. -/
def popD (k : Nat) : Nat → Nat → Nat
  | 0, _ => 0
  | n + 1, x => x % 2 ^ k + popD k n (x / 2 ^ k)
/-- The first n digits to the base 2 ^ k are at most d, the others 0. -/
def DigOk (k d : Nat) : Nat → Nat → Prop
  | 0, x => x = 0
  | n + 1, x => x % 2 ^ k ≤ d ∧ DigOk k d n (x / 2 ^ k)
/-- The lower half of each of n pairs of digits. -/
def mk2 (k : Nat) : Nat → Nat
  | 0 => 0
  | n + 1 => 2 ^ (2 * k) * mk2 k n + (2 ^ k - 1)
theorem and_rec (k x m : Nat) : x &&& (2 ^ (2 * k) * m + (2 ^ k - 1)) = 2 ^ (2 * k) * ((x / 2 ^ (2 * k)) &&& m) + x % 2 ^ k := by
  have hk : 2 ^ k ≤ 2 ^ (2 * k) := Nat.pow_le_pow_right (by omega) (by omega)
  have hp : 0 < 2 ^ k := Nat.two_pow_pos k
  have h1 : 2 ^ k - 1 < 2 ^ (2 * k) := by omega
  have h2 : x % 2 ^ k < 2 ^ (2 * k) := Nat.lt_of_lt_of_le (Nat.mod_lt _ hp) hk
  apply Nat.eq_of_testBit_eq
  intro i
  rw [Nat.testBit_and, Nat.testBit_two_pow_mul_add _ h1, Nat.testBit_two_pow_mul_add _ h2]
  by_cases hi : i < 2 * k
  · rw [if_pos hi, if_pos hi, Nat.testBit_two_pow_sub_one, Nat.testBit_mod_two_pow, Bool.and_comm]
  · rw [if_neg hi, if_neg hi, Nat.testBit_and, Nat.testBit_div_two_pow]
    rw [show i - 2 * k + 2 * k = i by omega]
theorem DigOk.lt {k d : Nat} : ∀ {n x : Nat}, DigOk k d n x → x < 2 ^ (k * n)
  | 0, x, h => by rw [show x = 0 from h]; exact Nat.two_pow_pos _
  | n + 1, x, h => by
    have ih := DigOk.lt h.2
    rw [Nat.mul_succ, Nat.add_comm, Nat.pow_add, Nat.mul_comm]
    exact (Nat.div_lt_iff_lt_mul (Nat.two_pow_pos k)).1 ih
theorem digOk_of {k : Nat} : ∀ {n x : Nat}, x < 2 ^ (k * n) → DigOk k (2 ^ k - 1) n x
  | 0, x, h => by rw [Nat.mul_zero] at h; show x = 0; omega
  | n + 1, x, h => by
    have hp : 0 < 2 ^ k := Nat.two_pow_pos k
    refine ⟨by have := Nat.mod_lt x hp; omega, digOk_of ?_⟩
    rw [Nat.mul_succ, Nat.add_comm, Nat.pow_add, Nat.mul_comm] at h
    exact (Nat.div_lt_iff_lt_mul hp).2 h
/-- One stage: two digits are added up. -/
theorem pop_stage {k d : Nat} (hd : d < 2 ^ k) (hdd : 2 * d < 2 ^ (2 * k)) : ∀ {n x : Nat}, DigOk k d (2 * n) x → DigOk (2 * k) (2 * d) n ((x / 2 ^ k &&& mk2 k n) + (x &&& mk2 k n)) ∧ popD (2 * k) n ((x / 2 ^ k &&& mk2 k n) + (x &&& mk2 k n)) = popD k (2 * n) x
  | 0, x, h => by
    have : x = 0 := h
    subst this
    exact ⟨by show _ = 0; simp, rfl⟩
  | n + 1, x, h => by
    have hp : 0 < 2 ^ k := Nat.two_pow_pos k
    have hB : 0 < 2 ^ (2 * k) := Nat.two_pow_pos (2 * k)
    obtain ⟨h1, h2, h3⟩ : x % 2 ^ k ≤ d ∧ x / 2 ^ k % 2 ^ k ≤ d ∧ DigOk k d (2 * n) (x / 2 ^ k / 2 ^ k) := h
    have e0 : x / 2 ^ k / 2 ^ k = x / 2 ^ (2 * k) := by rw [Nat.div_div_eq_div_mul, ← Nat.pow_add, show k + k = 2 * k by omega]
    have e1 : x / 2 ^ k / 2 ^ (2 * k) = x / 2 ^ (2 * k) / 2 ^ k := by rw [Nat.div_div_eq_div_mul, Nat.div_div_eq_div_mul, Nat.mul_comm]
    rw [e0] at h3
    obtain ⟨i1, i2⟩ := pop_stage hd hdd h3
    have es : (x / 2 ^ k &&& mk2 k (n + 1)) + (x &&& mk2 k (n + 1)) = 2 ^ (2 * k) * ((x / 2 ^ (2 * k) / 2 ^ k &&& mk2 k n) + (x / 2 ^ (2 * k) &&& mk2 k n)) + (x / 2 ^ k % 2 ^ k + x % 2 ^ k) := by
      show (x / 2 ^ k &&& (2 ^ (2 * k) * mk2 k n + (2 ^ k - 1))) + (x &&& (2 ^ (2 * k) * mk2 k n + (2 ^ k - 1))) = _
      rw [and_rec, and_rec, e1, Nat.mul_add]
      omega
    rw [es]
    have em : (2 ^ (2 * k) * ((x / 2 ^ (2 * k) / 2 ^ k &&& mk2 k n) + (x / 2 ^ (2 * k) &&& mk2 k n)) + (x / 2 ^ k % 2 ^ k + x % 2 ^ k)) % 2 ^ (2 * k) = x / 2 ^ k % 2 ^ k + x % 2 ^ k := by
      rw [Nat.mul_add_mod]; exact Nat.mod_eq_of_lt (by omega)
    have ed : (2 ^ (2 * k) * ((x / 2 ^ (2 * k) / 2 ^ k &&& mk2 k n) + (x / 2 ^ (2 * k) &&& mk2 k n)) + (x / 2 ^ k % 2 ^ k + x % 2 ^ k)) / 2 ^ (2 * k) = (x / 2 ^ (2 * k) / 2 ^ k &&& mk2 k n) + (x / 2 ^ (2 * k) &&& mk2 k n) := by
      have hlt : x / 2 ^ k % 2 ^ k + x % 2 ^ k < 2 ^ (2 * k) := by omega
      rw [Nat.mul_add_div hB, Nat.div_eq_of_lt hlt, Nat.add_zero]
    refine ⟨⟨by rw [em]; omega, by rw [ed]; exact i1⟩, ?_⟩
    show _ % 2 ^ (2 * k) + popD (2 * k) n (_ / 2 ^ (2 * k)) = x % 2 ^ k + (x / 2 ^ k % 2 ^ k + popD k (2 * n) (x / 2 ^ k / 2 ^ k))
    rw [em, ed, i2, e0]
    omega
/-- The third stage: nibbles of at most 4 are added before the mask. -/
theorem pop_third : ∀ {n x : Nat}, DigOk 4 4 (2 * n) x → DigOk 8 8 n (x / 16 + x &&& mk2 4 n) ∧ popD 8 n (x / 16 + x &&& mk2 4 n) = popD 4 (2 * n) x
  | 0, x, h => by
    have : x = 0 := h
    subst this
    exact ⟨by show _ = 0; simp, rfl⟩
  | n + 1, x, h => by
    obtain ⟨h1, h2, h3⟩ : x % 2 ^ 4 ≤ 4 ∧ x / 2 ^ 4 % 2 ^ 4 ≤ 4 ∧ DigOk 4 4 (2 * n) (x / 2 ^ 4 / 2 ^ 4) := h
    have e0 : x / 2 ^ 4 / 2 ^ 4 = x / 256 := by omega
    rw [e0] at h3
    have h4 : x / 256 % 16 ≤ 4 := by
      cases n with
      | zero => rw [show x / 256 = 0 from h3]; omega
      | succ n => exact h3.1
    obtain ⟨i1, i2⟩ := pop_third h3
    have es : x / 16 + x &&& mk2 4 (n + 1) = 256 * (x / 256 / 16 + x / 256 &&& mk2 4 n) + (x % 16 + x / 16 % 16) := by
      show x / 16 + x &&& (2 ^ (2 * 4) * mk2 4 n + (2 ^ 4 - 1)) = _
      rw [and_rec]
      obtain ⟨x', hx'⟩ : ∃ y, x / 256 = y := ⟨_, rfl⟩
      obtain ⟨x2, hx2⟩ : ∃ y, x' / 16 = y := ⟨_, rfl⟩
      obtain ⟨lo, hlo⟩ : ∃ y, x % 16 = y := ⟨_, rfl⟩
      obtain ⟨hi, hhi⟩ : ∃ y, x / 16 % 16 = y := ⟨_, rfl⟩
      obtain ⟨l2, hl2⟩ : ∃ y, x' % 16 = y := ⟨_, rfl⟩
      have q1 : lo ≤ 4 := by rw [← hlo]; exact h1
      have q2 : hi ≤ 4 := by rw [← hhi]; exact h2
      have q3 : l2 ≤ 4 := by rw [← hl2, ← hx']; exact h4
      have g2 : x' = l2 + 16 * x2 := by omega
      have g3 : x / 16 = hi + 16 * x' := by omega
      have g4 : x = lo + 16 * (hi + 16 * x') := by omega
      have g1 : x / 16 + x = lo + hi + 16 * (hi + l2) + 256 * (x' + x2) := by omega
      have e2 : (x / 16 + x) / 2 ^ (2 * 4) = x2 + x' := by
        rw [g1]
        clear g1 g2 g3 g4 hx' hx2 hlo hhi hl2 h1 h2 h3 h4 i1 i2
        show (lo + hi + 16 * (hi + l2) + 256 * (x' + x2)) / 256 = _
        omega
      have e3 : (x / 16 + x) % 2 ^ 4 = lo + hi := by
        rw [g1]
        clear g1 g2 g3 g4 hx' hx2 hlo hhi hl2 h1 h2 h3 h4 i1 i2
        show (lo + hi + 16 * (hi + l2) + 256 * (x' + x2)) % 16 = _
        omega
      rw [e2, e3, hlo, hhi, hx', hx2]
    rw [es]
    generalize (x / 256 / 16 + x / 256 &&& mk2 4 n) = y at *
    have hs : x % 16 + x / 16 % 16 ≤ 8 := by
      have q1 : x % 16 ≤ 4 := h1
      have q2 : x / 16 % 16 ≤ 4 := h2
      omega
    have em : (256 * y + (x % 16 + x / 16 % 16)) % 2 ^ 8 = x % 16 + x / 16 % 16 := by
      generalize x % 16 + x / 16 % 16 = u at *
      show (256 * y + u) % 256 = u
      rw [Nat.mul_add_mod]; exact Nat.mod_eq_of_lt (by omega)
    have ed : (256 * y + (x % 16 + x / 16 % 16)) / 2 ^ 8 = y := by
      generalize x % 16 + x / 16 % 16 = u at *
      show (256 * y + u) / 256 = y
      rw [Nat.mul_add_div (by omega), Nat.div_eq_of_lt (by omega), Nat.add_zero]
    refine ⟨⟨by rw [em]; omega, by rw [ed]; exact i1⟩, ?_⟩
    show _ % 2 ^ 8 + popD 8 n (_ / 2 ^ 8) = x % 2 ^ 4 + (x / 2 ^ 4 % 2 ^ 4 + popD 4 (2 * n) (x / 2 ^ 4 / 2 ^ 4))
    rw [em, ed, i2, e0]
    omega
theorem ls1 {c0 c1 c2 c3 c4 c5 c6 c7 y1 y2 y3 y4 y5 y6 : Nat} (h1 : y1 = c1 + 256 * y2) (h2 : y2 = c2 + 256 * y3) (h3 : y3 = c3 + 256 * y4) (h4 : y4 = c4 + 256 * y5) (h5 : y5 = c5 + 256 * y6) (h6 : y6 = c6 + 256 * c7) : y1 = c1 + 256 * c2 + 65536 * c3 + 16777216 * c4 + 4294967296 * c5 + 1099511627776 * c6 + 281474976710656 * c7 := by omega
theorem ls2 {x y c : Nat} (h : x = c + 256 * y) (b : c ≤ 8) : x / 256 = y := by omega
theorem ls3 {x c0 c1 c2 c3 c4 c5 c6 c7 : Nat} (h : x = c0 + 256 * (c1 + 256 * c2 + 65536 * c3 + 16777216 * c4 + 4294967296 * c5 + 1099511627776 * c6 + 281474976710656 * c7)) (b0 : c0 ≤ 8) (b1 : c1 ≤ 8) (b2 : c2 ≤ 8) (b3 : c3 ≤ 8) (b4 : c4 ≤ 8) (b5 : c5 ≤ 8) (b6 : c6 ≤ 8) (b7 : c7 ≤ 8) : x < 1152921504606846976 := by omega
theorem ls4 {x y1 c0 c1 c2 c3 c4 c5 c6 c7 : Nat} (h : x = c0 + 256 * y1) (k : y1 = c1 + 256 * c2 + 65536 * c3 + 16777216 * c4 + 4294967296 * c5 + 1099511627776 * c6 + 281474976710656 * c7) : x + y1 = ((c0 + c1) + 256 * (c1 + c2)) + 65536 * ((c2 + c3) + 256 * (c3 + c4) + 65536 * (c4 + c5) + 16777216 * (c5 + c6) + 4294967296 * (c6 + c7) + 1099511627776 * c7) := by omega
theorem ls5 {p u q : Nat} (h : p = u + 65536 * q) (hu : u < 65536) (hq : q < 17592186044416) : p / 65536 = q ∧ p < 1152921504606846976 := by omega
theorem ls6 {c0 c1 c2 : Nat} (b0 : c0 ≤ 8) (b1 : c1 ≤ 8) (b2 : c2 ≤ 8) : (c0 + c1) + 256 * (c1 + c2) < 65536 := by omega
theorem ls7 {c2 c3 c4 c5 c6 c7 : Nat} (b2 : c2 ≤ 8) (b3 : c3 ≤ 8) (b4 : c4 ≤ 8) (b5 : c5 ≤ 8) (b6 : c6 ≤ 8) (b7 : c7 ≤ 8) : (c2 + c3) + 256 * (c3 + c4) + 65536 * (c4 + c5) + 16777216 * (c5 + c6) + 4294967296 * (c6 + c7) + 1099511627776 * c7 < 17592186044416 := by omega
theorem ls8 {p q c0 c1 c2 c3 c4 c5 c6 c7 : Nat} (h : p = ((c0 + c1) + 256 * (c1 + c2)) + 65536 * q) (k : (c2 + c3) + 256 * (c3 + c4) + 65536 * (c4 + c5) + 16777216 * (c5 + c6) + 4294967296 * (c6 + c7) + 1099511627776 * c7 = q) : p + q = ((c0 + c1 + c2 + c3) + 256 * (c1 + c2 + c3 + c4) + 65536 * (c2 + c3 + c4 + c5) + 16777216 * (c3 + c4 + c5 + c6)) + 4294967296 * ((c4 + c5 + c6 + c7) + 256 * (c5 + c6 + c7) + 65536 * (c6 + c7) + 16777216 * c7) := by omega
theorem ls9 {c0 c1 c2 c3 c4 c5 c6 : Nat} (b0 : c0 ≤ 8) (b1 : c1 ≤ 8) (b2 : c2 ≤ 8) (b3 : c3 ≤ 8) (b4 : c4 ≤ 8) (b5 : c5 ≤ 8) (b6 : c6 ≤ 8) : (c0 + c1 + c2 + c3) + 256 * (c1 + c2 + c3 + c4) + 65536 * (c2 + c3 + c4 + c5) + 16777216 * (c3 + c4 + c5 + c6) < 4294967296 := by omega
theorem ls10 {c4 c5 c6 c7 : Nat} (b4 : c4 ≤ 8) (b5 : c5 ≤ 8) (b6 : c6 ≤ 8) (b7 : c7 ≤ 8) : (c4 + c5 + c6 + c7) + 256 * (c5 + c6 + c7) + 65536 * (c6 + c7) + 16777216 * c7 < 268435456 := by omega
theorem ls11 {r u v : Nat} (h : r = u + 4294967296 * v) (hu : u < 4294967296) (hv : v < 268435456) : r / 4294967296 = v ∧ r < 1152921504606846976 ∧ r + v < 1152921504606846976 + 268435456 := by omega
theorem ls12 {r v c0 c1 c2 c3 c4 c5 c6 c7 : Nat} (h : r = ((c0 + c1 + c2 + c3) + 256 * (c1 + c2 + c3 + c4) + 65536 * (c2 + c3 + c4 + c5) + 16777216 * (c3 + c4 + c5 + c6)) + 4294967296 * v) (k : (c4 + c5 + c6 + c7) + 256 * (c5 + c6 + c7) + 65536 * (c6 + c7) + 16777216 * c7 = v) : r + v = 128 * (2 * (c1 + c2 + c3 + c4) + 512 * (c2 + c3 + c4 + c5) + 131072 * (c3 + c4 + c5 + c6) + 33554432 * v + 2 * (c5 + c6 + c7) + 512 * (c6 + c7) + 131072 * c7) + (c0 + c1 + c2 + c3 + c4 + c5 + c6 + c7) := by omega
theorem ls13 {c0 c1 c2 c3 c4 c5 c6 c7 : Nat} (b0 : c0 ≤ 8) (b1 : c1 ≤ 8) (b2 : c2 ≤ 8) (b3 : c3 ≤ 8) (b4 : c4 ≤ 8) (b5 : c5 ≤ 8) (b6 : c6 ≤ 8) (b7 : c7 ≤ 8) : c0 + c1 + c2 + c3 + c4 + c5 + c6 + c7 < 128 := by omega
theorem last_sum {x c0 c1 c2 c3 c4 c5 c6 c7 y1 y2 y3 y4 y5 y6 : Nat} (h0 : x = c0 + 256 * y1) (h1 : y1 = c1 + 256 * y2) (h2 : y2 = c2 + 256 * y3) (h3 : y3 = c3 + 256 * y4) (h4 : y4 = c4 + 256 * y5) (h5 : y5 = c5 + 256 * y6) (h6 : y6 = c6 + 256 * c7)
    (b0 : c0 ≤ 8) (b1 : c1 ≤ 8) (b2 : c2 ≤ 8) (b3 : c3 ≤ 8) (b4 : c4 ≤ 8) (b5 : c5 ≤ 8) (b6 : c6 ≤ 8) (b7 : c7 ≤ 8) : x < 1152921504606846976 ∧ x + x / 256 < 1152921504606846976 ∧ (x + x / 256) + (x + x / 256) / 65536 < 1152921504606846976 ∧ ((x + x / 256) + (x + x / 256) / 65536) + ((x + x / 256) + (x + x / 256) / 65536) / 4294967296 < 1152921504606846976 + 268435456 ∧
    (((x + x / 256) + (x + x / 256) / 65536) + ((x + x / 256) + (x + x / 256) / 65536) / 4294967296) % 128 = c0 + c1 + c2 + c3 + c4 + c5 + c6 + c7 := by
  have f1 := ls1 (c0 := c0) h1 h2 h3 h4 h5 h6
  have hx : x < 1152921504606846976 := ls3 (h0.trans (by rw [f1])) b0 b1 b2 b3 b4 b5 b6 b7
  rw [ls2 h0 b0]
  have s1 := ls4 h0 f1
  obtain ⟨q, hq⟩ : ∃ q, (c2 + c3) + 256 * (c3 + c4) + 65536 * (c4 + c5) + 16777216 * (c5 + c6) + 4294967296 * (c6 + c7) + 1099511627776 * c7 = q := ⟨_, rfl⟩
  have hqb := ls7 b2 b3 b4 b5 b6 b7
  rw [hq] at s1 hqb
  generalize x + y1 = p at *
  have d1 := ls5 s1 (ls6 b0 b1 b2) hqb
  rw [d1.1]
  have s2 := ls8 s1 hq
  obtain ⟨v, hv⟩ : ∃ v, (c4 + c5 + c6 + c7) + 256 * (c5 + c6 + c7) + 65536 * (c6 + c7) + 16777216 * c7 = v := ⟨_, rfl⟩
  have hvb := ls10 b4 b5 b6 b7
  rw [hv] at s2 hvb
  generalize p + q = r at *
  have d2 := ls11 s2 (ls9 b0 b1 b2 b3 b4 b5 b6) hvb
  rw [d2.1]
  refine ⟨hx, d1.2, d2.2.1, d2.2.2, ?_⟩
  rw [ls12 s2 hv, Nat.mul_add_mod, Nat.mod_eq_of_lt (ls13 b0 b1 b2 b3 b4 b5 b6 b7)]
/-- The last stage: the bytes are added up. -/
theorem pop_last {x : Nat} (h : DigOk 8 8 8 x) : x < 1152921504606846976 ∧ x + x / 256 < 1152921504606846976 ∧ (x + x / 256) + (x + x / 256) / 65536 < 1152921504606846976 ∧ ((x + x / 256) + (x + x / 256) / 65536) + ((x + x / 256) + (x + x / 256) / 65536) / 4294967296 < 1152921504606846976 + 268435456 ∧
    (((x + x / 256) + (x + x / 256) / 65536) + ((x + x / 256) + (x + x / 256) / 65536) / 4294967296) % 128 = popD 8 8 x := by
  obtain ⟨a0, a1, a2, a3, a4, a5, a6, a7, a8⟩ := h
  have a9 : x / 2 ^ 8 / 2 ^ 8 / 2 ^ 8 / 2 ^ 8 / 2 ^ 8 / 2 ^ 8 / 2 ^ 8 / 2 ^ 8 = 0 := a8
  have st : ∀ z : Nat, z = z % 2 ^ 8 + 256 * (z / 2 ^ 8) := fun z => (Nat.mod_add_div z 256).symm
  have l := last_sum (st x) (st (x / 2 ^ 8)) (st (x / 2 ^ 8 / 2 ^ 8)) (st (x / 2 ^ 8 / 2 ^ 8 / 2 ^ 8)) (st (x / 2 ^ 8 / 2 ^ 8 / 2 ^ 8 / 2 ^ 8)) (st (x / 2 ^ 8 / 2 ^ 8 / 2 ^ 8 / 2 ^ 8 / 2 ^ 8)) (c7 := x / 2 ^ 8 / 2 ^ 8 / 2 ^ 8 / 2 ^ 8 / 2 ^ 8 / 2 ^ 8 / 2 ^ 8 % 2 ^ 8) (by
      have h7 := st (x / 2 ^ 8 / 2 ^ 8 / 2 ^ 8 / 2 ^ 8 / 2 ^ 8 / 2 ^ 8 / 2 ^ 8)
      rw [a9, Nat.mul_zero, Nat.add_zero] at h7
      rw [← h7]
      exact st _) a0 a1 a2 a3 a4 a5 a6 a7
  refine ⟨l.1, l.2.1, l.2.2.1, l.2.2.2.1, ?_⟩
  rw [l.2.2.2.2]
  simp only [popD, Nat.add_zero, Nat.add_assoc]
/-- The bits of x below n. -/
def cntB (x : Nat) : Nat → Nat
  | 0 => 0
  | n + 1 => cntB x n + if x.testBit n then 1 else 0
theorem cntB_le (x : Nat) : ∀ n, cntB x n ≤ n
  | 0 => Nat.le_refl _
  | n + 1 => by
    have := cntB_le x n
    unfold cntB
    split <;> omega
theorem popD_snoc : ∀ (n x : Nat), popD 1 (n + 1) x = popD 1 n x + x / 2 ^ n % 2
  | 0, x => by simp [popD]
  | n + 1, x => by
    have ih := popD_snoc n (x / 2 ^ 1)
    show x % 2 ^ 1 + popD 1 (n + 1) (x / 2 ^ 1) = (x % 2 ^ 1 + popD 1 n (x / 2 ^ 1)) + x / 2 ^ (n + 1) % 2
    rw [ih, Nat.div_div_eq_div_mul, ← Nat.pow_add, Nat.add_comm 1 n]
    omega
theorem cntB_pop (x : Nat) : ∀ n, cntB x n = popD 1 n x
  | 0 => rfl
  | n + 1 => by
    rw [popD_snoc, ← cntB_pop x n]
    show cntB x n + (if x.testBit n then 1 else 0) = _
    rw [Nat.testBit_eq_decide_div_mod_eq]
    by_cases h : x / 2 ^ n % 2 = 1
    · rw [h]; simp
    · rw [show x / 2 ^ n % 2 = 0 by omega]; simp
end Go.Proofs.YtnabbmdhhddfbaaDoor
