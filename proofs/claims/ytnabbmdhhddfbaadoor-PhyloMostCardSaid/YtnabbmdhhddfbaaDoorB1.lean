/- The first of the longest lists without conflicts: plain. -/
import Derived.Test.YtnabbmdhhddfbaaDoorA5
namespace Go.Proofs.YtnabbmdhhddfbaaDoor
open Go.RowKit Go.Shelf
theorem fitB_symm (x y : Nat) : fitB x y = fitB y x := by
  unfold fitB
  rw [Nat.and_comm y x, Bool.or_assoc, Bool.or_assoc, Bool.or_comm (decide (x &&& y = x))]
/-- The longer list; the first of two that are as long. -/
def updL (b x : List Nat) : List Nat := if b.length < x.length then x else b
/-- Number i has no conflict with those of l. -/
def okL (has : List Nat) (l : List Nat) (i : Nat) : Bool := l.all fun k => fitB (vA has k) (vA has i)
/-- The lists that go on from l with the last r numbers. -/
def goB (has : List Nat) : Nat → List Nat → List Nat → List Nat
  | 0, _, best => best
  | r + 1, l, best => goB has r l (if okL has l (has.length - (r + 1)) then goB has r (l ++ [has.length - (r + 1)]) (updL best (l ++ [has.length - (r + 1)])) else best)
/-- The same in the document's order. -/
def dsc (has : List Nat) : Nat → List Nat → List (List Nat)
  | 0, l => [l]
  | r + 1, l => (if okL has l (has.length - (r + 1)) then dsc has r (l ++ [has.length - (r + 1)]) else []) ++ dsc has r l
theorem dsc_len (has : List Nat) : ∀ r l x, x ∈ dsc has r l → l.length ≤ x.length := by
  intro r
  induction r with
  | zero => intro l x hx; rw [dsc, List.mem_singleton] at hx; subst hx; exact Nat.le_refl _
  | succ r ih =>
    intro l x hx
    rw [dsc, List.mem_append] at hx
    rcases hx with hx | hx
    · split at hx
      · have := ih _ _ hx
        rw [List.length_append, List.length_singleton] at this; omega
      · cases hx
    · exact ih _ _ hx
theorem dsc_self (has : List Nat) : ∀ r l, l ∈ dsc has r l := by
  intro r
  induction r with
  | zero => intro l; simp [dsc]
  | succ r ih => intro l; rw [dsc, List.mem_append]; exact .inr (ih l)
theorem upd_ge (b x : List Nat) : b.length ≤ (updL b x).length ∧ x.length ≤ (updL b x).length := by
  unfold updL; split <;> omega
theorem fold_ge (xs : List (List Nat)) : ∀ b, b.length ≤ (xs.foldl updL b).length ∧ ∀ x, x ∈ xs → x.length ≤ (xs.foldl updL b).length := by
  induction xs with
  | nil => intro b; exact ⟨Nat.le_refl _, fun x hx => by cases hx⟩
  | cons y xs ih =>
    intro b
    obtain ⟨h1, h2⟩ := ih (updL b y)
    have h3 := upd_ge b y
    refine ⟨by rw [List.foldl_cons]; omega, fun x hx => ?_⟩
    rw [List.foldl_cons]
    rcases List.mem_cons.1 hx with rfl | hx
    · omega
    · exact h2 x hx
theorem fold_mem (xs : List (List Nat)) : ∀ b, xs.foldl updL b = b ∨ xs.foldl updL b ∈ xs := by
  induction xs with
  | nil => intro b; exact .inl rfl
  | cons y xs ih =>
    intro b
    rw [List.foldl_cons]
    rcases ih (updL b y) with h | h
    · rw [h]
      unfold updL
      split
      · right; simp
      · left; rfl
    · right; exact List.mem_cons_of_mem _ h
theorem fold_same (xs : List (List Nat)) (b c : List Nat) (hne : xs ≠ []) (h : ∀ x, x ∈ xs → b.length < x.length ∧ c.length < x.length) : xs.foldl updL b = xs.foldl updL c := by
  cases xs with
  | nil => exact absurd rfl hne
  | cons y ys =>
    have hy := h y (by simp)
    rw [List.foldl_cons, List.foldl_cons, updL, updL, if_pos hy.1, if_pos hy.2]
theorem goB_dsc (has : List Nat) : ∀ r l best, goB has r l (updL best l) = (dsc has r l).foldl updL best := by
  intro r
  induction r with
  | zero => intro l best; rfl
  | succ r ih =>
    intro l best
    rw [goB, dsc]
    by_cases q : okL has l (has.length - (r + 1)) = true
    · rw [if_pos q, if_pos q, List.foldl_append, ih]
      generalize has.length - (r + 1) = i
      have e1 : (dsc has r (l ++ [i])).foldl updL (updL best l) = (dsc has r (l ++ [i])).foldl updL best := by
        unfold updL
        split
        · refine fold_same _ _ _ (fun e => by have := dsc_self has r (l ++ [i]); rw [e] at this; cases this) fun x hx => ?_
          have := dsc_len has r _ x hx
          rw [List.length_append, List.length_singleton] at this; omega
        · rfl
      have e2 : updL ((dsc has r (l ++ [i])).foldl updL best) l = (dsc has r (l ++ [i])).foldl updL best := by
        have := (fold_ge (dsc has r (l ++ [i])) best).2 _ (dsc_self has r (l ++ [i]))
        rw [List.length_append, List.length_singleton] at this
        rw [updL, if_neg (by omega)]
      have h3 := ih l ((dsc has r (l ++ [i])).foldl updL best)
      rw [e2] at h3
      rw [e1, h3]
    · rw [if_neg q, if_neg q, List.nil_append, ih]
/-- What Largest answers. -/
def bigL (has : List Nat) : List Nat := goB has has.length [] []
theorem bigL_dsc (has : List Nat) : bigL has = (dsc has has.length []).foldl updL [] := by
  rw [← goB_dsc]; rfl
/-- The numbers of the innovations that x takes, of the first k; the highest bit is innovation 0. -/
def bitsL (n x k : Nat) : List Nat := (List.range k).filter fun i => x.testBit (n - 1 - i)
/-- No two of them have a conflict. -/
def cmpL (has : List Nat) (l : List Nat) : Bool := (List.range l.length).all fun i => (List.range i).all fun k => fitB (vA has (vA l i)) (vA has (vA l k))
/-- The document's best after it looked at the numbers from x on down. -/
def docB (has : List Nat) (x : Nat) (best : List Nat) : List Nat := if cmpL has (bitsL has.length x has.length) then updL best (bitsL has.length x has.length) else best
theorem cmpL_snoc (has l : List Nat) (i : Nat) : cmpL has (l ++ [i]) = (cmpL has l && okL has l i) := by
  have e1 : ∀ j, j < l.length → vA (l ++ [i]) j = vA l j := fun j hj => by simp [vA, List.getElem?_append_left hj]
  have e2 : vA (l ++ [i]) l.length = i := by simp [vA]
  unfold cmpL
  rw [List.length_append, List.length_singleton, List.range_succ, List.all_append]
  congr 1
  · apply Bool.eq_iff_iff.2
    simp only [List.all_eq_true, List.mem_range]
    constructor
    · intro h j hj k hk
      have := h j hj k hk
      rwa [e1 j hj, e1 k (by omega)] at this
    · intro h j hj k hk
      rw [e1 j hj, e1 k (by omega)]; exact h j hj k hk
  · unfold okL
    apply Bool.eq_iff_iff.2
    simp only [List.all_cons, List.all_nil, Bool.and_true, List.all_eq_true, List.mem_range, e2]
    constructor
    · intro h x hx
      obtain ⟨k, hk, rfl⟩ := List.mem_iff_getElem.1 hx
      have := h k hk
      rw [e1 k hk, fitB_symm, vA_get hk] at this
      exact this
    · intro h k hk
      rw [e1 k hk, fitB_symm, vA_get hk]
      exact h _ (List.getElem_mem hk)
/-- The document's numbers from hi 2^r on, r bits, downwards. -/
def docR (has : List Nat) : Nat → Nat → List Nat → List Nat
  | 0, hi, best => docB has hi best
  | r + 1, hi, best => docR has r (2 * hi) (docR has r (2 * hi + 1) best)
theorem bitsL_shift (n hi r k : Nat) (hk : k + r ≤ n) (lo : Nat) (hlo : lo < 2 ^ r) : bitsL n (hi * 2 ^ r + lo) k = bitsL n (hi * 2 ^ r) k := by
  unfold bitsL
  apply List.filter_congr
  intro i hi'
  have := List.mem_range.1 hi'
  rw [Nat.mul_comm, Nat.testBit_two_pow_mul_add _ hlo, if_neg (by omega), Nat.testBit_two_pow_mul]
  simp [show r ≤ n - 1 - i by omega]
theorem bitsL_step (n hi r : Nat) (hr : r + 1 ≤ n) : bitsL n ((2 * hi + 1) * 2 ^ r) (n - r) = bitsL n (hi * 2 ^ (r + 1)) (n - (r + 1)) ++ [n - (r + 1)] ∧ bitsL n (2 * hi * 2 ^ r) (n - r) = bitsL n (hi * 2 ^ (r + 1)) (n - (r + 1)) := by
  have e1 : hi * 2 ^ (r + 1) = 2 * hi * 2 ^ r := by rw [Nat.pow_succ]; rw [Nat.mul_comm 2 hi, Nat.mul_assoc, Nat.mul_comm 2]
  have hx : ∀ y, bitsL n y (n - r) = bitsL n y (n - (r + 1)) ++ (if y.testBit r then [n - (r + 1)] else []) := by
    intro y
    unfold bitsL
    rw [show n - r = n - (r + 1) + 1 by omega, List.range_succ, List.filter_append]
    congr 1
    rw [List.filter_cons, show n - 1 - (n - (r + 1)) = r by omega]
    rfl
  constructor
  · rw [hx, show (2 * hi + 1) * 2 ^ r = hi * 2 ^ (r + 1) + 2 ^ r by rw [e1, Nat.add_mul, Nat.one_mul], bitsL_shift n hi (r + 1) (n - (r + 1)) (by omega) (2 ^ r) (by rw [Nat.pow_succ]; have := Nat.two_pow_pos r; omega)]
    rw [if_pos]
    rw [show hi * 2 ^ (r + 1) + 2 ^ r = 2 ^ (r + 1) * hi + 2 ^ r by rw [Nat.mul_comm], Nat.testBit_two_pow_mul_add _ (by rw [Nat.pow_succ]; have := Nat.two_pow_pos r; omega), if_pos (by omega), Nat.testBit_two_pow_self]
  · rw [hx, ← e1, if_neg, List.append_nil]
    rw [Nat.mul_comm, Nat.testBit_two_pow_mul]
    simp
    omega
theorem docR_dsc (has : List Nat) : ∀ r hi best, r ≤ has.length → docR has r hi best = if cmpL has (bitsL has.length (hi * 2 ^ r) (has.length - r)) then (dsc has r (bitsL has.length (hi * 2 ^ r) (has.length - r))).foldl updL best else best := by
  intro r
  induction r with
  | zero =>
    intro hi best _
    rw [docR, docB, dsc, Nat.pow_zero, Nat.mul_one]; rfl
  | succ r ih =>
    intro hi best hr
    obtain ⟨s1, s2⟩ := bitsL_step has.length hi r hr
    rw [docR, ih _ _ (by omega), ih _ _ (by omega), s1, s2, cmpL_snoc, dsc]
    generalize bitsL has.length (hi * 2 ^ (r + 1)) (has.length - (r + 1)) = l
    generalize has.length - (r + 1) = i
    by_cases q : cmpL has l = true
    · rw [q, if_pos rfl, if_pos rfl]
      by_cases q2 : okL has l i = true
      · rw [q2, if_pos (by rfl), if_pos rfl, List.foldl_append]
      · rw [Bool.eq_false_iff.2 q2]; rfl
    · rw [Bool.eq_false_iff.2 q]; rfl
/-- From x on down to 1. -/
def docD (has : List Nat) : Nat → List Nat → List Nat
  | 0, best => best
  | x + 1, best => docD has x (docB has (x + 1) best)
/-- k numbers from a + k on down to a + 1 (all that are greater than a). -/
def docS (has : List Nat) (a : Nat) : Nat → List Nat → List Nat
  | 0, best => best
  | k + 1, best => docS has a k (docB has (a + k) best)
theorem docS_add (has : List Nat) (a m : Nat) : ∀ k best, docS has a (m + k) best = docS has a m (docS has (a + m) k best) := by
  intro k
  induction k with
  | zero => intro best; rfl
  | succ k ih =>
    intro best
    show docS has a (m + k) (docB has (a + (m + k)) best) = docS has a m (docS has (a + m) k (docB has (a + m + k) best))
    rw [ih, Nat.add_assoc]
theorem docR_docS (has : List Nat) : ∀ r hi best, docR has r hi best = docS has (hi * 2 ^ r) (2 ^ r) best := by
  intro r
  induction r with
  | zero => intro hi best; rw [docR, Nat.pow_zero, Nat.mul_one]; rfl
  | succ r ih =>
    intro hi best
    rw [docR, ih, ih, Nat.pow_succ, show 2 ^ r * 2 = 2 ^ r + 2 ^ r by omega, docS_add]
    congr 1
    · rw [Nat.mul_add, Nat.mul_comm 2 hi, Nat.mul_assoc, Nat.two_mul, Nat.mul_add]
    · congr 1
      rw [Nat.add_mul, Nat.one_mul, Nat.mul_add, Nat.mul_comm 2 hi, Nat.mul_assoc, Nat.two_mul, Nat.mul_add]
theorem docD_S (has : List Nat) : ∀ x best, docS has 0 (x + 1) best = docB has 0 (docD has x best) := by
  intro x
  induction x with
  | zero => intro best; rfl
  | succ x ih =>
    intro best
    show docS has 0 (x + 1) (docB has (0 + (x + 1)) best) = docB has 0 (docD has x (docB has (x + 1) best))
    rw [ih, Nat.zero_add]
theorem docB_zero (has best : List Nat) : docB has 0 best = best := by
  have e : bitsL has.length 0 has.length = [] := by unfold bitsL; simp
  unfold docB
  rw [e]
  show (if cmpL has [] then updL best [] else best) = best
  split
  · rw [updL, if_neg (by simp)]
  · rfl
/-- The document's list is the program's. -/
theorem docD_big (has : List Nat) : docD has (2 ^ has.length - 1) [] = bigL has := by
  have h1 := docD_S has (2 ^ has.length - 1) []
  rw [docB_zero, Nat.sub_add_cancel (Nat.two_pow_pos _)] at h1
  rw [← h1, bigL_dsc]
  have h2 := docR_docS has has.length 0 []
  rw [Nat.zero_mul] at h2
  rw [← h2, docR_dsc has has.length 0 [] (Nat.le_refl _), Nat.sub_self]
  rfl
end Go.Proofs.YtnabbmdhhddfbaaDoor
