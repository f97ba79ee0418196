/- Plain laws: the pairs of clusters, the nearest of them, the steps of a clustering by sizes and a table. -/
import Derived.Test.YtahgffjkkdbjeaaDoorP4
import Derived.Test.YtahgffjkkdbjeaaDoorP0
namespace Go.Proofs.YtahgffjkkdbjeaaDoor
open Go.RowKit
/-- The pairs of cluster a with those below k. -/
def rowP (s : Nat → Nat) (a k : Nat) : List (Nat × Nat) := ((List.range k).filter fun y => decide (a < y) && decide (0 < s y)).map fun y => (a, y)
/-- The pairs of clusters below n, the first one below a. -/
def prs (s : Nat → Nat) (n : Nat) : Nat → List (Nat × Nat)
  | 0 => []
  | a + 1 => prs s n a ++ if 0 < s a then rowP s a n else []
theorem rowP_skip (s : Nat → Nat) (a k : Nat) (h : ¬ (a < k ∧ 0 < s k)) : rowP s a (k + 1) = rowP s a k := by
  have e : (decide (a < k) && decide (0 < s k)) = false := by
    by_cases h1 : a < k
    · have : ¬ 0 < s k := fun h2 => h ⟨h1, h2⟩
      simp [this]
    · simp [h1]
  simp [rowP, List.range_succ, List.filter_append, e]
theorem rowP_next (s : Nat → Nat) (a k : Nat) (h : a < k) (h2 : 0 < s k) : rowP s a (k + 1) = rowP s a k ++ [(a, k)] := by
  have e : (decide (a < k) && decide (0 < s k)) = true := by simp [h, h2]
  simp [rowP, List.range_succ, List.filter_append, e]
theorem rowP_low (s : Nat → Nat) (a : Nat) : ∀ k, k ≤ a + 1 → rowP s a k = []
  | 0, _ => rfl
  | k + 1, h => by rw [rowP_skip s a k (by omega)]; exact rowP_low s a k (by omega)
theorem rowP_len (s : Nat → Nat) (a k : Nat) : (rowP s a k).length ≤ k := by
  unfold rowP
  rw [List.length_map]
  exact Nat.le_trans (List.length_filter_le _ _) (by simp)
theorem prs_len (s : Nat → Nat) (n : Nat) (hn : n ≤ 24) : ∀ a, (prs s n a).length ≤ a * 24
  | 0 => by simp [prs]
  | a + 1 => by
    have := prs_len s n hn a
    have h2 := rowP_len s a n
    rw [prs, List.length_append]
    split
    · omega
    · simp only [List.length_nil]; omega
theorem mem_rowP {s : Nat → Nat} {a k : Nat} {p : Nat × Nat} : p ∈ rowP s a k ↔ p.1 = a ∧ a < p.2 ∧ p.2 < k ∧ 0 < s p.2 := by
  obtain ⟨x, y⟩ := p
  simp only [rowP, List.mem_map, List.mem_filter, List.mem_range, Bool.and_eq_true, decide_eq_true_eq, Prod.mk.injEq]
  constructor
  · rintro ⟨z, ⟨h1, h2, h3⟩, rfl, rfl⟩; exact ⟨rfl, h2, h1, h3⟩
  · rintro ⟨rfl, h2, h1, h3⟩; exact ⟨y, ⟨h1, h2, h3⟩, rfl, rfl⟩
theorem mem_prs {s : Nat → Nat} {n : Nat} {p : Nat × Nat} : ∀ {a : Nat}, p ∈ prs s n a ↔ p.1 < a ∧ 0 < s p.1 ∧ p.1 < p.2 ∧ p.2 < n ∧ 0 < s p.2
  | 0 => by simp [prs]
  | a + 1 => by
    rw [prs, List.mem_append, mem_prs (a := a)]
    by_cases h : 0 < s a
    · rw [if_pos h, mem_rowP]
      constructor
      · rintro (⟨h1, h2⟩ | ⟨h1, h2⟩)
        · exact ⟨by omega, h2⟩
        · rw [h1]; exact ⟨by omega, h, h2⟩
      · rintro ⟨h1, h2, h3⟩
        by_cases e : p.1 = a
        · right; exact ⟨e, by omega, h3.2⟩
        · left; exact ⟨by omega, h2, h3⟩
    · rw [if_neg h]
      constructor
      · rintro (⟨h1, h2⟩ | h1)
        · exact ⟨by omega, h2⟩
        · cases h1
      · rintro ⟨h1, h2, h3⟩
        by_cases e : p.1 = a
        · rw [e] at h2; exact absurd h2 h
        · left; exact ⟨by omega, h2, h3⟩
/-- How many pairs of languages two clusters have. -/
def cnt (s : Nat → Nat) (a b : Nat) : Nat := s a * s b
theorem cnt_le {s : Nat → Nat} (hs : ∀ k, s k ≤ 24) (a b : Nat) : cnt s a b ≤ 576 := Nat.mul_le_mul (hs a) (hs b)
/-- One join of two clusters is nearer than another one. -/
def nearB (s f : Nat → Nat) (a b i j : Nat) : Bool := decide (f (a * 24 + b) * cnt s i j < f (i * 24 + j) * cnt s a b)
/-- The nearest pair so far. -/
def stepB (s f : Nat → Nat) (o : Option (Nat × Nat)) (x : Nat × Nat) : Option (Nat × Nat) := match o with
  | none => some x
  | some p => if nearB s f x.1 x.2 p.1 p.2 = true then some x else some p
def bestP (s f : Nat → Nat) (l : List (Nat × Nat)) : Option (Nat × Nat) := l.foldl (stepB s f) none
theorem bestP_snoc (s f : Nat → Nat) (l : List (Nat × Nat)) (x : Nat × Nat) : bestP s f (l ++ [x]) = stepB s f (bestP s f l) x := by simp [bestP]
theorem bestP_some (s f : Nat → Nat) : ∀ (l : List (Nat × Nat)) (o : Option (Nat × Nat)), (∃ p, l.foldl (stepB s f) o = some p ∧ (p ∈ l ∨ o = some p)) ∨ (l = [] ∧ o = none)
  | [], none => .inr ⟨rfl, rfl⟩
  | [], some p => .inl ⟨p, rfl, .inr rfl⟩
  | x :: l, o => by
    left
    rw [List.foldl_cons]
    have hs : stepB s f o x = some x ∨ (stepB s f o x = o ∧ ∃ p, o = some p) := by
      unfold stepB
      cases o with
      | none => exact .inl rfl
      | some p =>
        simp only
        split
        · exact .inl rfl
        · exact .inr ⟨rfl, p, rfl⟩
    rcases bestP_some s f l (stepB s f o x) with ⟨p, h1, h2⟩ | ⟨rfl, h2⟩
    · refine ⟨p, h1, ?_⟩
      rcases h2 with h2 | h2
      · exact .inl (List.mem_cons_of_mem _ h2)
      · rcases hs with h3 | ⟨h3, _⟩
        · rw [h3] at h2; left; rw [Option.some.inj h2]; exact List.mem_cons_self
        · right; rw [← h3]; exact h2
    · rcases hs with h3 | ⟨h3, p, h4⟩
      · rw [h3] at h2; cases h2
      · rw [h3, h4] at h2; cases h2
theorem bestP_mem {s f : Nat → Nat} {l : List (Nat × Nat)} (h : l ≠ []) : ∃ p, bestP s f l = some p ∧ p ∈ l := by
  rcases bestP_some s f l none with ⟨p, h1, h2 | h2⟩ | ⟨h1, _⟩
  · exact ⟨p, h1, h2⟩
  · cases h2
  · exact absurd h1 h
/-- Sums over the first n. -/
def sumN (s : Nat → Nat) : Nat → Nat
  | 0 => 0
  | n + 1 => sumN s n + s n
theorem sumN_congr {s t : Nat → Nat} : ∀ {n : Nat}, (∀ a, a < n → s a = t a) → sumN s n = sumN t n
  | 0, _ => rfl
  | n + 1, h => by rw [sumN, sumN, h n (by omega), sumN_congr fun a ha => h a (by omega)]
theorem sumN_upd (s : Nat → Nat) {p v : Nat} : ∀ {n : Nat}, p < n → sumN (updN s p v) n + s p = sumN s n + v
  | 0, h => by omega
  | n + 1, h => by
    rw [sumN, sumN]
    by_cases e : p = n
    · subst e
      rw [updN_same, sumN_congr (t := s) fun a ha => updN_other s v (by omega)]
      omega
    · rw [updN_other _ _ (by omega)]
      have := sumN_upd s (v := v) (show p < n by omega)
      omega
theorem sumN_one (s : Nat → Nat) {p : Nat} : ∀ {n : Nat}, p < n → s p ≤ sumN s n
  | 0, h => by omega
  | n + 1, h => by
    rw [sumN]
    by_cases e : p = n
    · subst e; omega
    · have := sumN_one s (show p < n by omega); omega
theorem sumN_two (s : Nat → Nat) {p q : Nat} (hpq : p < q) : ∀ {n : Nat}, q < n → s p + s q ≤ sumN s n
  | 0, h => by omega
  | n + 1, h => by
    rw [sumN]
    by_cases e : q = n
    · subst e; have := sumN_one s hpq; omega
    · have := sumN_two s hpq (show q < n by omega); omega
/-- Which clusters there are. -/
def ind (s : Nat → Nat) : Nat → Nat := fun a => if 0 < s a then 1 else 0
theorem ind_upd (s : Nat → Nat) (p v : Nat) : ind (updN s p v) = updN (ind s) p (if 0 < v then 1 else 0) := by
  funext a
  unfold ind updN
  by_cases e : a = p
  · rw [if_pos e, if_pos e]
  · rw [if_neg e, if_neg e]
theorem ind_one {s : Nat → Nat} : ∀ {n : Nat}, 1 ≤ sumN (ind s) n → ∃ x, x < n ∧ 0 < s x
  | 0, h => by simp [sumN] at h
  | n + 1, h => by
    by_cases e : 0 < s n
    · exact ⟨n, by omega, e⟩
    · rw [sumN, show ind s n = 0 from if_neg e] at h
      obtain ⟨x, h1, h2⟩ := ind_one (s := s) (n := n) (by omega)
      exact ⟨x, by omega, h2⟩
theorem ind_two {s : Nat → Nat} : ∀ {n : Nat}, 2 ≤ sumN (ind s) n → ∃ x y, x < y ∧ y < n ∧ 0 < s x ∧ 0 < s y
  | 0, h => by simp [sumN] at h
  | n + 1, h => by
    by_cases e : 0 < s n
    · rw [sumN, show ind s n = 1 from if_pos e] at h
      obtain ⟨x, h1, h2⟩ := ind_one (s := s) (n := n) (by omega)
      exact ⟨x, n, h1, by omega, h2, e⟩
    · rw [sumN, show ind s n = 0 from if_neg e] at h
      obtain ⟨x, y, h1, h2, h3⟩ := ind_two (s := s) (n := n) (by omega)
      exact ⟨x, y, h1, by omega, h3⟩
/-- What holds of sizes and table after k steps. -/
structure MInv (n k : Nat) (s f : Nat → Nat) : Prop where
  sum : sumN s n = n
  live : sumN (ind s) n + k = n
  out : ∀ a, n ≤ a → s a = 0
  tab : ∀ t, f t ≤ 1073741824 * 2 ^ k
theorem sumN_const : ∀ n, sumN (fun _ => 1) n = n
  | 0 => rfl
  | n + 1 => by rw [sumN, sumN_const n]
theorem MInv.start {n : Nat} {f : Nat → Nat} (hf : ∀ t, f t ≤ 1073741824) : MInv n 0 (aloneS n) f where
  sum := by rw [sumN_congr (s := aloneS n) (t := fun _ => 1) fun a ha => if_pos ha, sumN_const]
  live := by rw [sumN_congr (s := ind (aloneS n)) (t := fun _ => 1) fun a ha => by unfold ind aloneS; rw [if_pos ha]; rfl, sumN_const]; rfl
  out a ha := if_neg (by omega)
  tab t := by have := hf t; omega
theorem MInv.le {n k : Nat} {s f : Nat → Nat} (h : MInv n k s f) (a : Nat) : s a ≤ n := by
  by_cases ha : a < n
  · have := sumN_one s ha; have := h.sum; omega
  · rw [h.out a (by omega)]; exact Nat.zero_le _
theorem MInv.pairs {n k : Nat} {s f : Nat → Nat} (h : MInv n k s f) (hk : k + 1 < n) : prs s n n ≠ [] := by
  obtain ⟨x, y, h1, h2, h3, h4⟩ := ind_two (s := s) (n := n) (by have := h.live; omega)
  intro e
  have := (mem_prs (s := s) (n := n) (a := n) (p := (x, y))).2 ⟨by show x < n; omega, h3, h1, h2, h4⟩
  rw [e] at this
  cases this
theorem MInv.next {n k : Nat} {s f : Nat → Nat} (h : MInv n k s f) (hn : n ≤ 24) {i j : Nat} (hp : (i, j) ∈ prs s n n) : MInv n (k + 1) (joinS s i j) (jw f i j 24) := by
  obtain ⟨h1, h2, h3, h4, h5⟩ := mem_prs.1 hp
  simp only at h1 h2 h3 h4 h5
  have e1 : updN s i (s i + s j) j = s j := updN_other _ _ (by omega)
  refine ⟨?_, ?_, ?_, ?_⟩
  · have a1 := sumN_upd s (v := s i + s j) h1
    have a2 := sumN_upd (updN s i (s i + s j)) (v := 0) h4
    have := h.sum
    rw [e1] at a2
    unfold joinS
    omega
  · have a1 := sumN_upd (ind s) (v := 1) h1
    have a2 := sumN_upd (updN (ind s) i 1) (v := 0) h4
    have b1 : ind s i = 1 := if_pos h2
    have b2 : updN (ind s) i 1 j = 1 := by rw [updN_other _ _ (by omega)]; exact if_pos h5
    have := h.live
    rw [b1] at a1
    rw [b2] at a2
    unfold joinS
    rw [ind_upd, ind_upd, if_pos (by omega), if_neg (by omega)]
    omega
  · intro a ha
    unfold joinS
    rw [updN_other _ _ (by omega), updN_other _ _ (by omega)]
    exact h.out a ha
  · intro t
    have := jw_le f (show i < 24 by omega) (show j < 24 by omega) h3 h.tab 24 (Nat.le_refl _) t
    rw [Nat.pow_succ]
    omega
theorem MInv.bound {n k : Nat} {s f : Nat → Nat} (h : MInv n k s f) (hk : k ≤ 23) : ∀ t, f t ≤ 9007199254740992 := fun t => by
  have h1 := h.tab t
  have h2 : 2 ^ k ≤ 2 ^ 23 := Nat.pow_le_pow_right (by omega) hk
  have h3 : 1073741824 * 2 ^ k ≤ 1073741824 * 2 ^ 23 := Nat.mul_le_mul_left _ h2
  have : (1073741824 * 2 ^ 23 : Nat) = 9007199254740992 := by decide
  omega
/-- The merge of two clusters. -/
def mgOf (c : Nat) (s f : Nat → Nat) (p : Nat × Nat) : Mg := (((p.1 : Int), (p.2 : Int)), lowF ((f (p.1 * 24 + p.2) : Int), ((cnt s p.1 p.2 * c : Nat) : Int)), ((s p.1 + s p.2 : Nat) : Int))
/-- The pair that is joined next. -/
def mPick (n : Nat) (s f : Nat → Nat) : Nat × Nat := (bestP s f (prs s n n)).getD (0, 1)
structure MSt where
  s : Nat → Nat
  f : Nat → Nat
  l : List Mg
/-- k steps of a clustering of n languages whose scaled distances are the table g. -/
def mRun (n c : Nat) (g : Nat → Nat) : Nat → MSt
  | 0 => ⟨aloneS n, g, []⟩
  | k + 1 => let t := mRun n c g k; let p := mPick n t.s t.f; ⟨joinS t.s p.1 p.2, jw t.f p.1 p.2 24, t.l ++ [mgOf c t.s t.f p]⟩
theorem mRun_pick {n c k : Nat} {g : Nat → Nat} (h : MInv n k (mRun n c g k).s (mRun n c g k).f) (hk : k + 1 < n) : bestP (mRun n c g k).s (mRun n c g k).f (prs (mRun n c g k).s n n) = some (mPick n (mRun n c g k).s (mRun n c g k).f) ∧ mPick n (mRun n c g k).s (mRun n c g k).f ∈ prs (mRun n c g k).s n n := by
  obtain ⟨p, h1, h2⟩ := bestP_mem (s := (mRun n c g k).s) (f := (mRun n c g k).f) (h.pairs hk)
  rw [mPick, h1]
  exact ⟨rfl, h2⟩
theorem mRun_inv {n c : Nat} {g : Nat → Nat} (hn : n ≤ 24) (hg : ∀ t, g t ≤ 1073741824) : ∀ k, k < n → MInv n k (mRun n c g k).s (mRun n c g k).f
  | 0, _ => MInv.start hg
  | k + 1, h => by
    have ih := mRun_inv (c := c) hn hg k (by omega)
    exact ih.next hn (mRun_pick ih h).2
theorem mRun_len (n c : Nat) (g : Nat → Nat) : ∀ k, (mRun n c g k).l.length = k
  | 0 => rfl
  | k + 1 => by rw [mRun]; simp [mRun_len n c g k]
end Go.Proofs.YtahgffjkkdbjeaaDoor
