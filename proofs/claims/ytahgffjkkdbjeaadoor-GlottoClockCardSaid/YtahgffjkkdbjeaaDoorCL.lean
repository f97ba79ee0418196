/- Plain: the ultrametric distances that a statement makes of a list of numbers; with one of them made greater they are ultrametric no longer. -/
import Derived.Test.YtahgffjkkdbjeaaDoorZD
namespace Go.Proofs.YtahgffjkkdbjeaaDoor
open Go.RowKit
/-- The greatest of the numbers of k languages behind a. -/
def lnM (l : List Int) (a : Nat) : Nat → Int
  | 0 => 0
  | k + 1 => if l.length = 0 then lnM l a k else max (lnM l a k) (uA l ((a + 1 + k) % l.length))
def lineX (l : List Int) (u : Int) (a b : Nat) : Fr := (lnM l a (b - a), 1 + u % 16)
def lineD (l : List Int) (u : Int) (a b : Nat) : Fr := if a < b then lineX l u a b else if b < a then lineX l u b a else (0, 1)
/-- What is laid when the rows before a, and row a up to b, are done. -/
def lineF (l : List Int) (u : Int) (n a b p : Nat) : Fr :=
  if p / n < p % n ∧ (p / n < a ∨ (p / n = a ∧ p % n < b)) then lineX l u (p / n) (p % n)
  else if p % n < p / n ∧ (p % n < a ∨ (p % n = a ∧ p / n < b)) then lineX l u (p % n) (p / n) else (0, 1)
theorem lineF_zero (l : List Int) (u : Int) (n p : Nat) : lineF l u n 0 0 p = (0, 1) := by
  unfold lineF
  generalize p / n = i
  generalize p % n = j
  rw [if_neg (by omega), if_neg (by omega)]
theorem lineF_head (l : List Int) (u : Int) (n a p : Nat) : lineF l u n a 0 p = lineF l u n a (a + 1) p := by
  unfold lineF
  generalize p / n = i
  generalize p % n = j
  by_cases h1 : i < j ∧ (i < a ∨ (i = a ∧ j < 0))
  · rw [if_pos h1, if_pos (by omega)]
  · rw [if_neg h1, if_neg (c := i < j ∧ (i < a ∨ (i = a ∧ j < a + 1))) (by omega)]
    by_cases h2 : j < i ∧ (j < a ∨ (j = a ∧ i < 0))
    · rw [if_pos h2, if_pos (by omega)]
    · rw [if_neg h2, if_neg (by omega)]
theorem lineF_row (l : List Int) (u : Int) {n a p : Nat} (hp : p < n * n) : lineF l u n a n p = lineF l u n (a + 1) 0 p := by
  have hn : 0 < n := by
    rcases Nat.eq_zero_or_pos n with h | h
    · subst h; simp at hp
    · exact h
  have h1 : p / n < n := (Nat.div_lt_iff_lt_mul hn).2 hp
  have h2 : p % n < n := Nat.mod_lt _ hn
  unfold lineF
  generalize p / n = i at *
  generalize p % n = j at *
  by_cases h1 : i < j ∧ (i < a ∨ (i = a ∧ j < n))
  · rw [if_pos h1, if_pos (by omega)]
  · rw [if_neg h1, if_neg (c := i < j ∧ (i < a + 1 ∨ (i = a + 1 ∧ j < 0))) (by omega)]
    by_cases h2 : j < i ∧ (j < a ∨ (j = a ∧ i < n))
    · rw [if_pos h2, if_pos (by omega)]
    · rw [if_neg h2, if_neg (by omega)]
theorem dv1 {n a b : Nat} (ha : b < n) : (a * n + b) / n = a ∧ (a * n + b) % n = b :=
  ⟨by rw [Nat.mul_comm, Nat.mul_add_div (by omega), Nat.div_eq_of_lt (by omega), Nat.add_zero], by rw [Nat.mul_comm, Nat.mul_add_mod, Nat.mod_eq_of_lt (by omega)]⟩
theorem lineF_next (l : List Int) (u : Int) {n a b : Nat} (hb : b < n) (ha : a < b) (k : Nat) : updF (updF (lineF l u n a b) (a * n + b) (lineX l u a b)) (b * n + a) (lineX l u a b) k = lineF l u n a (b + 1) k := by
  obtain ⟨d1, d2⟩ := dv1 (n := n) (a := a) (b := b) (by omega)
  obtain ⟨d3, d4⟩ := dv1 (n := n) (a := b) (b := a) (by omega)
  unfold updF
  by_cases e1 : k = b * n + a
  · subst e1
    rw [if_pos rfl, lineF, d3, d4, if_neg (by omega), if_pos (by omega)]
  · rw [if_neg e1]
    by_cases e2 : k = a * n + b
    · subst e2
      rw [if_pos rfl, lineF, d1, d2, if_pos (by omega)]
    · rw [if_neg e2]
      have e3 : ¬ (k / n = a ∧ k % n = b) := fun ⟨h1, h2⟩ => e2 (by rw [← h1, ← h2, Nat.mul_comm]; exact (Nat.div_add_mod k n).symm)
      have e4 : ¬ (k / n = b ∧ k % n = a) := fun ⟨h1, h2⟩ => e1 (by rw [← h1, ← h2, Nat.mul_comm]; exact (Nat.div_add_mod k n).symm)
      unfold lineF
      generalize k / n = i at *
      generalize k % n = j at *
      by_cases h1 : i < j ∧ (i < a ∨ (i = a ∧ j < b))
      · rw [if_pos h1, if_pos (by omega)]
      · rw [if_neg h1, if_neg (c := i < j ∧ (i < a ∨ (i = a ∧ j < b + 1))) (by omega)]
        by_cases h2 : j < i ∧ (j < a ∨ (j = a ∧ i < b))
        · rw [if_pos h2, if_pos (by omega)]
        · rw [if_neg h2, if_neg (by omega)]
theorem lineF_all (l : List Int) (u : Int) (n p : Nat) (hp : p < n * n) : lineF l u n n 0 p = lineD l u (p / n) (p % n) := by
  have hn : 0 < n := by
    rcases Nat.eq_zero_or_pos n with h | h
    · subst h; simp at hp
    · exact h
  have h1 : p / n < n := (Nat.div_lt_iff_lt_mul hn).2 hp
  have h2 : p % n < n := Nat.mod_lt _ hn
  unfold lineF lineD
  generalize p / n = i at *
  generalize p % n = j at *
  by_cases e1 : i < j
  · rw [if_pos ⟨e1, .inl h1⟩, if_pos e1]
  · rw [if_neg (fun h => e1 h.1), if_neg e1]
    by_cases e2 : j < i
    · rw [if_pos ⟨e2, .inl h2⟩, if_pos e2]
    · rw [if_neg (fun h => e2 h.1), if_neg e2]
/-- A far table of zeros. -/
theorem far_none (a b : Nat) : farD [0] 0 a b = (0, 1) := by
  have h : ∀ x, uA [0] (x % 1) = 0 := fun x => by rw [Nat.mod_one]; rfl
  unfold farD farX farV
  simp only [List.length_singleton, h]
  split <;> (try split) <;> simp at *
theorem lnM_bd {l : List Int} (hb : ∀ i, i < l.length → 0 ≤ uA l i ∧ uA l i ≤ 65535) (a : Nat) : ∀ k, 0 ≤ lnM l a k ∧ lnM l a k ≤ 65535
  | 0 => by simp [lnM]
  | k + 1 => by
    have ih := lnM_bd hb a k
    unfold lnM
    split
    · exact ih
    · have := hb ((a + 1 + k) % l.length) (Nat.mod_lt _ (by omega))
      omega
/-- The greatest number of a part is at most that of the whole. -/
theorem lnM_le {l : List Int} (a : Nat) : ∀ k j, j ≤ k → lnM l a j ≤ lnM l a k
  | 0, j, h => by rw [show j = 0 by omega]; exact Int.le_refl _
  | k + 1, j, h => by
    by_cases e : j = k + 1
    · rw [e]; exact Int.le_refl _
    · have := lnM_le (l := l) a k j (by omega)
      have h2 : lnM l a k ≤ lnM l a (k + 1) := by
        show lnM l a k ≤ (if l.length = 0 then lnM l a k else max (lnM l a k) (uA l ((a + 1 + k) % l.length)))
        split <;> omega
      omega
theorem lnM_split {l : List Int} (hb : ∀ i, i < l.length → 0 ≤ uA l i ∧ uA l i ≤ 65535) (a j : Nat) : ∀ k, lnM l a (j + k) = max (lnM l a j) (lnM l (a + j) k)
  | 0 => by
    have := (lnM_bd hb a j).1
    rw [Nat.add_zero]
    show _ = max _ 0
    omega
  | k + 1 => by
    have ih := lnM_split hb a j k
    show (if l.length = 0 then lnM l a (j + k) else max (lnM l a (j + k)) (uA l ((a + 1 + (j + k)) % l.length))) = max _ (if l.length = 0 then lnM l (a + j) k else max (lnM l (a + j) k) (uA l ((a + j + 1 + k) % l.length)))
    rw [show a + 1 + (j + k) = a + j + 1 + k by omega]
    generalize uA l ((a + j + 1 + k) % l.length) = z
    split <;> omega
/-- The numbers between two languages. -/
def lnV (l : List Int) (a b : Nat) : Int := if a < b then lnM l a (b - a) else lnM l b (a - b)
theorem lnV_comm (l : List Int) (a b : Nat) : lnV l a b = lnV l b a := by
  unfold lnV
  by_cases h : a < b
  · rw [if_pos h, if_neg (by omega)]
  · rw [if_neg h]
    by_cases h2 : b < a
    · rw [if_pos h2]
    · obtain rfl : a = b := by omega
      rw [if_neg h]
theorem lnV_cut {l : List Int} (hb : ∀ i, i < l.length → 0 ≤ uA l i ∧ uA l i ≤ 65535) {a b c : Nat} (h1 : a ≤ b) (h2 : b ≤ c) : lnV l a c = max (lnV l a b) (lnV l b c) := by
  have e1 : ∀ x y, x ≤ y → lnV l x y = lnM l x (y - x) := fun x y h => by
    unfold lnV
    by_cases e : x < y
    · rw [if_pos e]
    · obtain rfl : x = y := by omega
      rw [if_neg e]
  rw [e1 _ _ (by omega), e1 _ _ h1, e1 _ _ h2]
  have := lnM_split hb a (b - a) (c - b)
  rw [show b - a + (c - b) = c - a by omega, show a + (b - a) = b by omega] at this
  exact this
theorem lnV_ultra {l : List Int} (hb : ∀ i, i < l.length → 0 ≤ uA l i ∧ uA l i ≤ 65535) (a b c : Nat) : lnV l a b ≤ max (lnV l a c) (lnV l b c) := by
  have key : ∀ x y z, x ≤ y → y ≤ z → lnV l x z = max (lnV l x y) (lnV l y z) := fun x y z h1 h2 => lnV_cut hb h1 h2
  have p : ∀ x y, 0 ≤ lnV l x y := fun x y => by unfold lnV; split <;> exact (lnM_bd hb _ _).1
  have c1 := lnV_comm l a b
  have c2 := lnV_comm l a c
  have c3 := lnV_comm l b c
  rcases Nat.le_total a b with h | h <;> rcases Nat.le_total a c with h2 | h2 <;> rcases Nat.le_total b c with h3 | h3
  · have := key a b c h h3; omega
  · have := key a c b h2 h3; omega
  · have := key c a b h2 h; omega
  · have := key c a b h2 h; omega
  · have := key b a c h h2; omega
  · have := key b a c h h2; omega
  · have := key b c a h3 h2; omega
  · have := key c b a h3 h; omega
/-- The line's distance as a number over the one denominator. -/
theorem lineD_eq (l : List Int) (u : Int) (a b : Nat) : lineD l u a b = if a = b then (0, 1) else (lnV l a b, 1 + u % 16) := by
  unfold lineD lineX lnV
  by_cases h : a < b
  · rw [if_pos h, if_neg (by omega), if_pos h]
  · rw [if_neg h]
    by_cases h2 : b < a
    · rw [if_pos h2, if_neg (by omega), if_neg h]
    · rw [if_neg h2, if_pos (by omega)]
theorem lineD_sym (l : List Int) (u : Int) (a b : Nat) : lineD l u a b = lineD l u b a := by
  rw [lineD_eq, lineD_eq, lnV_comm]
  by_cases e : a = b
  · rw [if_pos e, if_pos e.symm]
  · rw [if_neg e, if_neg (Ne.symm e)]
/-- The distances, some number added to that of two languages. -/
def liftD (l : List Int) (u : Int) (K : Int) (x y a b : Nat) : Fr := if (a = x ∧ b = y) ∨ (a = y ∧ b = x) then ((lineD l u a b).1 + K, (lineD l u a b).2) else lineD l u a b
def liftL (l : List Int) (u : Int) (K : Int) (x y n : Nat) : List Fr := (List.range (n * n)).map fun p => liftD l u K x y (p / n) (p % n)
theorem liftL_at {l : List Int} {u K : Int} {x y n a b : Nat} (ha : a < n) (hb : b < n) : fN (liftL l u K x y n) (a * n + b) = (liftD l u K x y a b).1 ∧ fD (liftL l u K x y n) (a * n + b) = (liftD l u K x y a b).2 := by
  have h : a * n + b < n * n := idxLt ha hb
  obtain ⟨d1, d2⟩ := dv1 (n := n) (a := a) (b := b) hb
  simp [fN, fD, liftL, h, d1, d2]
theorem liftL_get {l : List Int} {u K : Int} {x y n p : Nat} (hp : p < n * n) : fN (liftL l u K x y n) p = (liftD l u K x y (p / n) (p % n)).1 ∧ fD (liftL l u K x y n) p = (liftD l u K x y (p / n) (p % n)).2 := by
  simp [fN, fD, liftL, hp]
theorem lift_good {l : List Int} (hb : ∀ i, i < l.length → 0 ≤ uA l i ∧ uA l i ≤ 65535) {u K : Int} (hu : 0 ≤ u) (hK : 0 ≤ K) (hK2 : K ≤ 100000) {n x y : Nat} (h1 : 1 ≤ n) (h2 : n ≤ 24) (hxy : K = 0 ∨ x ≠ y) : GoodD (liftL l u K x y n) n (1 + u % 16).toNat 165535 := by
  have hu2 : 0 ≤ u % 16 ∧ u % 16 < 16 := by omega
  have hv : ∀ a b, 0 ≤ lnV l a b ∧ lnV l a b ≤ 65535 := fun a b => by unfold lnV; split <;> exact lnM_bd hb _ _
  have bd : ∀ a b, 0 ≤ (liftD l u K x y a b).1 ∧ (liftD l u K x y a b).1 ≤ 165535 ∧ ((liftD l u K x y a b).2 = 1 + u % 16 ∨ (liftD l u K x y a b).2 = 1) := fun a b => by
    have := hv a b
    unfold liftD
    rw [lineD_eq]
    split <;> split <;> simp <;> omega
  refine ⟨by simp [liftL], by omega, fun i hi => ?_, fun i hi => ?_, fun a b ha hb2 => ?_, fun a ha => ?_⟩
  · rw [(liftL_get hi).1]
    have := bd (i / n) (i % n)
    omega
  · rw [(liftL_get hi).2]
    have := bd (i / n) (i % n)
    omega
  · obtain ⟨e1, e2⟩ := liftL_at (l := l) (u := u) (K := K) (x := x) (y := y) ha hb2
    obtain ⟨e3, e4⟩ := liftL_at (l := l) (u := u) (K := K) (x := x) (y := y) hb2 ha
    have e : liftD l u K x y a b = liftD l u K x y b a := by
      unfold liftD
      rw [lineD_sym l u b a]
      by_cases hc : (a = x ∧ b = y) ∨ (a = y ∧ b = x)
      · have hc2 : (b = x ∧ a = y) ∨ (b = y ∧ a = x) := by omega
        rw [if_pos hc, if_pos hc2]
      · have hc2 : ¬ ((b = x ∧ a = y) ∨ (b = y ∧ a = x)) := by omega
        rw [if_neg hc, if_neg hc2]
    rw [e1, e2, e3, e4, e]
    exact ⟨rfl, rfl⟩
  · rw [(liftL_at ha ha).1]
    unfold liftD
    rw [lineD_eq, if_pos rfl]
    split
    · rename_i h
      show (0 : Int) + K = 0
      omega
    · rfl
def lineL (l : List Int) (u : Int) (n : Nat) : List Fr := liftL l u 0 0 0 n
theorem lineL_eq (l : List Int) (u : Int) (n : Nat) : lineL l u n = (List.range (n * n)).map fun p => lineD l u (p / n) (p % n) := by
  unfold lineL liftL
  apply List.map_congr_left
  intro p _
  unfold liftD
  split
  · show ((lineD l u (p / n) (p % n)).1 + 0, _) = _
    rw [Int.add_zero]
  · rfl
theorem line_good {l : List Int} (hb : ∀ i, i < l.length → 0 ≤ uA l i ∧ uA l i ≤ 65535) {u : Int} (hu : 0 ≤ u) {n : Nat} (h1 : 1 ≤ n) (h2 : n ≤ 24) : GoodD (lineL l u n) n (1 + u % 16).toNat 165535 := lift_good hb hu (by omega) (by omega) h1 h2 (.inl rfl)
theorem line_at {l : List Int} {u : Int} {n a b : Nat} (ha : a < n) (hb : b < n) : fN (lineL l u n) (a * n + b) = (lineD l u a b).1 ∧ fD (lineL l u n) (a * n + b) = (lineD l u a b).2 := by
  have h : a * n + b < n * n := idxLt ha hb
  obtain ⟨d1, d2⟩ := dv1 (n := n) (a := a) (b := b) hb
  rw [lineL_eq]
  simp [fN, fD, h, d1, d2]
/-- Scaled numbers of distances over one denominator compare as their numerators. -/
theorem sc_of {s c q : Nat} {N D : Int} (hq : 0 < q) (h0 : 0 ≤ N) (hD : D = q ∨ (D = 1 ∧ N = 0)) (h : s * D.toNat = N.toNat * c) : s * q = N.toNat * c := by
  rcases hD with e | ⟨e, e2⟩
  · rw [e, Int.toNat_natCast] at h; exact h
  · rw [e, e2] at h
    simp at h
    rw [h, e2]; simp
theorem line_ultra {l : List Int} (hb : ∀ i, i < l.length → 0 ≤ uA l i ∧ uA l i ≤ 65535) {u : Int} (hu : 0 ≤ u) {n c : Nat} (hs : ∀ i, i < n * n → scK (lineL l u n) c i * (fD (lineL l u n) i).toNat = (fN (lineL l u n) i).toNat * c) : UltraP (lineL l u n) c n := by
  have hv : ∀ a b, 0 ≤ lnV l a b ∧ lnV l a b ≤ 65535 := fun a b => by unfold lnV; split <;> exact lnM_bd hb _ _
  have key : ∀ a b, a < n → b < n → dist (lineL l u n) c n a b * (1 + u % 16).toNat = (if a = b then 0 else lnV l a b).toNat * c := fun a b ha hb2 => by
    have h := hs (a * n + b) (idxLt ha hb2)
    obtain ⟨e1, e2⟩ := line_at (l := l) (u := u) ha hb2
    rw [e1, e2] at h
    rw [lineD_eq] at h
    unfold dist
    by_cases e : a = b
    · rw [if_pos e] at h ⊢
      exact sc_of (N := 0) (D := 1) (by omega) (by omega) (.inr ⟨rfl, rfl⟩) h
    · rw [if_neg e] at h ⊢
      exact sc_of (N := lnV l a b) (D := 1 + u % 16) (by omega) (hv a b).1 (.inl (by omega)) h
  have zero : ∀ a, lnV l a a = 0 := fun a => by unfold lnV; rw [if_neg (by omega), Nat.sub_self]; rfl
  intro a ha b hb2 x hx
  have k1 := key a b ha hb2
  have k2 := key a x ha hx
  have k3 := key b x hb2 hx
  have hu2 := lnV_ultra hb a b x
  have e : ∀ a b, (if a = b then 0 else lnV l a b) = lnV l a b := fun a b => by
    split
    · rename_i e; rw [e, zero]
    · rfl
  rw [e] at k1 k2 k3
  have hle : (lnV l a b).toNat ≤ (lnV l a x).toNat ∨ (lnV l a b).toNat ≤ (lnV l b x).toNat := by omega
  have hq : 0 < (1 + u % 16).toNat := by omega
  rcases hle with h | h
  · have : dist (lineL l u n) c n a b * (1 + u % 16).toNat ≤ dist (lineL l u n) c n a x * (1 + u % 16).toNat := by rw [k1, k2]; exact Nat.mul_le_mul_right _ h
    have := Nat.le_of_mul_le_mul_right this hq
    omega
  · have : dist (lineL l u n) c n a b * (1 + u % 16).toNat ≤ dist (lineL l u n) c n b x * (1 + u % 16).toNat := by rw [k1, k3]; exact Nat.mul_le_mul_right _ h
    have := Nat.le_of_mul_le_mul_right this hq
    omega
theorem lift_not {l : List Int} (hb : ∀ i, i < l.length → 0 ≤ uA l i ∧ uA l i ≤ 65535) {u : Int} (hu : 0 ≤ u) {n c x y : Nat} (hn : 3 ≤ n) (hx : x < n) (hy : y < n) (hxy : x ≠ y) (hc : 0 < c) (hs : ∀ i, i < n * n → scK (liftL l u 100000 x y n) c i * (fD (liftL l u 100000 x y n) i).toNat = (fN (liftL l u 100000 x y n) i).toNat * c) : ¬ UltraP (liftL l u 100000 x y n) c n := by
  have hv : ∀ a b, 0 ≤ lnV l a b ∧ lnV l a b ≤ 65535 := fun a b => by unfold lnV; split <;> exact lnM_bd hb _ _
  have key : ∀ a b, a < n → b < n → a ≠ b → dist (liftL l u 100000 x y n) c n a b * (1 + u % 16).toNat = (if (a = x ∧ b = y) ∨ (a = y ∧ b = x) then lnV l a b + 100000 else lnV l a b).toNat * c := fun a b ha hb2 hne => by
    have h := hs (a * n + b) (idxLt ha hb2)
    obtain ⟨e1, e2⟩ := liftL_at (l := l) (u := u) (K := 100000) (x := x) (y := y) ha hb2
    have hab := hv a b
    rw [e1, e2] at h
    unfold liftD at h
    rw [lineD_eq, if_neg hne] at h
    unfold dist
    by_cases e : (a = x ∧ b = y) ∨ (a = y ∧ b = x)
    · rw [if_pos e] at h ⊢
      exact sc_of (N := lnV l a b + 100000) (D := 1 + u % 16) (by omega) (by omega) (.inl (by omega)) h
    · rw [if_neg e] at h ⊢
      exact sc_of (N := lnV l a b) (D := 1 + u % 16) (by omega) (by omega) (.inl (by omega)) h
  obtain ⟨z, hz, hzx, hzy⟩ : ∃ z, z < n ∧ z ≠ x ∧ z ≠ y := by
    by_cases h0 : x ≠ 0 ∧ y ≠ 0
    · exact ⟨0, by omega, by omega, by omega⟩
    · by_cases h1 : x ≠ 1 ∧ y ≠ 1
      · exact ⟨1, by omega, by omega, by omega⟩
      · exact ⟨2, by omega, by omega, by omega⟩
  intro hU
  have h := hU x hx y hy z hz
  have k1 := key x y hx hy hxy
  have k2 := key x z hx hz (by omega)
  have k3 := key y z hy hz (by omega)
  rw [if_pos (.inl ⟨rfl, rfl⟩)] at k1
  rw [if_neg (by omega)] at k2 k3
  have v1 := hv x y
  have v2 := hv x z
  have v3 := hv y z
  have hq : 0 < (1 + u % 16).toNat := by omega
  have l1 : (lnV l x z).toNat * c < (lnV l x y + 100000).toNat * c := Nat.mul_lt_mul_of_pos_right (by omega) hc
  have l2 : (lnV l y z).toNat * c < (lnV l x y + 100000).toNat * c := Nat.mul_lt_mul_of_pos_right (by omega) hc
  rw [← k1, ← k2] at l1
  rw [← k1, ← k3] at l2
  have m1 := Nat.lt_of_mul_lt_mul_right l1
  have m2 := Nat.lt_of_mul_lt_mul_right l2
  omega
end Go.Proofs.YtahgffjkkdbjeaaDoor
