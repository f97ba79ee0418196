/- Plain laws: clusters as sizes and a table: one language each, and two made one. -/
import Derived.Test.YtahgffjkkdbjeaaDoorK0
namespace Go.Proofs.YtahgffjkkdbjeaaDoor
open Go.RowKit
/-- A function of the place, changed at one place. -/
def updN (f : Nat → Nat) (p v : Nat) : Nat → Nat := fun q => if q = p then v else f q
theorem updN_same (f : Nat → Nat) (p v : Nat) : updN f p v p = v := if_pos rfl
theorem updN_other (f : Nat → Nat) {p q : Nat} (v : Nat) (h : q ≠ p) : updN f p v q = f q := if_neg h
theorem cg_size (s f : Nat → Nat) (a v : Nat) (ha : a < 24) : (ofF 600 fun j => if j = a then .int .i64 v else cg s f j) = ofF 600 (cg (updN s a v) f) := by
  refine ofF_congr fun i _ => ?_
  unfold cg updN
  by_cases e : i = a
  · subst e; rw [if_pos rfl, if_pos ha]; simp
  · rw [if_neg e]
    by_cases h : i < 24
    · rw [if_pos h, if_pos h, if_neg e]
    · rw [if_neg h, if_neg h]
theorem cg_with (s f : Nat → Nat) (k v : Nat) : (ofF 600 fun j => if j = 24 + k then .int .i64 v else cg s f j) = ofF 600 (cg s (updN f k v)) := by
  refine ofF_congr fun i _ => ?_
  unfold cg updN
  by_cases e : i = 24 + k
  · subst e; rw [if_pos rfl, if_neg (by omega), show 24 + k - 24 = k by omega, if_pos rfl]
  · rw [if_neg e]
    by_cases h : i < 24
    · rw [if_pos h, if_pos h]
    · rw [if_neg h, if_neg h, if_neg (by omega)]
theorem cg_at_size (s f : Nat → Nat) (a : Nat) (ha : a < 24) : cg s f a = .int .i64 (s a) := if_pos ha
theorem cg_at_with (s f : Nat → Nat) (k : Nat) : cg s f (24 + k) = .int .i64 (f k) := by unfold cg; rw [if_neg (by omega), show 24 + k - 24 = k by omega]

/-- n clusters of one language each. -/
def aloneS (n : Nat) : Nat → Nat := fun a => if a < n then 1 else 0
theorem aloneS_next (k : Nat) : updN (aloneS k) k 1 = aloneS (k + 1) := by
  funext a
  unfold updN aloneS
  by_cases e : a = k
  · subst e; simp
  · rw [if_neg e]
    by_cases h : a < k
    · rw [if_pos h, if_pos (by omega)]
    · rw [if_neg h, if_neg (by omega)]
/-- Sizes, with a and b made one. -/
def joinS (s : Nat → Nat) (a b : Nat) : Nat → Nat := updN (updN s a (s a + s b)) b 0
/-- The table after i steps of a join. -/
def jw (f : Nat → Nat) (a b : Nat) : Nat → Nat → Nat
  | 0 => f
  | i + 1 => updN (updN (jw f a b i) (a * 24 + i) (jw f a b i (a * 24 + i) + jw f a b i (b * 24 + i))) (i * 24 + a) (jw f a b i (a * 24 + i) + jw f a b i (b * 24 + i))
theorem two_digits {x y z t : Nat} (hy : y < 24) (ht : t < 24) : x * 24 + y = z * 24 + t ↔ x = z ∧ y = t := by omega
/-- What a join's table is, where neither is a. -/
theorem jw_other (f : Nat → Nat) {a b x y : Nat} (ha : a < 24) (hy : y < 24) (hx : x ≠ a) (hy2 : y ≠ a) : ∀ i, i ≤ 24 → jw f a b i (x * 24 + y) = f (x * 24 + y)
  | 0, _ => rfl
  | i + 1, hi => by
    rw [jw, updN_other _ _ (by omega), updN_other _ _ (by omega)]
    exact jw_other f ha hy hx hy2 i (by omega)
/-- Row a, where it was not yet changed. -/
theorem jw_rest (f : Nat → Nat) {a b x z : Nat} (ha : a < 24) (hz : z < 24) (hx : x = a ∨ x = b) (hab : a < b) : ∀ i, i ≤ z → i ≤ a ∨ z ≠ a → jw f a b i (x * 24 + z) = f (x * 24 + z)
  | 0, _, _ => rfl
  | i + 1, hi, hz2 => by
    rw [jw, updN_other _ _ (by omega), updN_other _ _ (by omega)]
    exact jw_rest f ha hz hx hab i (by omega) (by omega)
/-- Row a and column a, where they were changed. -/
theorem jw_new (f : Nat → Nat) {a b z : Nat} (ha : a < 24) (hz : z < 24) (hza : z ≠ a) (hab : a < b) : ∀ i, i ≤ 24 → z < i → jw f a b i (a * 24 + z) = f (a * 24 + z) + f (b * 24 + z) ∧ jw f a b i (z * 24 + a) = f (a * 24 + z) + f (b * 24 + z)
  | 0, _, h => by omega
  | i + 1, hi, h => by
    by_cases e : z = i
    · subst e
      have h1 := jw_rest f (x := a) ha hz (.inl rfl) hab z (Nat.le_refl _) (.inr hza)
      have h2 := jw_rest f (x := b) ha hz (.inr rfl) hab z (Nat.le_refl _) (.inr hza)
      rw [jw, h1, h2]
      refine ⟨?_, updN_same _ _ _⟩
      rw [updN_other _ _ (by omega), updN_same]
    · obtain ⟨h1, h2⟩ := jw_new f ha hz hza hab i (by omega) (by omega)
      rw [jw]
      refine ⟨?_, ?_⟩
      · rw [updN_other _ _ (by omega), updN_other _ _ (by omega)]; exact h1
      · rw [updN_other _ _ (by omega), updN_other _ _ (by omega)]; exact h2
/-- The table stays below twice its bound. -/
theorem jw_le (f : Nat → Nat) {a b M : Nat} (ha : a < 24) (hb : b < 24) (hab : a < b) (hM : ∀ k, f k ≤ M) : ∀ i, i ≤ 24 → ∀ k, jw f a b i k ≤ 2 * M
  | 0, _ => fun k => by have := hM k; rw [jw]; omega
  | i + 1, hi => fun k => by
    have ih := jw_le f ha hb hab hM i (by omega)
    have h1 : jw f a b i (a * 24 + i) ≤ M := by
      by_cases e : i = a
      · subst e; rw [jw_rest f (x := i) ha ha (.inl rfl) hab i (Nat.le_refl _) (.inl (Nat.le_refl _))]; exact hM _
      · rw [jw_rest f (x := a) ha (by omega) (.inl rfl) hab i (Nat.le_refl _) (.inr e)]; exact hM _
    have h2 : jw f a b i (b * 24 + i) ≤ M := by
      by_cases e : i = a
      · subst e; rw [jw_rest f (x := b) ha ha (.inr rfl) hab i (Nat.le_refl _) (.inl (Nat.le_refl _))]; exact hM _
      · rw [jw_rest f (x := b) ha (by omega) (.inr rfl) hab i (Nat.le_refl _) (.inr e)]; exact hM _
    rw [jw]
    unfold updN
    split
    · omega
    · split
      · omega
      · exact ih k
theorem jw_cells (f : Nat → Nat) {a b i M : Nat} (ha : a < 24) (hi : i < 24) (hab : a < b) (hM : ∀ k, f k ≤ M) : jw f a b i (a * 24 + i) ≤ M ∧ jw f a b i (b * 24 + i) ≤ M := by
  by_cases e : i = a
  · subst e
    rw [jw_rest f (x := i) ha ha (.inl rfl) hab i (Nat.le_refl _) (.inl (Nat.le_refl _)), jw_rest f (x := b) ha ha (.inr rfl) hab i (Nat.le_refl _) (.inl (Nat.le_refl _))]
    exact ⟨hM _, hM _⟩
  · rw [jw_rest f (x := a) ha hi (.inl rfl) hab i (Nat.le_refl _) (.inr e), jw_rest f (x := b) ha hi (.inr rfl) hab i (Nat.le_refl _) (.inr e)]
    exact ⟨hM _, hM _⟩
end Go.Proofs.YtahgffjkkdbjeaaDoor
