/- Plain laws: scaled distances are symmetric; what it is to be ultrametric. -/
import Derived.Test.YtahgffjkkdbjeaaDoorP0
namespace Go.Proofs.YtahgffjkkdbjeaaDoor
open Go.RowKit
/-- The scaled distance of a and b. -/
def dist (d : List Fr) (c n a b : Nat) : Nat := scK d c (a * n + b)
theorem scaled_ok_parts {n : Nat} {d : List Fr} {c : Nat} (h : scaledS n d = .ok c) : 1 ≤ n ∧ n ≤ 24 ∧ d.length = n * n ∧ d.any badFr = false ∧ SymOk d n ∧ cmA d d.length = some c ∧ ¬ OverAny d c := by
  rw [scaledS] at h
  split at h
  · cases h
  · split at h
    · cases h
    · split at h
      · cases h
      · rename_i h1 h2 h3
        simp only [Int.toNat_natCast, Classical.not_not] at h3
        simp only [not_or, Classical.not_not, Bool.not_eq_true] at h2
        split at h
        · cases h
        · rename_i c' hc
          split at h
          · cases h
          · rename_i h4
            simp only [Except.ok.injEq] at h
            subst h
            refine ⟨by omega, by omega, ?_, h2.2, h3, hc, h4⟩
            have := h2.1
            rw [← Int.natCast_mul] at this
            omega
theorem dist_sym {n : Nat} {d : List Fr} {c : Nat} (h : SymOk d n) {a b : Nat} (ha : a < n) (hb : b < n) : dist d c n a b = dist d c n b a := by
  unfold dist scK
  by_cases hab : b ≤ a
  · obtain ⟨⟨h1, h2⟩, _⟩ := h a ha b (by omega)
    rw [h1, h2]
  · obtain ⟨⟨h1, h2⟩, _⟩ := h b hb a (by omega)
    rw [h1, h2]
theorem dist_self {n : Nat} {d : List Fr} {c : Nat} (h : SymOk d n) {a : Nat} (ha : a < n) : dist d c n a a = 0 := by
  unfold dist scK
  rw [(h a ha a (by omega)).2 rfl, Nat.zero_mul]
theorem dist_le {n : Nat} {d : List Fr} {c : Nat} (h : scaledS n d = .ok c) (hf : FitFr d) {a b : Nat} (ha : a < n) (hb : b < n) : dist d c n a b ≤ 1073741824 := by
  obtain ⟨h1, h2, h3, h4, h5, h6, h7⟩ := scaled_ok_parts h
  have hlt : a * n + b < d.length := by
    have : (a + 1) * n ≤ n * n := Nat.mul_le_mul_right _ ha
    rw [Nat.succ_mul] at this
    omega
  obtain ⟨c1, _, c3⟩ := cmA_some (fun i hi => (q_bounds h4 hf i hi).2.1) (Nat.le_refl _) h6
  refine scK_le c1 (c3 _ hlt).1 ?_
  cases ho : overK d c (a * n + b)
  · rfl
  · exact absurd ⟨_, hlt, ho⟩ h7
def UltraP (d : List Fr) (c n : Nat) : Prop := ∀ a, a < n → ∀ b, b < n → ∀ x, x < n → dist d c n a b ≤ max (dist d c n a x) (dist d c n b x)
instance (d : List Fr) (c n : Nat) : Decidable (UltraP d c n) := by unfold UltraP; infer_instance
theorem ultra_of_low {d : List Fr} {c n : Nat} (hs : SymOk d n) (h : ∀ a, a < n → ∀ b, b < a → ∀ x, x < n → dist d c n a b ≤ max (dist d c n a x) (dist d c n b x)) : UltraP d c n := by
  intro a ha b hb x hx
  rcases Nat.lt_trichotomy a b with h1 | h1 | h1
  · have := h b hb a h1 x hx
    rw [dist_sym hs ha hb]
    omega
  · subst h1
    rw [dist_self hs ha]
    omega
  · exact h a ha b h1 x hx
/-- P35.4: the answer and the error. -/
def ultraS (n : Int) (d : List Fr) : Bool × Int :=
  match scaledS n d with
  | .error k => (false, k)
  | .ok c => (decide (UltraP d c n.toNat), 0)
end Go.Proofs.YtahgffjkkdbjeaaDoor
