/- Plain laws: which merges are a clustering. -/
import Derived.Test.YtahgffjkkdbjeaaDoorP6
namespace Go.Proofs.YtahgffjkkdbjeaaDoor
open Go.RowKit
/-- The sizes of the clusters after k merges. -/
def stS (n : Nat) (l : List Mg) : Nat → Nat → Nat
  | 0 => aloneS n
  | k + 1 => joinS (stS n l k) (mA l k).toNat (mB l k).toNat
/-- Merge k joins two clusters. -/
def StepOk (n : Nat) (l : List Mg) (k : Nat) : Prop := 0 ≤ mA l k ∧ mA l k < mB l k ∧ mB l k < n ∧ stS n l k (mA l k).toNat ≠ 0 ∧ stS n l k (mB l k).toNat ≠ 0 ∧ mS l k = ((stS n l k (mA l k).toNat + stS n l k (mB l k).toNat : Nat) : Int) ∧ 1 ≤ mD l k ∧ 0 ≤ mN l k
instance (n : Nat) (l : List Mg) (k : Nat) : Decidable (StepOk n l k) := by unfold StepOk; infer_instance
def StepsOk (n : Nat) (l : List Mg) : Prop := l.length + 1 = n ∧ ∀ k, k < l.length → StepOk n l k
instance (n : Nat) (l : List Mg) : Decidable (StepsOk n l) := by unfold StepsOk; infer_instance
structure StInv (n : Nat) (s : Nat → Nat) : Prop where
  sum : sumN s n = n
  out : ∀ a, n ≤ a → s a = 0
theorem StInv.le {n : Nat} {s : Nat → Nat} (h : StInv n s) (a : Nat) : s a ≤ n := by
  by_cases ha : a < n
  · have := sumN_one s ha; have := h.sum; omega
  · rw [h.out a (by omega)]; exact Nat.zero_le _
theorem StInv.next {n : Nat} {s : Nat → Nat} (h : StInv n s) {i j : Nat} (h1 : i < j) (h2 : j < n) : StInv n (joinS s i j) := by
  have e1 : updN s i (s i + s j) j = s j := updN_other _ _ (by omega)
  refine ⟨?_, fun a ha => ?_⟩
  · have a1 := sumN_upd s (v := s i + s j) (show i < n by omega)
    have a2 := sumN_upd (updN s i (s i + s j)) (v := 0) h2
    have := h.sum
    rw [e1] at a2
    unfold joinS
    omega
  · unfold joinS
    rw [updN_other _ _ (by omega), updN_other _ _ (by omega)]
    exact h.out a ha
theorem stS_inv {n : Nat} {l : List Mg} : ∀ k, (∀ i, i < k → StepOk n l i) → StInv n (stS n l k)
  | 0, _ => ⟨by rw [stS, sumN_congr (s := aloneS n) (t := fun _ => 1) fun a ha => if_pos ha, sumN_const], fun a ha => if_neg (by omega)⟩
  | k + 1, h => by
    obtain ⟨h1, h2, h3, _⟩ := h k (by omega)
    exact (stS_inv k fun i hi => h i (by omega)).next (by omega) (by omega)
theorem jw_zero (a b : Nat) : ∀ i, jw (fun _ => 0) a b i = fun _ => 0
  | 0 => rfl
  | i + 1 => by
    funext t
    rw [jw, jw_zero a b i]
    simp [updN]
end Go.Proofs.YtahgffjkkdbjeaaDoor
