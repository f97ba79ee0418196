/- The sets of a tree's nodes: plain. -/
import Derived.Test.YtnabbmdhhddfbaaDoorC2
namespace Go.Proofs.YtnabbmdhhddfbaaDoor
open Go.RowKit
/-- Has node v a child among the first k? -/
def inB (t : List Nd) (k v : Nat) : Bool := (List.range k).any (kidB t v)
theorem inB_succ (t : List Nd) (k v : Nat) : inB t (k + 1) v = (inB t k v || kidB t v k) := by
  unfold inB
  rw [List.range_succ, List.any_append]
  simp
theorem leafB_in (t : List Nd) (v : Nat) : leafB t v = !inB t t.length v := by
  unfold leafB inB famL
  rw [Bool.eq_iff_iff]
  simp [List.isEmpty_iff]
/-- What a leaf begins with. -/
def botS (t : List Nd) (v : Nat) : Nat := if leafB t v then 2 ^ (lvsL t v).length else 0
/-- The sets behind j steps upwards. -/
def upS (t : List Nd) : Nat → Nat → Nat
  | 0, v => botS t v
  | j + 1, v => if nP t (t.length - 1 - j) = (v : Int) then upS t j v ||| upS t j (t.length - 1 - j) else upS t j v
/-- The set of a node. -/
def cl (t : List Nd) (v : Nat) : Nat := upS t (t.length - 1) v
theorem lvsL_mono (t : List Nd) {j k : Nat} (h : j ≤ k) : (lvsL t j).length ≤ (lvsL t k).length := by
  induction k with
  | zero => have : j = 0 := by omega
            subst this; exact Nat.le_refl _
  | succ k ih =>
    by_cases e : j = k + 1
    · subst e; exact Nat.le_refl _
    · have := ih (by omega)
      rw [lvsL_snoc, List.length_append]; omega
theorem upS_lt {t : List Nd} {n : Nat} (hL : (lvsL t t.length).length ≤ n) : ∀ j v, v < t.length → upS t j v < 2 ^ n := by
  intro j
  induction j with
  | zero =>
    intro v hv
    unfold upS botS
    by_cases q : leafB t v = true
    · rw [if_pos q]
      refine Nat.pow_lt_pow_right (by omega) ?_
      have h1 := lvsL_snoc t v
      rw [if_pos q] at h1
      have h2 := lvsL_mono t (show v + 1 ≤ t.length from hv)
      rw [h1, List.length_append, List.length_singleton] at h2
      omega
    · rw [if_neg q]; exact Nat.two_pow_pos _
  | succ j ih =>
    intro v hv
    unfold upS
    split
    · exact Nat.or_lt_two_pow (ih v hv) (ih _ (by omega))
    · exact ih v hv
theorem cl_lt {t : List Nd} {n : Nat} (hL : (lvsL t t.length).length ≤ n) (v : Nat) (hv : v < t.length) : cl t v < 2 ^ n := upS_lt hL _ v hv
/-- What the iterator hands out. -/
def ndsL (t : List Nd) (k : Nat) : List (Nat × Nat) := (List.range k).map fun v => (v, cl t v)
theorem ndsL_snoc (t : List Nd) (k : Nat) : ndsL t (k + 1) = ndsL t k ++ [(k, cl t k)] := by simp [ndsL, List.range_succ]
theorem ndsL_len (t : List Nd) (k : Nat) : (ndsL t k).length = k := by simp [ndsL]
end Go.Proofs.YtnabbmdhhddfbaaDoor
