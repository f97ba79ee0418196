/- Plain: what Tree refuses; the bounds of what is planted. -/
import Derived.Test.YtahgffjkkdbjeaaDoorPT
import Derived.Test.YtahgffjkkdbjeaaDoorWQ
import Derived.Test.YtahgffjkkdbjeaaDoorWL
import Derived.Test.YtahgffjkkdbjeaaDoorWO
namespace Go.Proofs.YtahgffjkkdbjeaaDoor
open Go.RowKit
/-- How often each name has been met among the first k inner names. -/
def hvI : Nat → ByteArray → Int
  | 0 => fun _ => 0
  | k + 1 => updS (hvI k) (innS k) (hvI k (innS k) + 1)
/-- .. and among the first i names. -/
def hvN (names : List ByteArray) (N : Nat) : Nat → ByteArray → Int
  | 0 => hvI N
  | i + 1 => updS (hvN names N i) (sA names i) (hvN names N i (sA names i) + 1)
theorem hvI_bd : ∀ (k : Nat) (s : ByteArray), 0 ≤ hvI k s ∧ hvI k s ≤ k
  | 0, _ => by simp [hvI]
  | k + 1, s => by
    have h1 := hvI_bd k s
    have h2 := hvI_bd k (innS k)
    simp only [hvI, updS]
    split <;> omega
theorem hvN_bd (names : List ByteArray) (N : Nat) : ∀ (i : Nat) (s : ByteArray), 0 ≤ hvN names N i s ∧ hvN names N i s ≤ N + i
  | 0, s => by have := hvI_bd N s; simp only [hvN]; omega
  | i + 1, s => by
    have h1 := hvN_bd names N i s
    have h2 := hvN_bd names N i (sA names i)
    simp only [hvN, updS]
    split <;> omega
def NamesOk (names : List ByteArray) : Prop := ∀ i, i < names.length → nmB (sA names i) = true
def HaveOk (names : List ByteArray) (N : Nat) : Prop := ∀ i, i < names.length → hvN names N (i + 1) (sA names i) ≤ 1
instance (names : List ByteArray) : Decidable (NamesOk names) := by unfold NamesOk; infer_instance
instance (names : List ByteArray) (N : Nat) : Decidable (HaveOk names N) := by unfold HaveOk; infer_instance
/-- Tree's error. -/
def treeE (n : Int) (names : List ByteArray) (l : List Mg) : Int :=
  if n < 1 ∨ 24 < n then 3 else if ¬ ((names.length : Int) = n ∧ StepsOk n.toNat l) then 2 else if ¬ NamesOk names then 15 else if ¬ HaveOk names l.length then 6 else 0
/-- Tree's nodes. -/
def treeL (n : Int) (names : List ByteArray) (l : List Mg) : List Nd :=
  if treeE n names l = 0 then plantL (nmOf names) (belK l l.length) 25 (-1) (nowK l l.length 0) 0 else []
theorem nowK_bd {n : Nat} {l : List Mg} : ∀ (k : Nat), ∀ a, a < n → nowK l k a < k ∧ -1 - (n : Int) < nowK l k a
  | 0, a, ha => by simp only [nowK]; omega
  | k + 1, a, ha => by
    have h1 := nowK_bd k a ha (l := l)
    simp only [nowK]
    split <;> omega
theorem belK_get {l : List Mg} : ∀ (k i : Nat), i < k → (belK l k).getD i (0, 1) = (nowK l i (mA l i).toNat, nowK l i (mB l i).toNat)
  | 0, i, h => by omega
  | k + 1, i, h => by
    rw [belK, List.getD_eq_getElem?_getD]
    by_cases e : i = k
    · subst e
      rw [List.getElem?_append_right (by rw [belK_len]; exact Nat.le_refl _), belK_len, Nat.sub_self]
      rfl
    · rw [List.getElem?_append_left (by rw [belK_len]; omega), ← List.getD_eq_getElem?_getD]
      exact belK_get k i (by omega)
theorem belK_ok {n : Nat} {l : List Mg} (k : Nat) (h : ∀ i, i < k → StepOk n l i) : BelOk n (belK l k) := by
  intro i hi
  rw [belK_len] at hi
  obtain ⟨h1, h2, h3, _⟩ := h i hi
  have e := belK_get (l := l) k i hi
  have e1 : fN (belK l k) i = nowK l i (mA l i).toNat := congrArg Prod.fst e
  have e2 : fD (belK l k) i = nowK l i (mB l i).toNat := congrArg Prod.snd e
  rw [e1, e2]
  exact ⟨nowK_bd i _ (by omega), nowK_bd i _ (by omega)⟩
/-- A tree of one node is valid if its name is. -/
theorem chkE_one (s : ByteArray) : chkE [(-1, s)] = if nmB s then 0 else 16 := by
  unfold chkE
  have e : TreeOk [(-1, s)] ↔ nmB s = true := by
    constructor
    · intro h; exact (h.2.2 0 (by simp)).2.2.1
    · intro h
      refine ⟨by simp, by simp, fun v hv => ?_⟩
      obtain rfl : v = 0 := by simp at hv; exact hv
      exact ⟨by simp [nP], by simp [nP], h, rfl⟩
  by_cases h : nmB s = true
  · rw [if_pos (e.2 h), if_pos h]
  · rw [if_neg (fun k => h (e.1 k)), if_neg h]
theorem nmB_size {s : ByteArray} (h : 24 < s.size) : nmB s = false := by
  unfold nmB
  rw [show decide (s.size ≤ 24) = false by simp; omega]
  simp
end Go.Proofs.YtahgffjkkdbjeaaDoor
