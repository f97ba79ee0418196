/- Plain laws: the parts of a tree that the document joins are what glotto plants. -/
import Derived.Test.YtahgffjkkdbjeaaDoorZC
namespace Go.Proofs.YtahgffjkkdbjeaaDoor
open Go.RowKit
/-- A tree put below a node: its root's parent is up, its other nodes are moved by pos. -/
def shf (up : Int) (pos : Nat) : List Nd → List Nd
  | [] => []
  | x :: r => (up, x.2) :: r.map fun y => (y.1 + (pos : Int), y.2)
theorem shf_len (up : Int) (pos : Nat) (t : List Nd) : (shf up pos t).length = t.length := by cases t <;> simp [shf]
/-- A tree with another one below its root. -/
def undr (t part : List Nd) : List Nd := t ++ shf 0 t.length part
theorem undr_len (t part : List Nd) : (undr t part).length = t.length + part.length := by simp [undr, shf_len]
/-- The part of each language's cluster after k merges. -/
def ptK (names : List ByteArray) (l : List Mg) : Nat → Nat → List Nd
  | 0 => fun a => [(-1, sA names a)]
  | k + 1 => fun a => if a = (mA l k).toNat then undr (undr [(-1, innS k)] (ptK names l k (mA l k).toNat)) (ptK names l k (mB l k).toNat) else ptK names l k a
theorem ptK_pos (names : List ByteArray) (l : List Mg) : ∀ k a, ∃ (x : Nd) (r : List Nd), ptK names l k a = x :: r ∧ x.1 = -1
  | 0, a => ⟨_, [], rfl, rfl⟩
  | k + 1, a => by
    show ∃ (x : Nd) (r : List Nd), (if a = (mA l k).toNat then _ else _) = x :: r ∧ x.1 = -1
    by_cases e : a = (mA l k).toNat
    · rw [if_pos e]; exact ⟨_, _, rfl, rfl⟩
    · rw [if_neg e]; exact ptK_pos names l k a
theorem shf_shf (up : Int) (c pos : Nat) (t : List Nd) : (shf 0 c t).map (fun y => (y.1 + (pos : Int), y.2)) = shf pos (pos + c) t := by
  cases t with
  | nil => rfl
  | cons x r =>
    simp only [shf, List.map_cons, List.map_map]
    congr 1
    · simp
    · refine List.map_congr_left fun y _ => ?_
      simp only [Function.comp]
      congr 1
      omega
theorem shf_undr2 (up : Int) (pos : Nat) (s : ByteArray) (Pt Qt : List Nd) : shf up pos (undr (undr [(-1, s)] Pt) Qt) = (up, s) :: (shf pos (pos + 1) Pt ++ shf pos (pos + (1 + Pt.length)) Qt) := by
  have e : undr (undr [(-1, s)] Pt) Qt = (-1, s) :: (shf 0 1 Pt ++ shf 0 (1 + Pt.length) Qt) := by
    simp [undr, shf_len, Nat.add_comm]
  rw [e, shf, List.map_append, shf_shf up, shf_shf up]
theorem shf_id {names : List ByteArray} {l : List Mg} {k a : Nat} : shf (-1) 0 (ptK names l k a) = ptK names l k a := by
  obtain ⟨x, r, e, h⟩ := ptK_pos names l k a
  rw [e, shf]
  congr 1
  · rw [← h]
  · rw [List.map_congr_left (g := id) fun y _ => by simp]; simp
theorem plant_pt {n : Nat} {names : List ByteArray} {l : List Mg} {K : Nat} (hok : ∀ i, i < K → StepOk n l i) : ∀ k, k ≤ K → ∀ a, a < n → ∀ (up : Int) (pos f : Nat), k + 1 ≤ f → plantL (nmOf names) (belK l K) f up (nowK l k a) pos = shf up pos (ptK names l k a)
  | 0, _, a, ha => fun up pos f hf => by
    obtain ⟨f, rfl⟩ : ∃ g, f = g + 1 := ⟨f - 1, by omega⟩
    have e : nowK l 0 a = -1 - (a : Int) := rfl
    rw [e, plantL, if_pos (by omega)]
    have e2 : nmOf names (-1 - (a : Int)) = sA names a := by
      rw [nmOf, if_pos (by omega)]
      congr 1
      omega
    rw [e2]; rfl
  | k + 1, hk, a, ha => fun up pos f hf => by
    have ih := plant_pt (names := names) hok k (by omega)
    by_cases e : a = (mA l k).toNat
    · obtain ⟨f, rfl⟩ : ∃ g, f = g + 1 := ⟨f - 1, by omega⟩
      have e1 : nowK l (k + 1) a = (k : Int) := if_pos e
      have e2 : ptK names l (k + 1) a = undr (undr [(-1, innS k)] (ptK names l k (mA l k).toNat)) (ptK names l k (mB l k).toNat) := if_pos e
      obtain ⟨h1, h2, h3, _⟩ := hok k (by omega)
      have hb := belK_get (l := l) K k (by omega)
      have b1 : fN (belK l K) k = nowK l k (mA l k).toNat := congrArg Prod.fst hb
      have b2 : fD (belK l K) k = nowK l k (mB l k).toNat := congrArg Prod.snd hb
      have e3 : nmOf names (k : Int) = innS k := by rw [nmOf, if_neg (by omega), Int.toNat_natCast]
      rw [e1, e2, shf_undr2, plantL, if_neg (by omega), Int.toNat_natCast, b1, b2, e3, ih _ (by omega) pos (pos + 1) f (by omega), shf_len, ih _ (by omega) pos _ f (by omega)]
      rw [Nat.add_assoc]
    · have e1 : nowK l (k + 1) a = nowK l k a := if_neg e
      have e2 : ptK names l (k + 1) a = ptK names l k a := if_neg e
      rw [e1, e2]
      exact ih a ha up pos f (by omega)
theorem treeL_pt {n : Nat} {names : List ByteArray} {l : List Mg} (h0 : treeE n names l = 0) (hn1 : 1 ≤ n) (hn : n ≤ 24) (hok : StepsOk n l) : treeL n names l = ptK names l l.length 0 := by
  rw [treeL, if_pos h0, plant_pt (n := n) (fun i hi => hok.2 i hi) l.length (Nat.le_refl _) 0 (by omega) (-1) 0 25 (by have := hok.1; omega), shf_id]
/-- Names that are there already. -/
def HaveR (names : List ByteArray) (N : Nat) : Prop := ∀ i, i < names.length → (∀ k, k < i → sA names i ≠ sA names k) ∧ ∀ k, k < N → sA names i ≠ innS k
theorem hvI_zero {s : ByteArray} : ∀ {k : Nat}, (∀ j, j < k → s ≠ innS j) → hvI k s = 0
  | 0, _ => rfl
  | k + 1, h => by
    simp only [hvI, updS]
    rw [if_neg (h k (by omega))]
    exact hvI_zero fun j hj => h j (by omega)
theorem hvI_pos {s : ByteArray} {j : Nat} : ∀ {k : Nat}, j < k → s = innS j → 1 ≤ hvI k s
  | 0, h, _ => by omega
  | k + 1, h, e => by
    simp only [hvI, updS]
    split
    · have := (hvI_bd k (innS k)).1; omega
    · rename_i h2
      exact hvI_pos (k := k) (by by_cases e2 : j = k; · subst e2; exact absurd e h2
                                 · omega) e
theorem hvN_zero {names : List ByteArray} {N : Nat} {s : ByteArray} (h0 : hvI N s = 0) : ∀ {i : Nat}, (∀ j, j < i → s ≠ sA names j) → hvN names N i s = 0
  | 0, _ => h0
  | i + 1, h => by
    simp only [hvN, updS]
    rw [if_neg (h i (by omega))]
    exact hvN_zero h0 fun j hj => h j (by omega)
theorem hvN_pos {names : List ByteArray} {N : Nat} {s : ByteArray} {j : Nat} : ∀ {i : Nat}, j < i → s = sA names j → 1 ≤ hvN names N i s
  | 0, h, _ => by omega
  | i + 1, h, e => by
    simp only [hvN, updS]
    split
    · have := (hvN_bd names N i (sA names i)).1; omega
    · rename_i h2
      exact hvN_pos (i := i) (by by_cases e2 : j = i; · subst e2; exact absurd e h2
                                 · omega) e
theorem hvN_ge {names : List ByteArray} {N : Nat} (s : ByteArray) : ∀ i, hvI N s ≤ hvN names N i s
  | 0 => Int.le_refl _
  | i + 1 => by
    have := hvN_ge (names := names) (N := N) s i
    simp only [hvN, updS]
    split
    · rename_i e; rw [e] at this ⊢; omega
    · exact this
theorem have_iff (names : List ByteArray) (N : Nat) : HaveOk names N ↔ HaveR names N := by
  have key : ∀ i, hvN names N (i + 1) (sA names i) = hvN names N i (sA names i) + 1 := fun i => by simp [hvN, updS]
  constructor
  · intro h i hi
    have h1 := h i hi
    rw [key] at h1
    refine ⟨fun k hk e => ?_, fun k hk e => ?_⟩
    · have := hvN_pos (names := names) (N := N) hk e; omega
    · have h2 := hvI_pos hk e
      have h3 := hvN_ge (names := names) (N := N) (sA names i) i
      omega
  · intro h i hi
    obtain ⟨h1, h2⟩ := h i hi
    rw [key, hvN_zero (hvI_zero h2) h1]; omega
end Go.Proofs.YtahgffjkkdbjeaaDoor
