/- Plain laws: when languages are joined. -/
import Derived.Test.YtahgffjkkdbjeaaDoorZ1
namespace Go.Proofs.YtahgffjkkdbjeaaDoor
open Go.RowKit
def aN (l : List Mg) (k : Nat) : Nat := (mA l k).toNat
def bN (l : List Mg) (k : Nat) : Nat := (mB l k).toNat
/-- The least language of each language's cluster, after k merges. -/
def lsK (l : List Mg) : Nat → Nat → Nat
  | 0 => fun a => a
  | k + 1 => fun a => if lsK l k a = bN l k then aN l k else lsK l k a
def jH (l : List Mg) (k : Nat) : Fr := lowF (mN l k, mD l k)
/-- Merge k joins two languages. -/
def JnS (l : List Mg) (k a b : Nat) : Prop := (lsK l k a = aN l k ∧ lsK l k b = bN l k) ∨ (lsK l k b = aN l k ∧ lsK l k a = bN l k)
instance (l : List Mg) (k a b : Nat) : Decidable (JnS l k a b) := by unfold JnS; infer_instance
/-- The height at which two languages are joined, after k merges. -/
def jnK (l : List Mg) : Nat → Nat → Nat → Fr
  | 0 => fun _ _ => (0, 1)
  | k + 1 => fun a b => if JnS l k a b then jH l k else jnK l k a b
def jnF (l : List Mg) (k n : Nat) : Nat → Fr := fun t => jnK l k (t / n) (t % n)
def jnL (l : List Mg) (k n : Nat) : List Fr := (List.range (n * n)).map (jnF l k n)
theorem jnL_len (l : List Mg) (k n : Nat) : (jnL l k n).length = n * n := by simp [jnL]
/-- What Joined answers. -/
def joinE (n : Int) (l : List Mg) : Except Int Nat := if n < 1 ∨ 24 < n then .error 3 else if StepsOk n.toNat l then .ok n.toNat else .error 2
/-- Places of a square table. -/
theorem sq_at {n a b : Nat} (hb : b < n) : (a * n + b) / n = a ∧ (a * n + b) % n = b := by
  refine ⟨?_, ?_⟩
  · rw [Nat.mul_comm, Nat.mul_add_div (by omega), Nat.div_eq_of_lt hb, Nat.add_zero]
  · rw [Nat.mul_comm, Nat.mul_add_mod, Nat.mod_eq_of_lt hb]
theorem sq_lt {n a b : Nat} (ha : a < n) (hb : b < n) : a * n + b < n * n :=
  Nat.lt_of_lt_of_le (by rw [Nat.succ_mul]; omega : a * n + b < (a + 1) * n) (Nat.mul_le_mul_right n ha)
theorem sq_of {n t : Nat} (ht : t < n * n) : t / n < n ∧ t % n < n ∧ t = t / n * n + t % n := by
  have hn : 0 < n := by rcases Nat.eq_zero_or_pos n with h | h; · subst h; simp at ht
                        · exact h
  exact ⟨(Nat.div_lt_iff_lt_mul hn).2 ht, Nat.mod_lt _ hn, by rw [Nat.mul_comm]; exact (Nat.div_add_mod t n).symm⟩
/-- A table with some places set. -/
noncomputable def setP (n : Nat) (S : Nat → Nat → Prop) (v : Fr) (f : Nat → Fr) : Nat → Fr := fun t => @ite _ (S (t / n) (t % n)) (Classical.propDecidable _) v (f t)
theorem setP_yes {n t : Nat} {S : Nat → Nat → Prop} {v : Fr} {f : Nat → Fr} (h : S (t / n) (t % n)) : setP n S v f t = v := if_pos h
theorem setP_no {n t : Nat} {S : Nat → Nat → Prop} {v : Fr} {f : Nat → Fr} (h : ¬ S (t / n) (t % n)) : setP n S v f t = f t := if_neg h
theorem setP_congr {n t : Nat} {S S' : Nat → Nat → Prop} {v : Fr} {f f' : Nat → Fr} (h : S (t / n) (t % n) ↔ S' (t / n) (t % n)) (e : ¬ S' (t / n) (t % n) → f t = f' t) : setP n S v f t = setP n S' v f' t := by
  by_cases h2 : S' (t / n) (t % n)
  · rw [setP_yes h2, setP_yes (h.2 h2)]
  · rw [setP_no h2, setP_no fun h3 => h2 (h.1 h3), e h2]
theorem setP_step {n x y t : Nat} {S S' : Nat → Nat → Prop} {v : Fr} {f : Nat → Fr} (hx : x < n) (hy : y < n) (ht : t < n * n) (h : ∀ p q, p < n → q < n → (S' p q ↔ S p q ∨ (p = x ∧ q = y) ∨ (p = y ∧ q = x))) :
    updF (updF (setP n S v f) (x * n + y) v) (y * n + x) v t = setP n S' v f t := by
  obtain ⟨h1, h2, h3⟩ := sq_of ht
  have hh := h (t / n) (t % n) h1 h2
  have e1 : t = x * n + y ↔ (t / n = x ∧ t % n = y) := ⟨fun e => by rw [e]; exact sq_at hy, fun ⟨q1, q2⟩ => by rw [← q1, ← q2]; exact h3⟩
  have e2 : t = y * n + x ↔ (t / n = y ∧ t % n = x) := ⟨fun e => by rw [e]; exact sq_at hx, fun ⟨q1, q2⟩ => by rw [← q1, ← q2]; exact h3⟩
  unfold updF
  by_cases c2 : t = y * n + x
  · rw [if_pos c2, setP_yes (hh.2 (.inr (.inr (e2.1 c2))))]
  · rw [if_neg c2]
    by_cases c1 : t = x * n + y
    · rw [if_pos c1, setP_yes (hh.2 (.inr (.inl (e1.1 c1))))]
    · rw [if_neg c1]
      refine setP_congr ?_ fun _ => rfl
      rw [hh]
      constructor
      · exact .inl
      · rintro (h | h | h)
        · exact h
        · exact absurd (e1.2 h) c1
        · exact absurd (e2.2 h) c2
theorem jnF_next (l : List Mg) (k n t : Nat) : jnF l (k + 1) n t = setP n (JnS l k) (jH l k) (jnF l k n) t := by
  show (if JnS l k (t / n) (t % n) then jH l k else jnK l k (t / n) (t % n)) = _
  by_cases h : JnS l k (t / n) (t % n)
  · rw [if_pos h, setP_yes h]
  · rw [if_neg h, setP_no h]; rfl
/-- Clusters after k merges, as lists. -/
structure LsR (n : Nat) (C : List (List Nat)) (ls : Nat → Nat) : Prop where
  mem : ∀ p, p < n → ∀ i, i < C.length → (ls p = hC C i ↔ p ∈ cC C i)
theorem LsR.start (n : Nat) (l : List Mg) : LsR n (aloneC n) (lsK l 0) := by
  refine ⟨fun p hp i hi => ?_⟩
  rw [aloneC_len] at hi
  rw [aloneC_hd hi, aloneC_at hi, List.mem_singleton]; rfl
theorem LsR.next {n : Nat} {C : List (List Nat)} {s ls : Nat → Nat} (hs : ClS n C s) (h : LsR n C ls) {i k : Nat} (hik : i < k) (hk : k < C.length) :
    LsR n (rj C i k C.length) (fun a => if ls a = hC C k then hC C i else ls a) := by
  obtain ⟨hl, hg, hI, hh⟩ := hs.rjF hik hk
  refine ⟨fun p hp t ht => ?_⟩
  rw [hl] at ht
  rw [hh t ht, hg t ht]
  obtain ⟨q1, q2, q3⟩ := hI t ht
  have hi : i < C.length := by omega
  have hne := hs.hne hi hk (by omega)
  by_cases e : t = i
  · rw [if_pos e, List.mem_append, ← h.mem p hp i hi, ← h.mem p hp k hk, q3.1 e]
    by_cases e2 : ls p = hC C k
    · rw [if_pos e2]; simp [e2]
    · rw [if_neg e2]; simp [e2]
  · rw [if_neg e, ← h.mem p hp _ q1]
    have n1 := hs.hne q1 hi (fun e2 => e (q3.2 e2))
    have n2 := hs.hne q1 hk q2
    by_cases e2 : ls p = hC C k
    · rw [if_pos e2]
      constructor
      · intro e3; exact absurd e3.symm n1
      · intro e3; exact absurd (e3.symm.trans e2) n2
    · rw [if_neg e2]
/-- A good step's two clusters. -/
theorem StepOk.idx {n k : Nat} {l : List Mg} {C : List (List Nat)} (h : StepOk n l k) (hs : ClS n C (stS n l k)) : ∃ i j, i < j ∧ j < C.length ∧ hC C i = aN l k ∧ hC C j = bN l k := by
  obtain ⟨h1, h2, h3, h4, h5, _⟩ := h
  obtain ⟨i, hi, e1⟩ := hs.live _ (Nat.pos_of_ne_zero h4)
  obtain ⟨j, hj, e2⟩ := hs.live _ (Nat.pos_of_ne_zero h5)
  refine ⟨i, j, ?_, hj, e1, e2⟩
  rcases Nat.lt_trichotomy i j with h | h | h
  · exact h
  · subst h; omega
  · have := hs.inc j i h hi; omega
theorem jnK_comm (l : List Mg) : ∀ k a b, jnK l k a b = jnK l k b a
  | 0, _, _ => rfl
  | k + 1, a, b => by
    have e : JnS l k a b ↔ JnS l k b a := ⟨fun h => h.elim .inr .inl, fun h => h.elim .inr .inl⟩
    show (if JnS l k a b then jH l k else jnK l k a b) = (if JnS l k b a then jH l k else jnK l k b a)
    rw [jnK_comm l k a b]
    by_cases h : JnS l k a b
    · rw [if_pos h, if_pos (e.1 h)]
    · rw [if_neg h, if_neg (fun h2 => h (e.2 h2))]
/-- The rounds of the program's two loops. -/
def JnA (ls : Nat → Nat) (A B a b p q : Nat) : Prop := ((p < a ∨ p = a ∧ q < b) ∧ ls p = A ∧ ls q = B) ∨ ((q < a ∨ q = a ∧ p < b) ∧ ls q = A ∧ ls p = B)
/-- The rounds of the document's two loops. -/
def JnR (X Y : List Nat) (i j p q : Nat) : Prop := ∃ u v, u < X.length ∧ v < Y.length ∧ (u < i ∨ u = i ∧ v < j) ∧ ((p = X.getD u 0 ∧ q = Y.getD v 0) ∨ (q = X.getD u 0 ∧ p = Y.getD v 0))
theorem mem_getD {X : List Nat} {p : Nat} : p ∈ X ↔ ∃ u, u < X.length ∧ p = X.getD u 0 := by
  constructor
  · intro h
    obtain ⟨u, hu, rfl⟩ := List.getElem_of_mem h
    exact ⟨u, hu, by simp [hu]⟩
  · rintro ⟨u, hu, rfl⟩
    rw [List.getD_eq_getElem?_getD, List.getElem?_eq_getElem hu]
    exact List.getElem_mem hu
theorem JnR_all (X Y : List Nat) (p q : Nat) : JnR X Y X.length 0 p q ↔ (p ∈ X ∧ q ∈ Y) ∨ (q ∈ X ∧ p ∈ Y) := by
  simp only [mem_getD]
  constructor
  · rintro ⟨u, v, hu, hv, _, h | h⟩
    · exact .inl ⟨⟨u, hu, h.1⟩, ⟨v, hv, h.2⟩⟩
    · exact .inr ⟨⟨u, hu, h.1⟩, ⟨v, hv, h.2⟩⟩
  · rintro (⟨⟨u, hu, h1⟩, ⟨v, hv, h2⟩⟩ | ⟨⟨u, hu, h1⟩, ⟨v, hv, h2⟩⟩)
    · exact ⟨u, v, hu, hv, .inl hu, .inl ⟨h1, h2⟩⟩
    · exact ⟨u, v, hu, hv, .inl hu, .inr ⟨h1, h2⟩⟩
theorem JnR_next {X Y : List Nat} {i j : Nat} (hi : i < X.length) (hj : j < Y.length) (p q : Nat) : JnR X Y i (j + 1) p q ↔ JnR X Y i j p q ∨ (p = X.getD i 0 ∧ q = Y.getD j 0) ∨ (p = Y.getD j 0 ∧ q = X.getD i 0) := by
  constructor
  · rintro ⟨u, v, hu, hv, h, h2⟩
    by_cases e : u = i ∧ v = j
    · obtain ⟨rfl, rfl⟩ := e
      exact .inr (h2.imp id And.symm)
    · exact .inl ⟨u, v, hu, hv, by omega, h2⟩
  · rintro (⟨u, v, hu, hv, h, h2⟩ | h | h)
    · exact ⟨u, v, hu, hv, by omega, h2⟩
    · exact ⟨i, j, hi, hj, by omega, .inl h⟩
    · exact ⟨i, j, hi, hj, by omega, .inr h.symm⟩
theorem JnR_row {X Y : List Nat} {i : Nat} (p q : Nat) : JnR X Y i Y.length p q ↔ JnR X Y (i + 1) 0 p q := by
  constructor
  · rintro ⟨u, v, hu, hv, h, h2⟩; exact ⟨u, v, hu, hv, by omega, h2⟩
  · rintro ⟨u, v, hu, hv, h, h2⟩; exact ⟨u, v, hu, hv, by omega, h2⟩
theorem JnR_none (X Y : List Nat) (p q : Nat) : ¬ JnR X Y 0 0 p q := by rintro ⟨u, v, _, _, h, _⟩; omega
theorem JnA_none (ls : Nat → Nat) (A B p q : Nat) : ¬ JnA ls A B 0 0 p q := by rintro (⟨h, _⟩ | ⟨h, _⟩) <;> omega
theorem JnA_row {ls : Nat → Nat} {A B a n p q : Nat} (hp : p < n) (hq : q < n) : JnA ls A B a n p q ↔ JnA ls A B (a + 1) 0 p q := by
  constructor
  · rintro (⟨h, h2⟩ | ⟨h, h2⟩)
    · exact .inl ⟨by omega, h2⟩
    · exact .inr ⟨by omega, h2⟩
  · rintro (⟨h, h2⟩ | ⟨h, h2⟩)
    · exact .inl ⟨by omega, h2⟩
    · exact .inr ⟨by omega, h2⟩
theorem JnA_yes {ls : Nat → Nat} {A B a b p q : Nat} (h : ls a = A ∧ ls b = B) : JnA ls A B a (b + 1) p q ↔ JnA ls A B a b p q ∨ (p = a ∧ q = b) ∨ (p = b ∧ q = a) := by
  constructor
  · rintro (⟨h1, h2⟩ | ⟨h1, h2⟩)
    · by_cases e : p = a ∧ q = b
      · exact .inr (.inl e)
      · exact .inl (.inl ⟨by omega, h2⟩)
    · by_cases e : p = b ∧ q = a
      · exact .inr (.inr e)
      · exact .inl (.inr ⟨by omega, h2⟩)
  · rintro ((⟨h1, h2⟩ | ⟨h1, h2⟩) | ⟨rfl, rfl⟩ | ⟨rfl, rfl⟩)
    · exact .inl ⟨by omega, h2⟩
    · exact .inr ⟨by omega, h2⟩
    · exact .inl ⟨by omega, h⟩
    · exact .inr ⟨by omega, h⟩
theorem JnA_no {ls : Nat → Nat} {A B a b p q : Nat} (h : ¬ (ls a = A ∧ ls b = B)) : JnA ls A B a (b + 1) p q ↔ JnA ls A B a b p q := by
  constructor
  · rintro (⟨h1, h2⟩ | ⟨h1, h2⟩)
    · by_cases e : p = a ∧ q = b
      · obtain ⟨rfl, rfl⟩ := e; exact absurd h2 h
      · exact .inl ⟨by omega, h2⟩
    · by_cases e : q = a ∧ p = b
      · obtain ⟨rfl, rfl⟩ := e; exact absurd h2 h
      · exact .inr ⟨by omega, h2⟩
  · rintro (⟨h1, h2⟩ | ⟨h1, h2⟩)
    · exact .inl ⟨by omega, h2⟩
    · exact .inr ⟨by omega, h2⟩
theorem JnA_all {l : List Mg} {k n p q : Nat} (hp : p < n) (hq : q < n) : JnA (lsK l k) (aN l k) (bN l k) n 0 p q ↔ JnS l k p q := by
  constructor
  · rintro (⟨_, h⟩ | ⟨_, h⟩)
    · exact .inl h
    · exact .inr h
  · rintro (h | h)
    · exact .inl ⟨by omega, h⟩
    · exact .inr ⟨by omega, h⟩
theorem JnS_of {l : List Mg} {k n i j p q : Nat} {C : List (List Nat)} (hr : LsR n C (lsK l k)) (hi : i < C.length) (hj : j < C.length) (ei : hC C i = aN l k) (ej : hC C j = bN l k) (hp : p < n) (hq : q < n) : JnS l k p q ↔ (p ∈ cC C i ∧ q ∈ cC C j) ∨ (q ∈ cC C i ∧ p ∈ cC C j) := by
  rw [← hr.mem p hp i hi, ← hr.mem q hq j hj, ← hr.mem q hq i hi, ← hr.mem p hp j hj, ei, ej]; rfl
end Go.Proofs.YtahgffjkkdbjeaaDoor
