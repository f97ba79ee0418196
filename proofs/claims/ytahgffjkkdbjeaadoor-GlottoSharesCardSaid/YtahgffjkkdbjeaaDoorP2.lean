/- Plain laws of the stable sort: the order by keys and then by numbers; one insertion; two sorted rows made one. -/
import Derived.Below
namespace Go.Proofs.YtahgffjkkdbjeaaDoor
def ltK (K : Nat → Nat) (x y : Nat) : Prop := K x < K y ∨ (K x = K y ∧ x < y)
theorem ltK_trans {K : Nat → Nat} {x y z : Nat} (h : ltK K x y) (k : ltK K y z) : ltK K x z := by unfold ltK at *; omega
def cmp3 (a b : Nat) : Int := if a < b then -1 else if b < a then 1 else 0
theorem cmp3_lt (a b : Nat) : decide (cmp3 a b < 0) = decide (a < b) := by
  unfold cmp3
  (repeat' split) <;> simp <;> omega
def Srt (K : Nat → Nat) (f : Nat → Nat) (a b : Nat) : Prop := ∀ p q, a ≤ p → p < q → q < b → ltK K (f p) (f q)
def Same (f f' : Nat → Nat) (a b : Nat) : Prop := (∀ p, ¬ (a ≤ p ∧ p < b) → f' p = f p) ∧ ∀ v, (∃ p, (a ≤ p ∧ p < b) ∧ f' p = v) ↔ ∃ p, (a ≤ p ∧ p < b) ∧ f p = v
theorem Same.refl (f : Nat → Nat) (a b : Nat) : Same f f a b := ⟨fun _ _ => rfl, fun _ => Iff.rfl⟩
theorem Same.trans {f g h : Nat → Nat} {a b : Nat} (h1 : Same f g a b) (h2 : Same g h a b) : Same f h a b := ⟨fun p hp => (h2.1 p hp).trans (h1.1 p hp), fun v => (h2.2 v).trans (h1.2 v)⟩
/-- What is the same within a part is the same in the whole. -/
theorem Same.wide {f g : Nat → Nat} {a b a' b' : Nat} (h : Same f g a b) (ha : a' ≤ a) (hb : b ≤ b') : Same f g a' b' := by
  refine ⟨fun p hp => h.1 p (by omega), fun v => ⟨?_, ?_⟩⟩
  · rintro ⟨p, hp, rfl⟩
    by_cases e : a ≤ p ∧ p < b
    · obtain ⟨q, hq, hv⟩ := (h.2 _).1 ⟨p, e, rfl⟩
      exact ⟨q, by omega, hv⟩
    · exact ⟨p, hp, (h.1 p e).symm⟩
  · rintro ⟨p, hp, rfl⟩
    by_cases e : a ≤ p ∧ p < b
    · obtain ⟨q, hq, hv⟩ := (h.2 _).2 ⟨p, e, rfl⟩
      exact ⟨q, by omega, hv⟩
    · exact ⟨p, hp, h.1 p e⟩

/-- An insertion: the element that moves is at j; it comes of place i. -/
structure InsInv (K f fj : Nat → Nat) (a i j : Nat) : Prop where
  rng : a ≤ j ∧ j ≤ i
  out : ∀ p, ¬ (a ≤ p ∧ p ≤ i) → fj p = f p
  src : ∀ p, a ≤ p → p ≤ i → p ≠ j → ∃ q, a ≤ q ∧ q < i ∧ fj p = f q
  all : ∀ q, a ≤ q → q < i → ∃ p, a ≤ p ∧ p ≤ i ∧ p ≠ j ∧ fj p = f q
  mv : fj j = f i
  srt : ∀ p q, a ≤ p → p < q → q ≤ i → p ≠ j → q ≠ j → ltK K (fj p) (fj q)
  up : ∀ q, j < q → q ≤ i → ltK K (f i) (fj q)
/-- The first i places are sorted. -/
structure OutInv (K f fi : Nat → Nat) (a i : Nat) : Prop where
  out : ∀ p, ¬ (a ≤ p ∧ p < i) → fi p = f p
  src : ∀ p, a ≤ p → p < i → ∃ q, a ≤ q ∧ q < i ∧ fi p = f q
  all : ∀ q, a ≤ q → q < i → ∃ p, a ≤ p ∧ p < i ∧ fi p = f q
  srt : Srt K fi a i
theorem OutInv.start (K f : Nat → Nat) (a : Nat) : OutInv K f f a (a + 1) :=
  ⟨fun _ _ => rfl, fun p h1 h2 => ⟨p, h1, h2, rfl⟩, fun p h1 h2 => ⟨p, h1, h2, rfl⟩, fun p q h1 h2 h3 => by omega⟩
theorem OutInv.same {K f fi : Nat → Nat} {a i : Nat} (h : OutInv K f fi a i) : Same f fi a i :=
  ⟨h.out, fun v => ⟨fun ⟨p, hp, hv⟩ => let ⟨q, h1, h2, h3⟩ := h.src p hp.1 hp.2; ⟨q, ⟨h1, h2⟩, h3.symm.trans hv⟩, fun ⟨p, hp, hv⟩ => let ⟨q, h1, h2, h3⟩ := h.all p hp.1 hp.2; ⟨q, ⟨h1, h2⟩, h3.trans hv⟩⟩⟩
theorem InsInv.start {K f fi : Nat → Nat} {a i : Nat} (h : OutInv K f fi a i) (ha : a ≤ i) : InsInv K f fi a i i where
  rng := ⟨ha, Nat.le_refl _⟩
  out p hp := h.out p (by omega)
  src p h1 h2 h3 := h.src p h1 (by omega)
  all q h1 h2 := let ⟨p, a1, a2, a3⟩ := h.all q h1 h2; ⟨p, a1, by omega, by omega, a3⟩
  mv := h.out i (by omega)
  srt p q h1 h2 h3 h4 h5 := h.srt p q h1 h2 (by omega)
  up q h1 h2 := by omega
def swp1 (f : Nat → Nat) (j : Nat) : Nat → Nat := fun p => if p = j - 1 then f j else if p = j then f (j - 1) else f p
theorem InsInv.swap {K f fj : Nat → Nat} {a i j : Nat} (h : InsInv K f fj a i j) (ha : a < j) (hk : K (f i) < K (fj (j - 1))) : InsInv K f (swp1 fj j) a i (j - 1) := by
  have hr := h.rng
  refine ⟨by omega, fun p hp => ?_, fun p h1 h2 h3 => ?_, fun q h1 h2 => ?_, ?_, fun p q h1 h2 h3 h4 h5 => ?_, fun q h1 h2 => ?_⟩
  · unfold swp1
    rw [if_neg (by omega), if_neg (by omega)]
    exact h.out p hp
  · unfold swp1
    rw [if_neg h3]
    by_cases e : p = j
    · rw [if_pos e]
      exact h.src (j - 1) (by omega) (by omega) (by omega)
    · rw [if_neg e]
      exact h.src p h1 h2 e
  · obtain ⟨p, a1, a2, a3, a4⟩ := h.all q h1 h2
    by_cases e : p = j - 1
    · exact ⟨j, by omega, by omega, by omega, by unfold swp1; rw [if_neg (by omega), if_pos rfl, ← e]; exact a4⟩
    · exact ⟨p, a1, a2, e, by unfold swp1; rw [if_neg e, if_neg a3]; exact a4⟩
  · unfold swp1
    rw [if_pos rfl]
    exact h.mv
  · unfold swp1
    rw [if_neg h4, if_neg h5]
    by_cases e1 : p = j
    · rw [if_pos e1, if_neg (by omega)]
      exact h.srt (j - 1) q (by omega) (by omega) h3 (by omega) (by omega)
    · rw [if_neg e1]
      by_cases e2 : q = j
      · rw [if_pos e2]
        exact h.srt p (j - 1) h1 (by omega) (by omega) e1 (by omega)
      · rw [if_neg e2]
        exact h.srt p q h1 h2 h3 e1 e2
  · unfold swp1
    rw [if_neg (by omega)]
    by_cases e : q = j
    · rw [if_pos e]
      exact .inl hk
    · rw [if_neg e]
      exact h.up q (by omega) h2
theorem InsInv.done {K f fj : Nat → Nat} {a i j : Nat} (h : InsInv K f fj a i j) (ht : ∀ q, a ≤ q → q < i → K (f q) = K (f i) → f q < f i) (hk : j = a ∨ K (fj (j - 1)) ≤ K (f i)) : OutInv K f fj a (i + 1) := by
  have hr := h.rng
  have low : ∀ p, a ≤ p → p < j → ltK K (fj p) (f i) := by
    intro p h1 h2
    have hj : ltK K (fj (j - 1)) (f i) := by
      rcases hk with hk | hk
      · omega
      · obtain ⟨q, b1, b2, b3⟩ := h.src (j - 1) (by omega) (by omega) (by omega)
        unfold ltK
        rcases Nat.lt_or_ge (K (fj (j - 1))) (K (f i)) with e | e
        · exact .inl e
        · have e2 : K (fj (j - 1)) = K (f i) := by omega
          exact .inr ⟨e2, by rw [b3]; exact ht q b1 b2 (by rw [← b3]; exact e2)⟩
    by_cases e : p = j - 1
    · rw [e]; exact hj
    · exact ltK_trans (h.srt p (j - 1) h1 (by omega) (by omega) (by omega) (by omega)) hj
  refine ⟨fun p hp => h.out p (by omega), fun p h1 h2 => ?_, fun q h1 h2 => ?_, fun p q h1 h2 h3 => ?_⟩
  · by_cases e : p = j
    · exact ⟨i, by omega, by omega, by rw [e]; exact h.mv⟩
    · obtain ⟨q, b1, b2, b3⟩ := h.src p h1 (by omega) e
      exact ⟨q, b1, by omega, b3⟩
  · by_cases e : q = i
    · exact ⟨j, by omega, by omega, by rw [e]; exact h.mv⟩
    · obtain ⟨p, b1, b2, _, b4⟩ := h.all q h1 (by omega)
      exact ⟨p, b1, by omega, b4⟩
  · by_cases e1 : p = j
    · rw [e1, h.mv]; exact h.up q (by omega) (by omega)
    · by_cases e2 : q = j
      · rw [e2, h.mv]; exact low p h1 (by omega)
      · exact h.srt p q h1 h2 (by omega) e1 e2
end Go.Proofs.YtahgffjkkdbjeaaDoor
