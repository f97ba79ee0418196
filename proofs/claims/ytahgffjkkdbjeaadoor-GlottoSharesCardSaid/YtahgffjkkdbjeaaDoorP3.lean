/- Plain laws of the stable sort's merge: a rotation of two sorted rows. -/
import Derived.Test.YtahgffjkkdbjeaaDoorP2
namespace Go.Proofs.YtahgffjkkdbjeaaDoor
/-- As rotF, of numbers from 0 on. -/
def rotN (f : Nat → Nat) (a m b : Nat) : Nat → Nat := fun p => if a ≤ p ∧ p < a + (b - m) then f (p - a + m) else if a + (b - m) ≤ p ∧ p < b then f (p - (b - m)) else f p
theorem rotN_same (f : Nat → Nat) {a m b : Nat} (h1 : a ≤ m) (h2 : m ≤ b) : Same f (rotN f a m b) a b := by
  refine ⟨fun p hp => ?_, fun v => ⟨?_, ?_⟩⟩
  · unfold rotN; rw [if_neg (by omega), if_neg (by omega)]
  · rintro ⟨p, hp, rfl⟩
    unfold rotN
    by_cases e : a ≤ p ∧ p < a + (b - m)
    · exact ⟨p - a + m, by omega, by rw [if_pos e]⟩
    · exact ⟨p - (b - m), by omega, by rw [if_neg e, if_pos (by omega)]⟩
  · rintro ⟨p, hp, rfl⟩
    unfold rotN
    by_cases e : p < m
    · exact ⟨p + (b - m), by omega, by rw [if_neg (by omega), if_pos (by omega), Nat.add_sub_cancel]⟩
    · exact ⟨p - m + a, by omega, by rw [if_pos (by omega)]; congr 1; omega⟩
theorem rotN_id (f : Nat → Nat) {a m b : Nat} (h1 : a ≤ m) (h2 : m ≤ b) (h : a = m ∨ b = m) : rotN f a m b = f := by
  funext p
  unfold rotN
  (repeat' split) <;> first | rfl | (exfalso; omega) | (congr 1; omega)
/-- All sorted, where the four parts stand rightly to each other. -/
theorem rotN_srt {K f : Nat → Nat} {a m b s t : Nat} (hA : Srt K f a m) (hB : Srt K f m b) (hs : a ≤ s ∧ s ≤ m) (ht : m ≤ t ∧ t ≤ b)
    (h1 : ∀ p q, a ≤ p → p < s → t ≤ q → q < b → ltK K (f p) (f q)) (h2 : ∀ p q, s ≤ p → p < m → m ≤ q → q < t → ltK K (f q) (f p))
    (h3 : ∀ p q, s ≤ p → p < m → t ≤ q → q < b → ltK K (f p) (f q)) (h4 : ∀ p q, a ≤ p → p < s → m ≤ q → q < t → ltK K (f p) (f q)) : Srt K (rotN f s m t) a b := by
  intro p q hp hpq hq
  rcases Nat.lt_or_ge p s with e1 | e1 <;> rcases Nat.lt_or_ge p t with e2 | e2 <;> rcases Nat.lt_or_ge q s with e3 | e3 <;> rcases Nat.lt_or_ge q t with e4 | e4
  all_goals
    unfold rotN
    (repeat' split)
  all_goals first
    | (exfalso; omega)
    | (refine hB _ _ ?_ ?_ ?_ <;> omega)
    | (refine hA _ _ ?_ ?_ ?_ <;> omega)
    | (refine h1 _ _ ?_ ?_ ?_ ?_ <;> omega)
    | (refine h2 _ _ ?_ ?_ ?_ ?_ <;> omega)
    | (refine h3 _ _ ?_ ?_ ?_ ?_ <;> omega)
    | (refine h4 _ _ ?_ ?_ ?_ ?_ <;> omega)
/-- What a merge asks. -/
structure MergePre (K f : Nat → Nat) (a m b : Nat) : Prop where
  am : a < m
  mb : m < b
  left : Srt K f a m
  right : Srt K f m b
  tie : ∀ p q, a ≤ p → p < m → m ≤ q → q < b → K (f p) = K (f q) → f p < f q
theorem MergePre.le {K f : Nat → Nat} {a m b : Nat} (h : MergePre K f a m b) {p q : Nat} (h1 : a ≤ p) (h2 : p < m) (h3 : m ≤ q) (h4 : q < b) (hk : K (f p) ≤ K (f q)) : ltK K (f p) (f q) := by
  rcases Nat.lt_or_ge (K (f p)) (K (f q)) with e | e
  · exact .inl e
  · have e2 : K (f p) = K (f q) := by omega
    exact .inr ⟨e2, h.tie p q h1 h2 h3 h4 e2⟩
theorem Srt.le {K f : Nat → Nat} {a b p q : Nat} (h : Srt K f a b) (h1 : a ≤ p) (h2 : p ≤ q) (h3 : q < b) : K (f p) ≤ K (f q) := by
  rcases Nat.lt_or_ge p q with e | e
  · rcases h p q h1 e h3 with k | k <;> omega
  · have : p = q := by omega
    subst this; exact Nat.le_refl _
/-- The first search (one element on the left): i to j are left. -/
structure Find1 (K f : Nat → Nat) (a m b i j : Nat) : Prop where
  rng : m ≤ i ∧ i ≤ j ∧ j ≤ b
  lo : ∀ q, m ≤ q → q < i → K (f q) < K (f a)
  hi : ∀ q, j ≤ q → q < b → K (f a) ≤ K (f q)
theorem Find1.srt {K f : Nat → Nat} {a m b i : Nat} (hp : MergePre K f a m b) (h : Find1 K f a m b i i) (e : m = a + 1) : Srt K (rotN f a m i) a b := by
  have hr := h.rng
  refine rotN_srt hp.left hp.right (by omega) (by omega) (fun p q h1 h2 => by omega) (fun p q h1 h2 h3 h4 => ?_) (fun p q h1 h2 h3 h4 => ?_) (fun p q h1 h2 => by omega)
  · have : p = a := by omega
    subst this; exact .inl (h.lo q h3 h4)
  · have : p = a := by omega
    subst this; exact hp.le (by omega) h2 (by omega) h4 (h.hi q h3 h4)
/-- The second search (one element on the right). -/
structure Find2 (K f : Nat → Nat) (a m i j : Nat) : Prop where
  rng : a ≤ i ∧ i ≤ j ∧ j ≤ m
  lo : ∀ q, a ≤ q → q < i → K (f q) ≤ K (f m)
  hi : ∀ q, j ≤ q → q < m → K (f m) < K (f q)
theorem Find2.srt {K f : Nat → Nat} {a m b i : Nat} (hp : MergePre K f a m b) (h : Find2 K f a m i i) (e : b = m + 1) : Srt K (rotN f i m b) a b := by
  have hr := h.rng
  refine rotN_srt hp.left hp.right (by omega) (by omega) (fun p q h1 h2 => by omega) (fun p q h1 h2 h3 h4 => ?_) (fun p q h1 h2 h3 h4 => by omega) (fun p q h1 h2 h3 h4 => ?_)
  · have : q = m := by omega
    subst this; exact .inl (h.hi p h1 h2)
  · have : q = m := by omega
    subst this; exact hp.le h1 (by omega) (by omega) (by omega) (h.lo p h1 h2)
/-- The third search. -/
structure Find3 (K f : Nat → Nat) (p s0 r0 i j : Nat) : Prop where
  rng : s0 ≤ i ∧ i ≤ j ∧ j ≤ r0
  lo : ∀ c, s0 ≤ c → c < i → K (f c) ≤ K (f (p - c))
  hi : ∀ c, j ≤ c → c < r0 → K (f (p - c)) < K (f c)
/-- The bounds of the third search. -/
structure Bds (a m b mid s0 r0 : Nat) : Prop where
  mid1 : mid = (a + b) / 2
  cases : (m > mid ∧ s0 = mid + m - b ∧ r0 = mid) ∨ (m ≤ mid ∧ s0 = a ∧ r0 = m)
theorem Bds.ok {a m b mid s0 r0 : Nat} (h : Bds a m b mid s0 r0) (h1 : a < m) (h2 : m < b) : a ≤ s0 ∧ s0 ≤ r0 ∧ r0 ≤ m ∧ r0 ≤ mid ∧ mid < b ∧ a < mid ∨ (a ≤ s0 ∧ s0 ≤ r0 ∧ r0 ≤ m ∧ mid < b ∧ a ≤ mid) := by
  have := h.mid1
  rcases h.cases with ⟨c1, c2, c3⟩ | ⟨c1, c2, c3⟩ <;> omega
theorem Bds.idx {a m b mid s0 r0 : Nat} (h : Bds a m b mid s0 r0) (h1 : a < m) (h2 : m < b) {c : Nat} (hc : s0 ≤ c) (hc2 : c < r0) : a ≤ c ∧ c < m ∧ m ≤ mid + m - 1 - c ∧ mid + m - 1 - c < b ∧ c ≤ mid + m - 1 := by
  have := h.mid1
  rcases h.cases with ⟨c1, c2, c3⟩ | ⟨c1, c2, c3⟩ <;> omega
theorem Find3.low {K f : Nat → Nat} {a m b mid s0 r0 i j c : Nat} (hp : MergePre K f a m b) (hb : Bds a m b mid s0 r0) (h : Find3 K f (mid + m - 1) s0 r0 i j) (h1 : i ≤ c) (h2 : c < j) (hk : K (f c) ≤ K (f (mid + m - 1 - c))) : Find3 K f (mid + m - 1) s0 r0 (c + 1) j := by
  have hr := h.rng
  refine ⟨by omega, fun d d1 d2 => ?_, h.hi⟩
  rcases Nat.lt_or_ge d i with e | e
  · exact h.lo d d1 e
  · have i1 := hb.idx hp.am hp.mb d1 (show d < r0 by omega)
    have i2 := hb.idx hp.am hp.mb (show s0 ≤ c by omega) (show c < r0 by omega)
    have k1 := hp.left.le i1.1 (show d ≤ c by omega) i2.2.1
    have k2 := hp.right.le i2.2.2.1 (show mid + m - 1 - c ≤ mid + m - 1 - d by omega) i1.2.2.2.1
    omega
theorem Find3.high {K f : Nat → Nat} {a m b mid s0 r0 i j c : Nat} (hp : MergePre K f a m b) (hb : Bds a m b mid s0 r0) (h : Find3 K f (mid + m - 1) s0 r0 i j) (h1 : i ≤ c) (h2 : c < j) (hk : K (f (mid + m - 1 - c)) < K (f c)) : Find3 K f (mid + m - 1) s0 r0 i c := by
  have hr := h.rng
  refine ⟨by omega, h.lo, fun d d1 d2 => ?_⟩
  rcases Nat.lt_or_ge d j with e | e
  · have i1 := hb.idx hp.am hp.mb (show s0 ≤ d by omega) d2
    have i2 := hb.idx hp.am hp.mb (show s0 ≤ c by omega) (show c < r0 by omega)
    have k1 := hp.left.le i2.1 (show c ≤ d by omega) i1.2.1
    have k2 := hp.right.le i1.2.2.1 (show mid + m - 1 - d ≤ mid + m - 1 - c by omega) i2.2.2.2.1
    omega
  · exact h.hi d e d2
/-- Behind the third search: the two halves, and how they stand to each other. -/
structure Halves (K f f1 : Nat → Nat) (a m b mid s t : Nat) : Prop where
  rng : a ≤ s ∧ s ≤ mid ∧ mid ≤ t ∧ t ≤ b ∧ s ≤ m ∧ m ≤ t ∧ a ≤ mid ∧ mid ≤ b
  same : Same f f1 a b
  left : s = a ∨ s = mid → Srt K f1 a mid
  right : t = mid ∨ t = b → Srt K f1 mid b
  leftP : a < s → s < mid → MergePre K f1 a s mid
  rightP : mid < t → t < b → MergePre K f1 mid t b
  cross : ∀ p q, a ≤ p → p < mid → mid ≤ q → q < b → ltK K (f1 p) (f1 q)
theorem Find3.halves {K f : Nat → Nat} {a m b mid s0 r0 s : Nat} (hp : MergePre K f a m b) (hb : Bds a m b mid s0 r0) (h : Find3 K f (mid + m - 1) s0 r0 s s) : Halves K f (rotN f s m (mid + m - s)) a m b mid s (mid + m - s) := by
  have hr := h.rng
  have hm := hb.mid1
  have am := hp.am
  have mb := hp.mb
  have r1 : a ≤ s ∧ s ≤ mid ∧ mid ≤ mid + m - s ∧ mid + m - s ≤ b ∧ s ≤ m ∧ m ≤ mid + m - s ∧ a ≤ mid ∧ mid ≤ b := by
    rcases hb.cases with ⟨c1, c2, c3⟩ | ⟨c1, c2, c3⟩ <;> omega
  obtain ⟨t, ht⟩ : ∃ t, t = mid + m - s := ⟨_, rfl⟩
  rw [← ht] at r1 ⊢
  have x1 : ∀ p q, a ≤ p → p < s → t ≤ q → q < b → ltK K (f p) (f q) := by
    intro p q h1 h2 h3 h4
    have hs : s0 < s := by rcases hb.cases with ⟨c1, c2, c3⟩ | ⟨c1, c2, c3⟩ <;> omega
    have hk := h.lo (s - 1) (by omega) (by omega)
    have i2 := hb.idx am mb (show s0 ≤ s - 1 by omega) (show s - 1 < r0 by omega)
    rw [show mid + m - 1 - (s - 1) = t by omega] at hk
    have k1 := hp.left.le h1 (show p ≤ s - 1 by omega) (by omega)
    have k2 := hp.right.le (show m ≤ t by omega) h3 h4
    exact hp.le h1 (by omega) (by omega) h4 (by omega)
  have x2 : ∀ p q, s ≤ p → p < m → m ≤ q → q < t → ltK K (f q) (f p) := by
    intro p q h1 h2 h3 h4
    have hs : s < r0 := by rcases hb.cases with ⟨c1, c2, c3⟩ | ⟨c1, c2, c3⟩ <;> omega
    have hk := h.hi s (by omega) hs
    rw [show mid + m - 1 - s = t - 1 by omega] at hk
    have k1 := hp.left.le (show a ≤ s by omega) h1 h2
    have k2 := hp.right.le h3 (show q ≤ t - 1 by omega) (by omega)
    exact .inl (by omega)
  have hc : s + (t - m) = mid := by omega
  have sm := (rotN_same f (show s ≤ m by omega) (show m ≤ t by omega)).wide (a' := a) (b' := b) (by omega) (by omega)
  have rl : ∀ p, p < s → rotN f s m t p = f p := fun p h1 => by unfold rotN; rw [if_neg (by omega), if_neg (by omega)]
  have rb : ∀ p, s ≤ p → p < mid → rotN f s m t p = f (p - s + m) := fun p h1 h2 => by unfold rotN; rw [if_pos (by omega)]
  have ra : ∀ p, mid ≤ p → p < t → rotN f s m t p = f (p - (t - m)) := fun p h1 h2 => by unfold rotN; rw [if_neg (by omega), if_pos (by omega)]
  have rr : ∀ p, t ≤ p → rotN f s m t p = f p := fun p h1 => by unfold rotN; rw [if_neg (by omega), if_neg (by omega)]
  generalize rotN f s m t = f1 at *
  have lA1 : Srt K f1 a s := fun p q h1 h2 h3 => by rw [rl p (by omega), rl q h3]; exact hp.left p q h1 h2 (by omega)
  have lB1 : Srt K f1 s mid := fun p q h1 h2 h3 => by rw [rb p h1 (by omega), rb q (by omega) h3]; exact hp.right _ _ (by omega) (by omega) (by omega)
  have lA2 : Srt K f1 mid t := fun p q h1 h2 h3 => by rw [ra p h1 (by omega), ra q (by omega) h3]; exact hp.left _ _ (by omega) (by omega) (by omega)
  have lB2 : Srt K f1 t b := fun p q h1 h2 h3 => by rw [rr p h1, rr q (by omega)]; exact hp.right p q (by omega) h2 h3
  refine ⟨r1, sm, fun e => ?_, fun e => ?_, fun e1 e2 => ⟨e1, e2, lA1, lB1, fun p q h1 h2 h3 h4 h5 => ?_⟩, fun e1 e2 => ⟨e1, e2, lA2, lB2, fun p q h1 h2 h3 h4 h5 => ?_⟩, fun p q h1 h2 h3 h4 => ?_⟩
  · rcases e with e | e
    · rw [← e]; exact lB1
    · rw [← e]; exact lA1
  · rcases e with e | e
    · rw [← e]; exact lB2
    · rw [← e]; exact lA2
  · rw [rl p h2] at h5 ⊢
    rw [rb q h3 h4] at h5 ⊢
    exact hp.tie _ _ h1 (by omega) (by omega) (by omega) h5
  · rw [ra p h1 h2] at h5 ⊢
    rw [rr q h3] at h5 ⊢
    exact hp.tie _ _ (by omega) (by omega) (by omega) h4 h5
  · rcases Nat.lt_or_ge p s with e1 | e1
    · rw [rl p e1]
      rcases Nat.lt_or_ge q t with e2 | e2
      · rw [ra q h3 e2]
        exact hp.left _ _ h1 (by omega) (by omega)
      · rw [rr q e2]
        exact x1 p q h1 e1 e2 h4
    · rw [rb p e1 h2]
      rcases Nat.lt_or_ge q t with e2 | e2
      · rw [ra q h3 e2]
        exact x2 _ _ (by omega) (by omega) (by omega) (by omega)
      · rw [rr q e2]
        exact hp.right _ _ (by omega) (by omega) h4
/-- Both halves sorted: the whole is. -/
theorem Halves.done {K f f1 f2 : Nat → Nat} {a m b mid s t : Nat} (h : Halves K f f1 a m b mid s t) (h2 : ∀ p, ¬ (a ≤ p ∧ p < b) → f2 p = f1 p)
    (hl : ∀ p, a ≤ p → p < mid → ∃ q, (a ≤ q ∧ q < mid) ∧ f1 q = f2 p) (hr : ∀ p, mid ≤ p → p < b → ∃ q, (mid ≤ q ∧ q < b) ∧ f1 q = f2 p) (sl : Srt K f2 a mid) (sr : Srt K f2 mid b) : Srt K f2 a b := by
  intro p q h3 h4 h5
  rcases Nat.lt_or_ge q mid with e | e
  · exact sl p q h3 h4 e
  · rcases Nat.lt_or_ge p mid with e2 | e2
    · obtain ⟨p', hp', e3⟩ := hl p h3 e2
      obtain ⟨q', hq', e4⟩ := hr q e h5
      rw [← e3, ← e4]
      exact h.cross p' q' hp'.1 hp'.2 hq'.1 hq'.2
    · exact sr p q e2 h4 h5
end Go.Proofs.YtahgffjkkdbjeaaDoor
