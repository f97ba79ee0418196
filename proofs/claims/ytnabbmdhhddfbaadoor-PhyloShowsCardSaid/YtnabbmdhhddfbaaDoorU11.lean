/- The built tree: ways, leaves, the sets of its nodes (plain). The built tree is a tree, for every table (plain). Build's tree has a node for each innovation (plain). The statement PhyloPerfect: the walk. -/
import Derived.Test.YtnabbmdhhddfbaaDoorU10
import Derived.Test.YtnabbmdhhddfbaaDoorU3
import Derived.Lib.ItoaNum
namespace Go.Proofs.YtnabbmdhhddfbaaDoor
open Go Go.RowKit Go.Shelf
theorem cnt_mono {a b : Nat} (h : ∀ i, a.testBit i = true → b.testBit i = true) : ∀ n, cntB a n ≤ cntB b n ∧ (cntB b n ≤ cntB a n → ∀ i, i < n → b.testBit i = true → a.testBit i = true) := by
  intro n
  induction n with
  | zero => exact ⟨Nat.le_refl _, fun _ i hi => by omega⟩
  | succ n ih =>
    obtain ⟨h1, h2⟩ := ih
    unfold cntB
    cases ha : a.testBit n with
    | true =>
      rw [h n ha]
      refine ⟨by simp; exact h1, fun hle i hi hb => ?_⟩
      by_cases e : i = n
      · subst e; exact ha
      · exact h2 (by simp at hle; exact hle) i (by omega) hb
    | false =>
      cases hb : b.testBit n with
      | true => exact ⟨by simp; omega, fun hle => by simp at hle; omega⟩
      | false =>
        refine ⟨by simp; exact h1, fun hle i hi hb2 => ?_⟩
        by_cases e : i = n
        · subst e; rw [hb] at hb2; cases hb2
        · exact h2 (by simp at hle; exact hle) i (by omega) hb2
theorem sub_eq {a b : Nat} (ha : a < 2 ^ 64) (hb : b < 2 ^ 64) (h : b &&& a = a) (hc : cntB b 64 ≤ cntB a 64) : a = b := by
  have hs : ∀ i, a.testBit i = true → b.testBit i = true := fun i hi => sub_bit h hi
  have hk := (cnt_mono hs 64).2 hc
  apply Nat.eq_of_testBit_eq
  intro i
  cases hbi : b.testBit i with
  | true => exact hk i (bit_lt hb hbi) hbi
  | false =>
    cases hai : a.testBit i with
    | true => rw [hs i hai] at hbi; cases hbi
    | false => rfl
/-- Sets in order: all, groups, each language. -/
structure SetsOk (S : List Nat) (m L n : Nat) : Prop where
  l2 : 2 ≤ L
  l32 : L ≤ 32
  hn : n = m + L + 1
  all : vA S 0 = 2 ^ L - 1
  one : ∀ k, k < L → vA S (m + k + 1) = 2 ^ k
  lt : ∀ i, i < n → vA S i < 2 ^ L
  ne : ∀ i, i < n → vA S i ≠ 0
  bef : ∀ i j, i < j → j < n → BefR (vA S i) (vA S j)
  fit : ∀ i j, i < n → j < n → fitB (vA S i) (vA S j) = true
theorem SetsOk.b64 {S : List Nat} {m L n : Nat} (h : SetsOk S m L n) {i : Nat} (hi : i < n) : vA S i < 2 ^ 64 := Nat.lt_of_lt_of_le (h.lt i hi) (Nat.pow_le_pow_right (by omega) (by have := h.l32; omega))
/-- Two sets with something in common: the later one is part of the earlier one. -/
theorem SetsOk.sub {S : List Nat} {m L n : Nat} (h : SetsOk S m L n) {i j : Nat} (hij : i < j) (hj : j < n) (hne : vA S i &&& vA S j ≠ 0) : vA S i &&& vA S j = vA S j := by
  have hf := h.fit i j (by omega) hj
  have hb := h.bef i j hij hj
  unfold fitB at hf
  rw [Bool.or_eq_true, Bool.or_eq_true, decide_eq_true_eq, decide_eq_true_eq, decide_eq_true_eq] at hf
  rcases hf with (hf | hf) | hf
  · exact absurd hf hne
  · unfold BefR at hb
    rw [setBef_iff] at hb
    have e := sub_eq (h.b64 (show i < n by omega)) (h.b64 hj) (by rw [Nat.and_comm]; exact hf) (by omega)
    rw [e, Nat.and_self]
  · exact hf
theorem SetsOk.inj {S : List Nat} {m L n : Nat} (h : SetsOk S m L n) {i j : Nat} (hij : i < j) (hj : j < n) : vA S i ≠ vA S j := fun e => bef_irr (vA S j) (by have := h.bef i j hij hj; rw [e] at this; exact this)
theorem parZ_spec (S : List Nat) (s : Nat) : ∀ k, (parZ S s k = -1 ∧ ∀ i, i < k → vA S i &&& s ≠ s) ∨ ∃ p : Nat, parZ S s k = p ∧ p < k ∧ vA S p &&& s = s ∧ ∀ i, p < i → i < k → vA S i &&& s ≠ s := by
  intro k
  induction k with
  | zero => exact .inl ⟨rfl, fun i hi => by omega⟩
  | succ k ih =>
    unfold parZ
    by_cases e : vA S k &&& s = s
    · rw [if_pos e]
      exact .inr ⟨k, rfl, by omega, e, fun i h1 h2 => by omega⟩
    · rw [if_neg e]
      rcases ih with ⟨h1, h2⟩ | ⟨p, h1, h2, h3, h4⟩
      · refine .inl ⟨h1, fun i hi => ?_⟩
        by_cases e2 : i = k
        · subst e2; exact e
        · exact h2 i (by omega)
      · refine .inr ⟨p, h1, by omega, h3, fun i hi hk => ?_⟩
        by_cases e2 : i = k
        · subst e2; exact e
        · exact h4 i hi (by omega)
theorem treeN_at {S : List Nat} {nm : Nat → ByteArray} {n i : Nat} (hi : i < n) : nP (treeN S nm n) i = parZ S (vA S i) i ∧ nS (treeN S nm n) i = nm i := by
  unfold nP nS treeN
  simp [hi]
theorem sub_all {L x : Nat} (hx : x < 2 ^ L) : (2 ^ L - 1) &&& x = x := by
  apply Nat.eq_of_testBit_eq
  intro k
  rw [Nat.testBit_and, Nat.testBit_two_pow_sub_one]
  cases hb : x.testBit k with
  | true => rw [decide_eq_true (bit_lt hx hb)]; rfl
  | false => simp
/-- The node above. -/
theorem SetsOk.par {S : List Nat} {m L n : Nat} (h : SetsOk S m L n) (nm : Nat → ByteArray) {v : Nat} (h0 : 0 < v) (hv : v < n) :
    ∃ p : Nat, nP (treeN S nm n) v = p ∧ p < v ∧ vA S p &&& vA S v = vA S v ∧ ∀ i, p < i → i < v → vA S i &&& vA S v ≠ vA S v := by
  rw [(treeN_at hv).1]
  rcases parZ_spec S (vA S v) v with ⟨_, h2⟩ | h1
  · exact absurd (by rw [h.all]; exact sub_all (h.lt v hv)) (h2 0 h0)
  · exact h1
theorem SetsOk.hP {S : List Nat} {m L n : Nat} (h : SetsOk S m L n) (nm : Nat → ByteArray) : ∀ v, 0 < v → v < n → 0 ≤ nP (treeN S nm n) v ∧ nP (treeN S nm n) v < v := fun v h0 hv => by
  obtain ⟨p, h1, h2, _⟩ := h.par nm h0 hv
  rw [h1]; omega
theorem sub_trans {a b c : Nat} (h1 : a &&& b = b) (h2 : b &&& c = c) : a &&& c = c := by
  rw [← h2, ← Nat.and_assoc, h1]
theorem sub_ne {a b c : Nat} (hc : c ≠ 0) (h1 : a &&& c = c) (h2 : b &&& c = c) : a &&& b ≠ 0 := by
  intro h
  obtain ⟨k, hk⟩ := bit_of_ne hc
  have := congrArg (fun y => y.testBit k) h
  simp only [Nat.testBit_and, sub_bit h1 hk, sub_bit h2 hk, Nat.zero_testBit, Bool.and_self] at this
  cases this
/-- What lies on the way. -/
theorem SetsOk.way {S : List Nat} {m L n : Nat} (h : SetsOk S m L n) (nm : Nat → ByteArray) : ∀ k v, v ≤ k → v < n → ∀ u, u ∈ pthF (treeN S nm n) n v ↔ u ≤ v ∧ vA S u &&& vA S v = vA S v := by
  have hP := h.hP nm
  intro k
  induction k with
  | zero =>
    intro v hk hv u
    obtain rfl : v = 0 := by omega
    rw [pth_zero, List.mem_singleton]
    constructor
    · rintro rfl; exact ⟨Nat.le_refl _, Nat.and_self _⟩
    · rintro ⟨h1, _⟩; omega
  | succ k ih =>
    intro v hk hv u
    by_cases e : v = 0
    · subst e
      rw [pth_zero, List.mem_singleton]
      constructor
      · rintro rfl; exact ⟨Nat.le_refl _, Nat.and_self _⟩
      · rintro ⟨h1, _⟩; omega
    · obtain ⟨p, p1, p2, p3, p4⟩ := h.par nm (show 0 < v by omega) hv
      rw [pth_succ hP (by omega) hv, p1, Int.toNat_natCast, List.mem_append, List.mem_singleton, ih p (by omega) (by omega) u]
      constructor
      · rintro (⟨h1, h2⟩ | rfl)
        · exact ⟨by omega, sub_trans h2 p3⟩
        · exact ⟨Nat.le_refl _, Nat.and_self _⟩
      · rintro ⟨h1, h2⟩
        by_cases e2 : u = v
        · exact .inr e2
        · left
          by_cases e3 : u ≤ p
          · refine ⟨e3, ?_⟩
            by_cases e4 : u = p
            · subst e4; exact Nat.and_self _
            · exact h.sub (by omega) (by omega) (sub_ne (h.ne v hv) h2 p3)
          · exact absurd h2 (p4 u (by omega) (by omega))
/-- A node below v lies in one of v's children. -/
theorem SetsOk.child {S : List Nat} {m L n : Nat} (h : SetsOk S m L n) (nm : Nat → ByteArray) {v : Nat} : ∀ k y, y ≤ k → y < n → v < y → vA S v &&& vA S y = vA S y → ∃ c, v < c ∧ c < n ∧ nP (treeN S nm n) c = v ∧ vA S c &&& vA S y = vA S y := by
  intro k
  induction k with
  | zero => intro y hy _ hv; omega
  | succ k ih =>
    intro y hy hyn hv hs
    obtain ⟨p, p1, p2, p3, p4⟩ := h.par nm (show 0 < y by omega) hyn
    by_cases e : p = v
    · subst e
      exact ⟨y, hv, hyn, p1, Nat.and_self _⟩
    · have hvp : v < p := by
        rcases Nat.lt_or_ge v p with q | q
        · exact q
        · exact absurd hs (p4 v (by omega) hv)
      obtain ⟨c, c1, c2, c3, c4⟩ := ih p (by omega) (by omega) hvp (h.sub hvp (by omega) (sub_ne (h.ne y hyn) hs p3))
      exact ⟨c, c1, c2, c3, sub_trans c4 p3⟩
theorem one_sub {x k : Nat} (h : x.testBit k = true) : x &&& 2 ^ k = 2 ^ k := by
  apply Nat.eq_of_testBit_eq
  intro i
  rw [Nat.testBit_and, Nat.testBit_two_pow]
  by_cases e : k = i
  · subst e; rw [h]; simp
  · rw [decide_eq_false e, Bool.and_false]
theorem sub_one {x k : Nat} (h : x &&& 2 ^ k = 2 ^ k) : x.testBit k = true := sub_bit h (Nat.testBit_two_pow_self)
/-- Each bit of an inner node lies in a child. -/
theorem SetsOk.kid {S : List Nat} {m L n : Nat} (h : SetsOk S m L n) (nm : Nat → ByteArray) {v k : Nat} (hv : v ≤ m) (hk : (vA S v).testBit k = true) : ∃ c, v < c ∧ c < n ∧ nP (treeN S nm n) c = v ∧ (vA S c).testBit k = true := by
  have hn := h.hn
  have hkL : k < L := bit_lt (h.lt v (by omega)) hk
  obtain ⟨c, c1, c2, c3, c4⟩ := h.child nm (v := v) (m + k + 1) (m + k + 1) (Nat.le_refl _) (by omega) (by omega) (by rw [h.one k hkL]; exact one_sub hk)
  rw [h.one k hkL] at c4
  exact ⟨c, c1, c2, c3, sub_one c4⟩
theorem SetsOk.leaf {S : List Nat} {m L n : Nat} (h : SetsOk S m L n) (nm : Nat → ByteArray) {v : Nat} (hv : v < n) : leafB (treeN S nm n) v = decide (m < v) := by
  have hn := h.hn
  rw [leafB_in, treeN_len]
  by_cases q : m < v
  · rw [decide_eq_true q]
    have : inB (treeN S nm n) n v = false := by
      unfold inB
      rw [List.any_eq_false]
      intro c hc hk
      have hc := List.mem_range.1 hc
      unfold kidB at hk
      rw [Bool.and_eq_true, decide_eq_true_eq, decide_eq_true_eq] at hk
      obtain ⟨p, p1, p2, p3, _⟩ := h.par nm hk.1 hc
      have e : p = v := by rw [p1] at hk; exact Int.ofNat.inj hk.2
      subst e
      have e1 : vA S p = 2 ^ (p - m - 1) := by have := h.one (p - m - 1) (by omega); rwa [show m + (p - m - 1) + 1 = p by omega] at this
      have e2 : vA S c = 2 ^ (c - m - 1) := by have := h.one (c - m - 1) (by omega); rwa [show m + (c - m - 1) + 1 = c by omega] at this
      rw [e1, e2] at p3
      have h3 := sub_one p3
      rw [Nat.testBit_two_pow, decide_eq_true_eq] at h3
      omega
    rw [this]; rfl
  · rw [decide_eq_false q]
    obtain ⟨k, hk⟩ := bit_of_ne (h.ne v hv)
    obtain ⟨c, c1, c2, c3, _⟩ := h.kid nm (by omega) hk
    have : inB (treeN S nm n) n v = true := List.any_eq_true.2 ⟨c, List.mem_range.2 c2, by unfold kidB; rw [decide_eq_true (by omega), decide_eq_true c3]; rfl⟩
    rw [this]; rfl
theorem SetsOk.lvs {S : List Nat} {m L n : Nat} (h : SetsOk S m L n) (nm : Nat → ByteArray) : ∀ j, j ≤ L → lvsL (treeN S nm n) (m + 1 + j) = (List.range j).map fun k => m + k + 1 := by
  have hn := h.hn
  have base : ∀ i, i ≤ m + 1 → lvsL (treeN S nm n) i = [] := by
    intro i
    induction i with
    | zero => intro _; rfl
    | succ i ih =>
      intro hi
      rw [lvsL_snoc, ih (by omega), h.leaf nm (show i < n by omega), decide_eq_false (by omega)]; rfl
  intro j
  induction j with
  | zero => intro _; exact base (m + 1) (Nat.le_refl _)
  | succ j ih =>
    intro hj
    rw [show m + 1 + (j + 1) = (m + 1 + j) + 1 by omega, lvsL_snoc, ih (by omega), h.leaf nm (show m + 1 + j < n by omega), decide_eq_true (by omega), List.range_succ, List.map_append]
    simp; omega
theorem SetsOk.lvsN {S : List Nat} {m L n : Nat} (h : SetsOk S m L n) (nm : Nat → ByteArray) : lvsL (treeN S nm n) n = (List.range L).map fun k => m + k + 1 := by
  have := h.lvs nm L (Nat.le_refl _)
  rwa [show m + 1 + L = n by have := h.hn; omega] at this
/-- The set of node v is the v-th. -/
theorem SetsOk.cl {S : List Nat} {m L n : Nat} (h : SetsOk S m L n) (nm : Nat → ByteArray) (hr : nP (treeN S nm n) 0 < 0) {v : Nat} (hv : v < n) : Go.Proofs.YtnabbmdhhddfbaaDoor.cl (treeN S nm n) v = vA S v := by
  have hn := h.hn
  have hP := h.hP nm
  have hlv := h.lvsN nm
  have hlen : (lvsL (treeN S nm n) n).length = L := by rw [hlv]; simp
  apply Nat.eq_of_testBit_eq
  intro k
  by_cases hk : k < L
  · have hat : vA (lvsL (treeN S nm n) n) k = m + k + 1 := by rw [hlv]; simp [vA, hk]
    rw [Bool.eq_iff_iff, cl_bit (treeN_len S nm n) hP hr (by omega) hv, hat, h.way nm _ _ (Nat.le_refl _) (by omega), h.one k hk]
    constructor
    · rintro ⟨_, h2⟩; exact sub_one h2
    · intro hb
      refine ⟨?_, one_sub hb⟩
      rcases Nat.lt_or_ge m v with q | q
      · have e1 : vA S v = 2 ^ (v - m - 1) := by have := h.one (v - m - 1) (by omega); rwa [show m + (v - m - 1) + 1 = v by omega] at this
        rw [e1, Nat.testBit_two_pow, decide_eq_true_eq] at hb
        omega
      · omega
  · have hp : 2 ^ L ≤ 2 ^ k := Nat.pow_le_pow_right (by omega) (by omega)
    have h1 := cl_lt (t := treeN S nm n) (n := L) (by rw [treeN_len, hlen]; exact Nat.le_refl _) v (by rw [treeN_len]; exact hv)
    have h2 := h.lt v hv
    rw [Nat.testBit_lt_two_pow (by omega), Nat.testBit_lt_two_pow (by omega)]
end Go.Proofs.YtnabbmdhhddfbaaDoor
namespace Go.Proofs.YtnabbmdhhddfbaaDoor
open Go Go.RowKit Go.Shelf
/-- How many below n have p. -/
def cF (p : Nat → Bool) : Nat → Nat
  | 0 => 0
  | n + 1 => cF p n + if p n then 1 else 0
theorem cF_le (p : Nat → Bool) (a : Nat) (h : ∀ v, v < a → p v = false) : ∀ n, cF p n ≤ n - a := by
  intro n
  induction n with
  | zero => exact Nat.zero_le _
  | succ n ih =>
    unfold cF
    by_cases q : n < a
    · rw [h n q]; simp; omega
    · split <;> omega
theorem cF_one (p : Nat → Bool) {v : Nat} (h : p v = true) : ∀ n, v < n → 1 ≤ cF p n := by
  intro n
  induction n with
  | zero => intro hv; omega
  | succ n ih =>
    intro hv
    unfold cF
    by_cases e : v = n
    · subst e; rw [h]; simp
    · have := ih (by omega); omega
theorem cF_two (p : Nat → Bool) {u v : Nat} (huv : u < v) (hu : p u = true) (hv : p v = true) : ∀ n, v < n → 2 ≤ cF p n := by
  intro n
  induction n with
  | zero => intro h; omega
  | succ n ih =>
    intro h
    unfold cF
    by_cases e : v = n
    · subst e; rw [hv]; have := cF_one p hu v huv; simp; omega
    · have := ih (by omega); omega
theorem cF_sum {f g h k : Nat → Bool} : ∀ n, (∀ v, v < n → (if f v then 1 else 0) + (if g v then 1 else 0) = (if h v then 1 else 0) + (if k v then 1 else 0)) → cF f n + cF g n = cF h n + cF k n := by
  intro n
  induction n with
  | zero => intro _; rfl
  | succ n ih =>
    intro hs
    have h1 := ih fun v hv => hs v (by omega)
    have h2 := hs n (by omega)
    unfold cF
    omega
theorem cF_eq (j : Nat) : ∀ n, cF (fun v => decide (v = j)) n = if j < n then 1 else 0 := by
  intro n
  induction n with
  | zero => rfl
  | succ n ih =>
    show cF (fun v => decide (v = j)) n + (if decide (n = j) then 1 else 0) = _
    rw [ih]
    by_cases e : n = j
    · subst e; simp
    · by_cases q : j < n
      · simp [e, q]; omega
      · simp [e, q]; omega
/-- There are fewer inner nodes than leaves. -/
theorem SetsOk.few {S : List Nat} {m L n : Nat} (h : SetsOk S m L n) (nm : Nat → ByteArray) (hr : nP (treeN S nm n) 0 < 0) : m + 2 ≤ L := by
  have hn := h.hn
  have hP := h.hP nm
  obtain ⟨t, ht⟩ : ∃ t, t = treeN S nm n := ⟨_, rfl⟩
  have hkid : ∀ j, j ≤ m → 2 ≤ cF (fun v => decide (nP t v = (j : Int))) n := fun j hj => by
    obtain ⟨k, hk⟩ := bit_of_ne (h.ne j (by omega))
    obtain ⟨c, c1, c2, c3, c4⟩ := h.kid nm hj hk
    have hne := h.inj c1 c2
    have hd : ∃ k2, (vA S j).testBit k2 = true ∧ (vA S c).testBit k2 = false := by
      obtain ⟨p, p1, _, p3, _⟩ := h.par nm (show 0 < c by omega) c2
      have e : p = j := by rw [p1] at c3; exact Int.ofNat.inj c3
      subst e
      refine Classical.byContradiction fun hno => hne ?_
      apply Nat.eq_of_testBit_eq
      intro i
      cases hb : (vA S c).testBit i with
      | true => exact sub_bit p3 hb
      | false =>
        cases hj2 : (vA S p).testBit i with
        | false => rfl
        | true => exact absurd ⟨i, hj2, hb⟩ hno
    obtain ⟨k2, e1, e2⟩ := hd
    obtain ⟨c', d1, d2, d3, d4⟩ := h.kid nm hj e1
    have hcc : c ≠ c' := fun e => by rw [e] at e2; rw [d4] at e2; cases e2
    rw [← ht] at c3 d3
    rcases Nat.lt_or_ge c c' with q | q
    · exact cF_two (fun v => decide (nP t v = (j : Int))) q (decide_eq_true c3) (decide_eq_true d3) n d2
    · exact cF_two (fun v => decide (nP t v = (j : Int))) (show c' < c by omega) (decide_eq_true d3) (decide_eq_true c3) n c2
  have hp : ∀ v, v < n → nP t v < v := fun v hv => by
    by_cases e : v = 0
    · subst e; rw [ht]; exact hr
    · rw [ht]; exact (hP v (by omega) hv).2
  obtain ⟨c, hc⟩ : ∃ c : Nat → Nat, c = fun j => cF (fun v => decide (j ≤ v) && decide (nP t v < (j : Int))) n := ⟨_, rfl⟩
  have hcj : ∀ j, c j = cF (fun v => decide (j ≤ v) && decide (nP t v < (j : Int))) n := fun j => by rw [hc]
  have step : ∀ j, j < n → c j + cF (fun v => decide (nP t v = (j : Int))) n = c (j + 1) + 1 := fun j hj => by
    have h1 := cF_sum (f := fun v => decide (j ≤ v) && decide (nP t v < (j : Int))) (g := fun v => decide (nP t v = (j : Int))) (h := fun v => decide (j + 1 ≤ v) && decide (nP t v < ((j + 1 : Nat) : Int))) (k := fun v => decide (v = j)) n (fun v hv => by
      have hpv := hp v hv
      by_cases a1 : v < j
      · rw [decide_eq_false (show ¬ j ≤ v by omega), decide_eq_false (show ¬ nP t v = (j : Int) by omega), decide_eq_false (show ¬ j + 1 ≤ v by omega), decide_eq_false (show ¬ v = j by omega)] <;> rfl
      · by_cases a2 : v = j
        · subst a2
          rw [decide_eq_true (Nat.le_refl v), decide_eq_true hpv, decide_eq_false (show ¬ nP t v = (v : Int) by omega), decide_eq_false (show ¬ v + 1 ≤ v by omega), decide_eq_true rfl] <;> rfl
        · rw [decide_eq_true (show j ≤ v by omega), decide_eq_true (show j + 1 ≤ v by omega), decide_eq_false a2]
          by_cases b1 : nP t v < (j : Int)
          · rw [decide_eq_true b1, decide_eq_false (show ¬ nP t v = (j : Int) by omega), decide_eq_true (show nP t v < ((j + 1 : Nat) : Int) by omega)] <;> rfl
          · by_cases b2 : nP t v = (j : Int)
            · rw [decide_eq_false b1, decide_eq_true b2, decide_eq_true (show nP t v < ((j + 1 : Nat) : Int) by omega)] <;> rfl
            · rw [decide_eq_false b1, decide_eq_false b2, decide_eq_false (show ¬ nP t v < ((j + 1 : Nat) : Int) by omega)] <;> rfl)
    rw [cF_eq, if_pos hj, ← hcj, ← hcj] at h1
    exact h1
  have down : ∀ i, i ≤ m + 1 → c (m + 1 - i) + i ≤ L := by
    intro i
    induction i with
    | zero =>
      intro _
      have := cF_le (fun v => decide (m + 1 ≤ v) && decide (nP t v < ((m + 1 : Nat) : Int))) (m + 1) (fun v hv => by rw [decide_eq_false (show ¬ m + 1 ≤ v by omega)]; rfl) n
      rw [Nat.sub_zero, hcj]
      omega
    | succ i ih =>
      intro hi
      have h1 := ih (by omega)
      have h2 := step (m + 1 - (i + 1)) (by omega)
      have h3 := hkid (m + 1 - (i + 1)) (by omega)
      rw [show m + 1 - (i + 1) + 1 = m + 1 - i by omega] at h2
      omega
  have h0 := down (m + 1) (Nat.le_refl _)
  have h1 : 1 ≤ c 0 := by
    rw [hcj]
    exact cF_one _ (v := 0) (by rw [ht]; simp; exact hr) n (by omega)
  rw [Nat.sub_self] at h0
  omega
/-- The letters of a node's name. -/
def nodL (G i : Nat) : List UInt8 := if i = 0 then [114, 111, 111, 116] else if i ≤ G then 78 :: Lib.decDigits i else 76 :: Lib.decDigits (i - G - 1)
theorem dig_two {i : Nat} (h : i < 100) : (i < 10 ∧ Lib.decDigits i = [UInt8.ofNat (48 + i)]) ∨ (10 ≤ i ∧ Lib.decDigits i = [UInt8.ofNat (48 + i / 10), UInt8.ofNat (48 + i % 10)]) := by
  by_cases q : i < 10
  · exact .inl ⟨q, Lib.decDigits_one q⟩
  · exact .inr ⟨by omega, Lib.decDigits_two q h⟩
theorem u8_inj {a b : Nat} (ha : a < 256) (hb : b < 256) (h : UInt8.ofNat a = UInt8.ofNat b) : a = b := by
  have := congrArg UInt8.toNat h
  rw [UInt8.toNat_ofNat', UInt8.toNat_ofNat'] at this
  omega
theorem dig_inj {i j : Nat} (hi : i < 100) (hj : j < 100) (h : Lib.decDigits i = Lib.decDigits j) : i = j := by
  rcases dig_two hi with ⟨a1, a2⟩ | ⟨a1, a2⟩ <;> rcases dig_two hj with ⟨b1, b2⟩ | ⟨b1, b2⟩ <;> rw [a2, b2] at h
  · have := u8_inj (by omega) (by omega) (List.cons.inj h).1; omega
  · have := congrArg List.length h; simp at this
  · have := congrArg List.length h; simp at this
  · have h1 := u8_inj (by omega) (by omega) (List.cons.inj h).1
    have h2 := u8_inj (by omega) (by omega) (List.cons.inj (List.cons.inj h).2).1
    omega
theorem nodL_inj {G i j : Nat} (hi : i < 100) (hj : j < 100) (h : nodL G i = nodL G j) : i = j := by
  unfold nodL at h
  by_cases a1 : i = 0
  · rw [if_pos a1] at h
    by_cases b1 : j = 0
    · omega
    · rw [if_neg b1] at h
      by_cases b2 : j ≤ G
      · rw [if_pos b2] at h; exact absurd (List.cons.inj h).1 (by decide)
      · rw [if_neg b2] at h; exact absurd (List.cons.inj h).1 (by decide)
  · rw [if_neg a1] at h
    by_cases b1 : j = 0
    · rw [if_pos b1] at h
      by_cases a2 : i ≤ G
      · rw [if_pos a2] at h; exact absurd (List.cons.inj h).1 (by decide)
      · rw [if_neg a2] at h; exact absurd (List.cons.inj h).1 (by decide)
    · rw [if_neg b1] at h
      by_cases a2 : i ≤ G <;> by_cases b2 : j ≤ G
      · rw [if_pos a2, if_pos b2] at h
        exact dig_inj hi hj (List.cons.inj h).2
      · rw [if_pos a2, if_neg b2] at h; exact absurd (List.cons.inj h).1 (by decide)
      · rw [if_neg a2, if_pos b2] at h; exact absurd (List.cons.inj h).1 (by decide)
      · rw [if_neg a2, if_neg b2] at h
        have := dig_inj (by omega) (by omega) (List.cons.inj h).2
        omega
theorem namB_L (G i : Nat) : (namB G i).data.toList = nodL G i := by
  unfold namB nodL
  by_cases a1 : i = 0
  · rw [if_pos a1, if_pos a1]
  · rw [if_neg a1, if_neg a1]
    by_cases a2 : i ≤ G
    · rw [if_pos a2, if_pos a2, ByteArray.data_append]
      simp [itoaB]
    · rw [if_neg a2, if_neg a2, ByteArray.data_append]
      simp [itoaB]
theorem nmB_of {s : ByteArray} (h1 : ∀ c ∈ s.data.toList, ltrI c.toNat = true) (h2 : 0 < s.data.toList.length) (h3 : s.data.toList.length ≤ 24) : nmB s = true := by
  have e : s.size = s.data.toList.length := Array.length_toList.symm
  unfold nmB
  rw [List.all_eq_true.2 h1, decide_eq_true (by omega), decide_eq_true (by omega)]; rfl
theorem dig_ok {i : Nat} (h : i < 100) : (∀ c ∈ Lib.decDigits i, ltrI c.toNat = true) ∧ (Lib.decDigits i).length ≤ 2 := by
  have key : ∀ d, d < 10 → ltrI ((UInt8.ofNat (48 + d)).toNat : Nat) = true := fun d hd => by
    rw [UInt8.toNat_ofNat']
    unfold ltrI
    rw [decide_eq_true]
    right; right; left
    omega
  rcases dig_two h with ⟨a1, a2⟩ | ⟨a1, a2⟩
  · rw [a2]
    refine ⟨fun c hc => ?_, by simp⟩
    rw [List.mem_singleton] at hc; subst hc; exact key i a1
  · rw [a2]
    refine ⟨fun c hc => ?_, by simp⟩
    rcases List.mem_cons.1 hc with rfl | hc
    · exact key _ (by omega)
    · rw [List.mem_singleton] at hc; subst hc; exact key _ (by omega)
theorem namB_ok {G i : Nat} (h : i < 100) : nmB (namB G i) = true := by
  have hl := namB_L G i
  unfold nodL at hl
  by_cases a1 : i = 0
  · rw [if_pos a1] at hl
    exact nmB_of (by rw [hl]; decide) (by rw [hl]; decide) (by rw [hl]; decide)
  · rw [if_neg a1] at hl
    by_cases a2 : i ≤ G
    · rw [if_pos a2] at hl
      obtain ⟨h1, h2⟩ := dig_ok h
      refine nmB_of ?_ (by rw [hl]; simp) (by rw [hl]; simp; omega)
      rw [hl]
      intro c hc
      rcases List.mem_cons.1 hc with rfl | hc
      · decide
      · exact h1 c hc
    · rw [if_neg a2] at hl
      obtain ⟨h1, h2⟩ := dig_ok (show i - G - 1 < 100 by omega)
      refine nmB_of ?_ (by rw [hl]; simp) (by rw [hl]; simp; omega)
      rw [hl]
      intro c hc
      rcases List.mem_cons.1 hc with rfl | hc
      · decide
      · exact h1 c hc
theorem SetsOk.root {S : List Nat} {m L n : Nat} (h : SetsOk S m L n) (nm : Nat → ByteArray) : nP (treeN S nm n) 0 = -1 := by
  rw [(treeN_at (show 0 < n by have := h.hn; omega)).1]; rfl
/-- The built tree is a tree. -/
theorem SetsOk.tree {S : List Nat} {m L n : Nat} (h : SetsOk S m L n) : TreeOk (treeN S (namB m) n) := by
  have hn := h.hn
  have hf := h.few (namB m) (by rw [h.root]; decide)
  have h32 := h.l32
  refine ⟨by rw [treeN_len]; omega, by rw [treeN_len]; omega, fun v hv => ?_⟩
  rw [treeN_len] at hv
  refine ⟨?_, ?_, ?_, ?_⟩
  · by_cases e : v = 0
    · subst e; rw [h.root]; decide
    · exact (h.hP (namB m) v (by omega) hv).2
  · by_cases e : v = 0
    · subst e; rw [h.root]; decide
    · rw [if_neg e]; exact (h.hP (namB m) v (by omega) hv).1
  · rw [(treeN_at hv).2]; exact namB_ok (by omega)
  · unfold seenB
    rw [List.any_eq_false]
    intro u hu
    have hu := List.mem_range.1 hu
    rw [decide_eq_true_eq, (treeN_at hv).2, (treeN_at (show u < n by omega)).2]
    intro e
    have e2 := congrArg (fun s => s.data.toList) e
    simp only [namB_L] at e2
    have := nodL_inj (by omega) (by omega) e2
    omega
end Go.Proofs.YtnabbmdhhddfbaaDoor
namespace Go.Proofs.YtnabbmdhhddfbaaDoor
open Go Go.RowKit Go.Shelf
theorem one_cnt {k : Nat} (hk : k < 64) : cntB (2 ^ k) 64 = 1 := by
  have hx : 2 ^ k < 2 ^ 64 := Nat.pow_lt_pow_right (by omega) hk
  have h1 : cntB (2 ^ k) 64 ≤ 1 := (low_cnt 64 (2 ^ k) hx).1 (by rw [Nat.and_two_pow_sub_one_eq_mod, Nat.mod_self])
  have h2 : cntB (2 ^ k) 64 ≠ 0 := fun h => by
    have := (cntB_zero 64 (2 ^ k) hx).1 h
    have := Nat.two_pow_pos k
    omega
  omega
theorem grp_mem {L : Nat} {l : List Nat} (hF : FitV l) {x : Nat} : x ∈ grpsN L l ↔ x ∈ l ∧ grpB L l x = true := by
  rw [grpsN_mem hF]
  unfold grpL
  rw [List.mem_filter, List.take_length]
theorem grpB_iff {L : Nat} {l : List Nat} {x : Nat} (hx : x < 18446744073709551616) : grpB L l x = true ↔ 2 ≤ cntB x 64 ∧ x ≠ 2 ^ L - 1 ∧ ∀ o, o ∈ l → fitB x o = true := by
  unfold grpB
  rw [Bool.and_eq_true, Bool.and_eq_true, Bool.not_eq_true', Bool.not_eq_true', Bool.not_eq_true', decide_eq_false_iff_not, decide_eq_false_iff_not, lowOff_cnt hx, List.any_eq_false]
  constructor
  · rintro ⟨⟨h1, h2⟩, h3⟩
    refine ⟨by omega, h2, fun o ho => ?_⟩
    have := h3 o ho
    simpa using this
  · rintro ⟨h1, h2, h3⟩
    refine ⟨⟨by omega, h2⟩, fun o ho => ?_⟩
    rw [h3 o ho]; simp
theorem vA_mem {l : List Nat} {i : Nat} (h : i < l.length) : vA l i ∈ l := by rw [vA_get h]; exact List.getElem_mem h
theorem mem_vA {l : List Nat} {x : Nat} (h : x ∈ l) : ∃ i, i < l.length ∧ vA l i = x := by
  obtain ⟨i, hi, e⟩ := List.mem_iff_getElem.1 h
  exact ⟨i, hi, by rw [vA_get hi]; exact e⟩
theorem fit_all {L x : Nat} (hx : x < 2 ^ L) : fitB (2 ^ L - 1) x = true ∧ fitB x (2 ^ L - 1) = true := by
  have h := sub_all hx
  have h2 := h
  rw [Nat.and_comm] at h2
  unfold fitB
  rw [h, h2]; simp
theorem fit_one (x k : Nat) : fitB x (2 ^ k) = true ∧ fitB (2 ^ k) x = true := by
  have key : x &&& 2 ^ k = 0 ∨ x &&& 2 ^ k = 2 ^ k := by
    cases hb : x.testBit k with
    | true => exact .inr (one_sub hb)
    | false =>
      left
      apply Nat.eq_of_testBit_eq
      intro i
      rw [Nat.testBit_and, Nat.testBit_two_pow, Nat.zero_testBit]
      by_cases e : k = i
      · subst e; rw [hb]; rfl
      · rw [decide_eq_false e, Bool.and_false]
  have key2 := key
  rw [Nat.and_comm] at key2
  unfold fitB
  rcases key with e | e <;> rw [Nat.and_comm] at key2 <;> rw [Nat.and_comm (2 ^ k)] <;> rw [e] <;> simp
/-- The three kinds of nodes. -/
theorem setsB_cases {L : Nat} {l : List Nat} {i : Nat} (hi : i < (grpsN L l).length + L + 1) : (i = 0 ∧ vA (setsB L l) i = 2 ^ L - 1) ∨ (∃ j, i = j + 1 ∧ j < (grpsN L l).length ∧ vA (setsB L l) i = vA (grpsN L l) j) ∨ ∃ k, i = (grpsN L l).length + k + 1 ∧ k < L ∧ vA (setsB L l) i = 2 ^ k := by
  rcases Nat.eq_zero_or_pos i with e | e
  · subst e; exact .inl ⟨rfl, setsB_zero L l⟩
  · rcases Nat.lt_or_ge (i - 1) (grpsN L l).length with q | q
    · refine .inr (.inl ⟨i - 1, by omega, q, ?_⟩)
      have := setsB_grp q
      rwa [show i - 1 + 1 = i by omega] at this
    · refine .inr (.inr ⟨i - 1 - (grpsN L l).length, by omega, by omega, ?_⟩)
      have := setsB_one (l := l) (show i - 1 - (grpsN L l).length < L by omega)
      rwa [show (grpsN L l).length + (i - 1 - (grpsN L l).length) + 1 = i by omega] at this
theorem setsOk {L : Nat} {l : List Nat} (hF : FitV l) (hc : chkT (L : Int) l = 0) (h2 : 2 ≤ L) : SetsOk (setsB L l) (grpsN L l).length L ((grpsN L l).length + L + 1) := by
  obtain ⟨h32, h64, hlt⟩ := chk_lt hc
  have hp : 2 ^ L ≤ 2 ^ 32 := Nat.pow_le_pow_right (by omega) h32
  have hp2 : 4 ≤ 2 ^ L := Nat.pow_le_pow_right (n := 2) (by omega) h2
  have hgrp : ∀ j, j < (grpsN L l).length → vA (grpsN L l) j ∈ l ∧ vA (grpsN L l) j < 2 ^ L ∧ 2 ≤ cntB (vA (grpsN L l) j) 64 ∧ vA (grpsN L l) j ≠ 2 ^ L - 1 ∧ ∀ o, o ∈ l → fitB (vA (grpsN L l) j) o = true := fun j hj => by
    obtain ⟨h1, h3⟩ := (grp_mem hF).1 (vA_mem hj)
    have h4 := hlt _ h1
    exact ⟨h1, h4, (grpB_iff (by omega)).1 h3⟩
  have hone : ∀ k, k < L → 2 ^ k < 2 ^ L := fun k hk => Nat.pow_lt_pow_right (by omega) hk
  have hallc : ∀ x, x < 2 ^ L → x ≠ 2 ^ L - 1 → cntB x 64 < cntB (2 ^ L - 1) 64 := fun x hx hne => by
    refine Classical.byContradiction fun h => hne ?_
    exact sub_eq (by omega) (by omega) (sub_all hx) (by omega)
  have hone1 : ∀ k, k < L → 2 ^ k ≠ 2 ^ L - 1 := fun k hk => by
    have h1 : 2 ^ k ≤ 2 ^ (L - 1) := Nat.pow_le_pow_right (by omega) (by omega)
    have h3 : 2 ^ L = 2 ^ (L - 1) * 2 := by rw [← Nat.pow_succ]; congr 1; omega
    have h4 : 2 ^ 1 ≤ 2 ^ (L - 1) := Nat.pow_le_pow_right (by omega) (by omega)
    omega
  refine ⟨h2, h32, rfl, setsB_zero L l, fun k hk => setsB_one hk, ?_, ?_, ?_, ?_⟩
  · intro i hi
    rcases setsB_cases hi with ⟨_, e⟩ | ⟨j, _, hj, e⟩ | ⟨k, _, hk, e⟩ <;> rw [e]
    · omega
    · exact (hgrp j hj).2.1
    · exact hone k hk
  · intro i hi
    rcases setsB_cases hi with ⟨_, e⟩ | ⟨j, _, hj, e⟩ | ⟨k, _, hk, e⟩ <;> rw [e]
    · omega
    · intro h0
      have := (hgrp j hj).2.2.1
      rw [h0, (cntB_zero 64 0 (by decide)).2 rfl] at this
      omega
    · have := Nat.two_pow_pos k; omega
  · intro i j hij hj
    unfold BefR
    rw [setBef_iff]
    rcases setsB_cases hj with ⟨ej, _⟩ | ⟨j', ej, hj', e2⟩ | ⟨k', ej, hk', e2⟩
    · omega
    · rw [e2]
      obtain ⟨g1, g2, g3, g4, g5⟩ := hgrp j' hj'
      rcases setsB_cases (show i < (grpsN L l).length + L + 1 by omega) with ⟨_, e⟩ | ⟨i', ei, hi', e⟩ | ⟨k, ei, hk, e⟩
      · rw [e]; exact .inl (hallc _ g2 g4)
      · rw [e]
        have h1 := List.pairwise_iff_getElem.1 (grpsN_pw L l) i' j' hi' hj' (by omega)
        rw [← vA_get hi', ← vA_get hj'] at h1
        unfold BefR at h1
        rwa [setBef_iff] at h1
      · omega
    · rw [e2, one_cnt (show k' < 64 by omega)]
      rcases setsB_cases (show i < (grpsN L l).length + L + 1 by omega) with ⟨_, e⟩ | ⟨i', ei, hi', e⟩ | ⟨k, ei, hk, e⟩
      · rw [e]
        have := hallc _ (hone k' hk') (hone1 k' hk')
        rw [one_cnt (show k' < 64 by omega)] at this
        exact .inl this
      · rw [e]; have := (hgrp i' hi').2.2.1; exact .inl (by omega)
      · rw [e, one_cnt (show k < 64 by omega)]
        exact .inr ⟨rfl, Nat.pow_lt_pow_right (by omega) (by omega)⟩
  · intro i j hi hj
    rcases setsB_cases hi with ⟨_, e⟩ | ⟨i', ei, hi', e⟩ | ⟨k, ei, hk, e⟩
    · rw [e]
      rcases setsB_cases hj with ⟨_, e2⟩ | ⟨j', ej, hj', e2⟩ | ⟨k', ej, hk', e2⟩ <;> rw [e2]
      · exact fitB_self _
      · exact (fit_all (hgrp j' hj').2.1).1
      · exact (fit_all (hone k' hk')).1
    · rw [e]
      rcases setsB_cases hj with ⟨_, e2⟩ | ⟨j', ej, hj', e2⟩ | ⟨k', ej, hk', e2⟩ <;> rw [e2]
      · exact (fit_all (hgrp i' hi').2.1).2
      · exact (hgrp i' hi').2.2.2.2 _ (hgrp j' hj').1
      · exact (fit_one _ k').1
    · rw [e]
      exact (fit_one _ k).2
/-- What Build answers is a tree; its leaves are the languages; the sets of its nodes. -/
theorem bd_tree {L : Nat} {l : List Nat} (hF : FitV l) (hc : chkT (L : Int) l = 0) (h1 : 1 ≤ L) : TreeOk (bdN L l) ∧ (lvT (bdN L l)).length = L ∧ ∀ x, (∃ v, v < (bdN L l).length ∧ cl (bdN L l) v = x) ↔ x ∈ setsB L l := by
  unfold bdN
  by_cases e : L = 1
  · subst e
    have hg : grpsN 1 l = [] := by
      refine List.eq_nil_iff_forall_not_mem.2 fun x hx => ?_
      obtain ⟨g1, g2⟩ := (grp_mem hF).1 hx
      have hx2 := (chk_lt hc).2.2 x g1
      obtain ⟨g3, _⟩ := (grpB_iff (by omega)).1 g2
      have : x = 0 ∨ x = 1 := by omega
      rcases this with e | e <;> subst e <;> revert g3 <;> decide
    rw [if_pos rfl]
    refine ⟨by decide, by decide, fun x => ?_⟩
    unfold setsB
    rw [hg]
    constructor
    · rintro ⟨v, hv, e⟩
      have hv1 : v < 1 := hv
      obtain rfl : v = 0 := by omega
      rw [← e]
      decide
    · intro hx
      have hx1 : x = 1 := by simpa using hx
      exact ⟨0, by simp, by rw [hx1]; decide⟩
  · rw [if_neg e]
    have h := setsOk hF hc (show 2 ≤ L by omega)
    have ht := h.tree
    refine ⟨ht, ?_, fun x => ?_⟩
    · rw [tok_lv (treeN_len _ _ _) ht, h.lvsN]; simp
    · rw [treeN_len]
      constructor
      · rintro ⟨v, hv, e⟩
        rw [h.cl _ (by rw [h.root]; decide) hv] at e
        rw [← e]
        exact vA_mem (by rw [setsB_len]; exact hv)
      · intro hx
        obtain ⟨v, hv, e⟩ := mem_vA hx
        rw [setsB_len] at hv
        exact ⟨v, hv, by rw [h.cl _ (by rw [h.root]; decide) hv]; exact e⟩
/-- Without a conflict each innovation that some language has is the set of a node. -/
theorem bd_has {L : Nat} {l : List Nat} (hF : FitV l) (hc : chkT (L : Int) l = 0) (hn : confE l = none) {x : Nat} (hx : x ∈ l) (h0 : x ≠ 0) : x ∈ setsB L l := by
  obtain ⟨h32, h64, hlt⟩ := chk_lt hc
  have hp : 2 ^ L ≤ 2 ^ 32 := Nat.pow_le_pow_right (by omega) h32
  have hx2 := hlt x hx
  unfold setsB
  by_cases e1 : x = 2 ^ L - 1
  · rw [e1]; exact List.mem_cons_self
  refine List.mem_cons_of_mem _ (List.mem_append.2 ?_)
  by_cases e2 : 2 ≤ cntB x 64
  · left
    refine (grp_mem hF).2 ⟨hx, (grpB_iff (by omega)).2 ⟨e2, e1, fun o ho => ?_⟩⟩
    obtain ⟨i, hi, ei⟩ := mem_vA hx
    obtain ⟨j, hj, ej⟩ := mem_vA ho
    rw [← ei, ← ej]
    rcases Nat.lt_trichotomy i j with q | q | q
    · exact conf_fits hn q hj
    · subst q; exact fitB_self _
    · rw [fitB_symm]; exact conf_fits hn q hi
  · right
    obtain ⟨k, hk⟩ := bit_of_ne h0
    have hkL := bit_lt hx2 hk
    have e : 2 ^ k = x := sub_eq (Nat.pow_lt_pow_right (by omega) (by omega)) (by omega) (one_sub hk) (by rw [one_cnt (show k < 64 by omega)]; omega)
    exact List.mem_map.2 ⟨k, List.mem_range.2 hkL, e⟩
/-- Each of them is a node's set, and no node's set is empty. -/
theorem bd_on {L : Nat} {l : List Nat} (hF : FitV l) (hc : chkT (L : Int) l = 0) (h1 : 1 ≤ L) (hn : confE l = none) {x : Nat} (hx : x ∈ l) : 0 ≤ onN (cl (bdN L l)) x (bdN L l).length ↔ x ≠ 0 := by
  obtain ⟨h2, h3, h4⟩ := bd_tree hF hc h1
  rw [onN_iff]
  constructor
  · rintro ⟨u, hu, e⟩ h0
    exact cl_ne rfl h2 _ u (Nat.le_refl _) hu (by rw [e, h0])
  · intro h0
    exact (h4 x).2 (bd_has hF hc hn hx h0)
theorem bd_loss {L : Nat} {l : List Nat} (hF : FitV l) (hc : chkT (L : Int) l = 0) (h1 : 1 ≤ L) (hn : confE l = none) {x : Nat} (hx : x ∈ l) : lossN (bdN L l) x = 0 := by
  obtain ⟨h2, h3, h4⟩ := bd_tree hF hc h1
  by_cases h0 : x = 0
  · subst h0; unfold lossN; exact loss_zero _ _ _ _
  · obtain ⟨u, hu, e⟩ := (h4 x).2 (bd_has hF hc hn hx h0)
    rw [← e]; exact loss_node rfl h2 hu
theorem bd_chk {L : Nat} {l : List Nat} (hF : FitV l) (hc : chkT (L : Int) l = 0) (h1 : 1 ≤ L) {m : List Nat} (hm : chkT (L : Int) m = 0) : chkP (L : Int) m (bdN L l) = 0 := by
  obtain ⟨h2, h3, _⟩ := bd_tree hF hc h1
  unfold chkP
  rw [if_neg (fun h => h hm), if_neg (fun h => h (chkE_good h2)), if_pos (by rw [h3])]
end Go.Proofs.YtnabbmdhhddfbaaDoor
namespace Go.Proofs.YtnabbmdhhddfbaaDoor
open Go Go.RowKit Go.Shelf
theorem tok_size {t : List Nd} {n : Nat} (hn : t.length = n) (hok : TreeOk t) : ∀ v, v < n → (nS t v).size ≤ 9223372036854775807 := fun v hv => by
  have h := (hok.2.2 v (by omega)).2.2.1
  unfold nmB at h
  rw [Bool.and_eq_true, decide_eq_true_eq] at h
  omega
theorem owns_cap3 {w : World} {base e k n cap : Nat} {a : Option Addr} {cs : List Value} (h : w.ownsRow base e k (.slice a n cap) n cs) : n ≤ cap ∧ cap ≤ 9223372036854775807 := by
  rcases h.2 with ⟨hv, hn⟩ | ⟨g, cap', cur, hv, hg, hh, hn, hm, _⟩
  · cases hv; exact ⟨by omega, by omega⟩
  · cases hv; exact ⟨hn, by unfold maxLen at hm; omega⟩
theorem allF_true {t : List Nd} {l : List Nat} (h : ∀ x, x ∈ l → lossN t x = 0) : allF t l l.length = true := by
  unfold allF
  rw [List.take_length, List.all_eq_true]
  intro x hx
  rw [decide_eq_true_eq]; exact h x hx
theorem bdE_zero {L : Int} {l : List Nat} (h : bdE L l = 0) : chkT L l = 0 ∧ L ≠ 0 := by
  unfold bdE at h
  by_cases q : chkT L l = 0
  · rw [if_neg (fun h => h q)] at h
    by_cases e : L = 0
    · rw [if_pos e] at h; omega
    · exact ⟨q, e⟩
  · rw [if_pos q] at h; exact absurd h q
theorem bdB_of {L : Int} {l : List Nat} (h : bdE L l = 0) : bdB L l = (confE l).isNone := by
  obtain ⟨h1, h2⟩ := bdE_zero h
  unfold bdB
  rw [decide_eq_true h1, decide_eq_false h2]; rfl
theorem bdB_bad {L : Int} {l : List Nat} (h : bdE L l ≠ 0) : bdB L l = false := by
  unfold bdB
  by_cases q : chkT L l = 0
  · by_cases e : L = 0
    · rw [decide_eq_true e]; simp
    · exfalso; apply h; unfold bdE; rw [if_neg (fun h => h q), if_neg e]
  · rw [decide_eq_false q]; rfl
set_option maxRecDepth 100000 in
set_option maxHeartbeats 4000000 in
theorem pflaw_any (L : Int) (a : Option Addr) (N c : Nat) (l : List Nat) (w : World) (hl : l.length = N) (hN : N ≤ 1152921504606846976) (hNc : N ≤ c) (hc : c ≤ 9223372036854775807) (hA : Rd w a (fl encV l)) (hF : FitV l) :
    Calls Tryd.prog 9 #[.agg #[.int .i64 L, .slice a N c]] w fun e w' => e = .returned (.bool true) ∧ Below w.heap.size w w' := by
  have hb0 := bl_alloc (Below.refl _ w) (.cells #[.int .i64 L, .slice a N c] 24)
  have hX := Blk.new w #[.int .i64 L, .slice a N c] 24
  have HL := Lib.hid hl
  have HF := Lib.hid hF
  have HA := Lib.hid (hA.bl hb0)
  have HB0 := Lib.hid hb0
  have HBX := Lib.hid hX
  have HW := Lib.hid works_any
  have HNC := Lib.hid hNc
  have HCC := Lib.hid hc
  clear hl hA hF hb0 hX hNc hc
  obtain ⟨X, hX⟩ : ∃ x, x = w.heap.size := ⟨_, rfl⟩
  rw [← hX] at HBX
  go_enter Tryd.func9, Tryd.ntmps9
  go_wp2_with fail
  refine (build_any L a N c l _ HL.out hN HNC.out HCC.out HA.out HF.out).mono ?_
  rintro e w1 ⟨x1, rfl, ho1, hb1⟩
  have HB1 := Lib.hid (bl_trans HB0.out hb1)
  have HA1 := Lib.hid (HA.out.bl hb1)
  have HBX1 := Lib.hid (HBX.out.below hb1)
  obtain ⟨A1, c1, rfl, _⟩ := owns_slice ho1
  have HO1 := Lib.hid ho1
  rw [← hX]
  have HX := Lib.hid hX
  clear hb1 hX HB0 HA HBX ho1
  have e0 : w1.cell? ⟨X, 0, none⟩ = some (.int .i64 L) := HBX1.out.cell 0
  have e1 : w1.cell? ⟨X, 1, none⟩ = some (.slice a N c) := HBX1.out.cell 1
  obtain ⟨T, hT⟩ : ∃ T, bdT L l = T := ⟨_, rfl⟩
  have HTT := Lib.hid hT
  rw [hT] at HO1 ⊢
  obtain ⟨n, hn⟩ : ∃ n, T.length = n := ⟨_, rfl⟩
  have HNN := Lib.hid hn
  rw [hn] at HO1 ⊢
  clear hT hn
  go_wp2_with fail
  refine (conf_any L a N c l w1 HL.out hN HNC.out HCC.out HA1.out HF.out).mono ?_
  rintro e w2 ⟨rfl, hb2⟩
  have HB2 := Lib.hid (bl_trans HB1.out hb2)
  have HA2 := Lib.hid (HA1.out.bl hb2)
  have HBX2 := Lib.hid (HBX1.out.below hb2)
  have HO2 := Lib.hid (owns_below HO1.out hb2)
  have e0 : w2.cell? ⟨X, 0, none⟩ = some (.int .i64 L) := HBX2.out.cell 0
  have e1 : w2.cell? ⟨X, 1, none⟩ = some (.slice a N c) := HBX2.out.cell 1
  clear hb2 HB1 HA1 HBX1 HO1
  have hcv : Hid (∃ (i j : Int) (b : Bool) (E : Int), cfV L l = .tuple #[.int .i64 i, .int .i64 j, .bool b, .int .i64 E] ∧ (chkT L l = 0 → E = 0 ∧ b = (confE l).isSome)) := by
    show ∃ _, _
    by_cases q : chkT L l = 0
    · cases hce : confE l with
      | none => exact ⟨0, 0, false, 0, cfV_no q hce, fun _ => ⟨rfl, rfl⟩⟩
      | some p =>
        obtain ⟨i, j⟩ := p
        exact ⟨i, j, true, 0, cfV_yes q hce, fun _ => ⟨rfl, rfl⟩⟩
    · exact ⟨0, 0, false, chkT L l, cfV_bad q, fun h => absurd h q⟩
  obtain ⟨ci, cj, cb, cE, hcv1, hcv2⟩ := hcv.out
  rw [hcv1]
  have HCV := Lib.hid hcv2
  clear hcv hcv1 hcv2
  by_cases hq : 20 < N
  · have d1 : decide (20 < (N : Int)) = true := decide_eq_true (by omega)
    have d1n : decide (20 < N) = true := decide_eq_true hq
    clear hq
    go_wp2_with fail
    refine (HW.out _).mono ?_
    rintro e w3 ⟨rfl, hb3⟩
    go_wp2_with fail
    go_ret
    exact ⟨rfl, bl_trans HB2.out hb3⟩
  · have d1 : decide (20 < (N : Int)) = false := decide_eq_false (by omega)
    have d1n : decide (20 < N) = false := decide_eq_false (by omega)
    by_cases h0 : bdE L l = 0
    · obtain ⟨k1, k2⟩ := bdE_zero h0
      have hbb := bdB_of h0
      obtain ⟨hE0, hcb⟩ := HCV.out k1
      subst hE0
      rw [h0, hbb]
      rw [show (confE l).isSome = !(confE l).isNone by cases confE l <;> rfl] at hcb
      obtain ⟨M, rfl⟩ : ∃ M : Nat, L = M := by
        refine ⟨L.toNat, ?_⟩
        unfold chkT at k1
        by_cases q : L < 0 ∨ 32 < L
        · rw [if_pos q] at k1; omega
        · omega
      have hM1 : 1 ≤ M := by omega
      have HK := Lib.hid k1
      cases hce : confE l with
      | some p =>
        have hbf : bdB (M : Int) l = false := by rw [hbb, hce]; rfl
        have ht0 : T = [] := by rw [← HTT.out]; unfold bdT; rw [hbf]; rfl
        have hn0 : n = 0 := by rw [← HNN.out, ht0]; rfl
        rw [hce] at hcb
        simp only [Option.isNone_some, Bool.not_false] at hcb ⊢
        subst hn0 hcb
        clear h0 k1 k2 hbb hce hbf ht0 HCV
        go_wp2_with fail
        refine (HW.out _).mono ?_
        rintro e w3 ⟨rfl, hb3⟩
        go_wp2_with fail
        go_ret
        exact ⟨rfl, bl_trans HB2.out hb3⟩
      | none =>
        have hbt : bdB (M : Int) l = true := by rw [hbb, hce]; rfl
        have ht0 : T = bdN M l := by rw [← HTT.out]; unfold bdT; rw [hbt]; rfl
        rw [hce] at hcb
        simp only [Option.isNone_none, Bool.not_true] at hcb ⊢
        subst hcb
        obtain ⟨t1, t2, _⟩ := bd_tree HF.out k1 hM1
        have t3 := bd_chk HF.out k1 hM1 k1
        have t4 : fitsB (M : Int) l (bdN M l) = true := by rw [fits_all t3]; exact allF_true fun x hx => bd_loss HF.out k1 hM1 hce hx
        have t5 : ∀ k, k < N → (0 ≤ onN (cl (bdN M l)) (vA l k) n ↔ vA l k ≠ 0) := fun k hk => by
          have h := bd_on HF.out k1 hM1 hce (x := vA l k) (vA_mem (by rw [HL.out]; exact hk))
          rw [show (bdN M l).length = n by rw [← ht0, HNN.out]] at h
          exact h
        rw [← ht0] at t1 t2 t3 t4
        have t5 : ∀ k, k < N → (0 ≤ onN (cl T) (vA l k) n ↔ vA l k ≠ 0) := fun k hk => by rw [ht0]; exact t5 k hk
        have t6 := tok_size HNN.out t1
        have t7 : n ≤ 63 := by have := t1.2.1; have := HNN.out; omega
        have hOL : Hid (onL (M : Int) l T = l.map (fun x => onN (cl T) x n)) := by show _ = _; unfold onL; rw [if_pos t3, HNN.out]
        have hOlen : Hid ((onL (M : Int) l T).length = N) := by show _ = _; rw [hOL.out, List.length_map, HL.out]
        obtain ⟨hcp1, hcp2⟩ := owns_cap3 HO2.out
        have HT6 := Lib.hid t6
        have HT5 := Lib.hid t5
        have HR2 := Lib.hid (rd_of_owns HO2.out)
        have HE1 := Lib.hid (chkE_good t1)
        have HT2 := Lib.hid t2
        have HT3 := Lib.hid t3
        have HT4 := Lib.hid t4
        clear h0 k1 k2 hbb hce hbt ht0 HCV t1 t2 t3 t4 t5 t6
        go_wp2_with fail
        refine (Leaves_any A1 n c1 T w2 HNN.out (by omega) HR2.out HT6.out).mono ?_
        rintro e w3 ⟨x3, rfl, ho3, hb3⟩
        obtain ⟨A3, c3, rfl, _⟩ := owns_slice ho3
        rw [HE1.out]
        rw [HT2.out] at ho3 ⊢
        have HB3 := Lib.hid (bl_trans HB2.out hb3)
        have HA3 := Lib.hid (HA2.out.bl hb3)
        have HBX3 := Lib.hid (HBX2.out.below hb3)
        have HR3 := Lib.hid (HR2.out.bl hb3)
        clear hb3 ho3 e0 e1 HB2 HA2 HBX2 HO2 HR2
        have e0 : w3.cell? ⟨X, 0, none⟩ = some (.int .i64 M) := HBX3.out.cell 0
        have e1 : w3.cell? ⟨X, 1, none⟩ = some (.slice a N c) := HBX3.out.cell 1
        go_wp2_with fail
        refine (pfits_any M a N c l A1 n c1 T w3 HL.out hN HA3.out HF.out HNN.out (by omega) hcp1 hcp2 HR3.out HT6.out).mono ?_
        rintro e w4 ⟨rfl, hb4⟩
        rw [HT3.out, HT4.out]
        have HB4 := Lib.hid (bl_trans HB3.out hb4)
        have HA4 := Lib.hid (HA3.out.bl hb4)
        have HBX4 := Lib.hid (HBX3.out.below hb4)
        have HR4 := Lib.hid (HR3.out.bl hb4)
        clear hb4 e0 e1 HB3 HA3 HBX3 HR3
        have e0 : w4.cell? ⟨X, 0, none⟩ = some (.int .i64 M) := HBX4.out.cell 0
        have e1 : w4.cell? ⟨X, 1, none⟩ = some (.slice a N c) := HBX4.out.cell 1
        go_wp2_with fail
        refine (on_any M a N c l A1 n c1 T w4 HL.out hN HA4.out HF.out HNN.out (by omega) hcp1 hcp2 HR4.out HT6.out).mono ?_
        rintro e w5 ⟨x5, rfl, ho5, hb5⟩
        obtain ⟨A5, c5, rfl, _⟩ := owns_slice ho5
        rw [HT3.out]
        have HR5 := Lib.hid (rd_of_owns ho5)
        rw [hOlen.out]
        have HB5 := Lib.hid (bl_trans HB4.out hb5)
        have HA5 := Lib.hid (HA4.out.bl hb5)
        have HBX5 := Lib.hid (HBX4.out.below hb5)
        clear hb5 ho5 e0 e1 HB4 HA4 HBX4 HR4
        have e0 : w5.cell? ⟨X, 0, none⟩ = some (.int .i64 M) := HBX5.out.cell 0
        have e1 : w5.cell? ⟨X, 1, none⟩ = some (.slice a N c) := HBX5.out.cell 1
        go_wp2_with fail
        clear e0 e1
        go_loopw [16] (fun x wr => ∃ k : Nat, k ≤ N ∧ x = .int .i64 k ∧ ∃ q, wr = w5.drewN q) (fun x _ => N - (intOf x).toNat)
        case atStart => exact ⟨0, by omega, rfl, 0, rfl⟩
        case round =>
          obtain ⟨k, hk, rfl, q, rfl⟩ := hrel
          by_cases hkN : k < N
          · obtain ⟨b1, o1, rfl, _, hc1⟩ := rdI HR5.out (by rw [hOlen.out]; omega)
            obtain ⟨ba, oa, rfl, _, hca⟩ := rdV HA5.out (by rw [HL.out]; omega)
            have G1 := hc1 k (by rw [hOlen.out]; exact hkN)
            have G3 := hca k (by rw [HL.out]; exact hkN)
            have g1 : iA (onL (M : Int) l T) k = onN (cl T) (vA l k) n := by
              rw [hOL.out]
              have hkl : k < l.length := by rw [HL.out]; exact hkN
              simp [iA, List.getD_eq_getElem?_getD, hkl, vA]
            rw [g1] at G1
            have f1 : w5.cell? ⟨X, 1, none⟩ = some (.slice (some ⟨ba, oa, none⟩) N c) := HBX5.out.cell 1
            have hy : (0 ≤ onN (cl T) (vA l k) n ↔ vA l k ≠ 0) := HT5.out k hkN
            clear hc1 hca g1
            generalize vA l k = x at *
            generalize onN (cl T) x n = o at *
            by_cases hx : x = 0
            · have s1 : decide (0 ≤ o) = false := decide_eq_false fun h => hy.1 h hx
              have s2 : ((x : Int) != 0) = false := by simp [hx]
              clear hx hy
              go_wp2_with fail
              go_quiet (fail)
              go_wp2_with fail
              go_roundw
              case rel => exact ⟨k + 1, by omega, by go_num, q + nq, by simp⟩
              case measure => simp [intOf]; omega
            · have s1 : decide (0 ≤ o) = true := decide_eq_true (hy.2 hx)
              have s2 : ((x : Int) != 0) = true := by simp [hx]
              clear hx hy
              go_wp2_with fail
              go_quiet (fail)
              go_wp2_with fail
              go_roundw
              case rel => exact ⟨k + 1, by omega, by go_num, q + nq, by simp⟩
              case measure => simp [intOf]; omega
          · go_wp2_with fail
            refine (HW.out _).mono ?_
            rintro e w6 ⟨rfl, hb6⟩
            go_wp2_with fail
            go_ret
            exact ⟨rfl, bl_trans (bl_drewN HB5.out q) hb6⟩
    · have hbf := bdB_bad h0
      have ht0 : T = [] := by rw [← HTT.out]; unfold bdT; rw [hbf]; rfl
      have hn0 : n = 0 := by rw [← HNN.out, ht0]; rfl
      subst hn0
      rw [hbf]
      obtain ⟨E, hE⟩ : ∃ E, bdE L l = E := ⟨_, rfl⟩
      rw [hE] at h0 ⊢
      have r1 : (E == 0) = false := by simp [h0]
      have r2 : (E != 0) = true := by simp [h0]
      clear h0 hE hbf ht0
      go_wp2_with fail
      refine (HW.out _).mono ?_
      rintro e w3 ⟨rfl, hb3⟩
      go_wp2_with fail
      go_ret
      exact ⟨rfl, bl_trans HB2.out hb3⟩
end Go.Proofs.YtnabbmdhhddfbaaDoor
