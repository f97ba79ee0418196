/- The built tree: ways, leaves, the sets of its nodes (plain). The built tree is a tree, for every table (plain). Build's tree has a node for each innovation (plain). What an innovation costs on a tree (plain). What an innovation costs: its opposite, the sets of nodes (plain). pars.check. pars.changes: what an innovation costs on a tree. pars.Lengths, pars.Length. TopPerfect: what innovations cost on the built tree, and on any other (plain). -/
import Derived.Test.YtkdehkkkbfackaaGreatDoorZC
import Derived.Lib.ItoaNum
import Derived.Test.YtkdehkkkbfackaaGreatDoorZF
import Derived.Test.YtkdehkkkbfackaaGreatDoorZB
namespace Go.Proofs.YtkdehkkkbfackaaGreatDoor
open Go Go.RowKit Go.Shelf
theorem cnt_mono {a b : Nat} (h : ∀ i, a.testBit i = true → b.testBit i = true) : ∀ n, cntB a n ≤ cntB b n ∧ (cntB b n ≤ cntB a n → ∀ i, i < n → b.testBit i = true → a.testBit i = true) := by
  intro n
  induction n with
  | zero => exact ⟨Nat.le_refl _, fun _ i hi => by omega⟩
  | succ n ih =>
    obtain ⟨h1, h2⟩ := ih
    unfold cntB
    cases ha : a.testBit n with
    | true =>
      rw [h n ha]
      refine ⟨by simp; exact h1, fun hle i hi hb => ?_⟩
      by_cases e : i = n
      · subst e; exact ha
      · exact h2 (by simp at hle; exact hle) i (by omega) hb
    | false =>
      cases hb : b.testBit n with
      | true => exact ⟨by simp; omega, fun hle => by simp at hle; omega⟩
      | false =>
        refine ⟨by simp; exact h1, fun hle i hi hb2 => ?_⟩
        by_cases e : i = n
        · subst e; rw [hb] at hb2; cases hb2
        · exact h2 (by simp at hle; exact hle) i (by omega) hb2
theorem sub_eq {a b : Nat} (ha : a < 2 ^ 64) (hb : b < 2 ^ 64) (h : b &&& a = a) (hc : cntB b 64 ≤ cntB a 64) : a = b := by
  have hs : ∀ i, a.testBit i = true → b.testBit i = true := fun i hi => sub_bit h hi
  have hk := (cnt_mono hs 64).2 hc
  apply Nat.eq_of_testBit_eq
  intro i
  cases hbi : b.testBit i with
  | true => exact hk i (bit_lt hb hbi) hbi
  | false =>
    cases hai : a.testBit i with
    | true => rw [hs i hai] at hbi; cases hbi
    | false => rfl
/-- Sets in order: all, groups, each language. -/
structure SetsOk (S : List Nat) (m L n : Nat) : Prop where
  l2 : 2 ≤ L
  l32 : L ≤ 32
  hn : n = m + L + 1
  all : vA S 0 = 2 ^ L - 1
  one : ∀ k, k < L → vA S (m + k + 1) = 2 ^ k
  lt : ∀ i, i < n → vA S i < 2 ^ L
  ne : ∀ i, i < n → vA S i ≠ 0
  bef : ∀ i j, i < j → j < n → BefR (vA S i) (vA S j)
  fit : ∀ i j, i < n → j < n → fitB (vA S i) (vA S j) = true
theorem SetsOk.b64 {S : List Nat} {m L n : Nat} (h : SetsOk S m L n) {i : Nat} (hi : i < n) : vA S i < 2 ^ 64 := Nat.lt_of_lt_of_le (h.lt i hi) (Nat.pow_le_pow_right (by omega) (by have := h.l32; omega))
/-- Two sets with something in common: the later one is part of the earlier one. -/
theorem SetsOk.sub {S : List Nat} {m L n : Nat} (h : SetsOk S m L n) {i j : Nat} (hij : i < j) (hj : j < n) (hne : vA S i &&& vA S j ≠ 0) : vA S i &&& vA S j = vA S j := by
  have hf := h.fit i j (by omega) hj
  have hb := h.bef i j hij hj
  unfold fitB at hf
  rw [Bool.or_eq_true, Bool.or_eq_true, decide_eq_true_eq, decide_eq_true_eq, decide_eq_true_eq] at hf
  rcases hf with (hf | hf) | hf
  · exact absurd hf hne
  · unfold BefR at hb
    rw [setBef_iff] at hb
    have e := sub_eq (h.b64 (show i < n by omega)) (h.b64 hj) (by rw [Nat.and_comm]; exact hf) (by omega)
    rw [e, Nat.and_self]
  · exact hf
theorem SetsOk.inj {S : List Nat} {m L n : Nat} (h : SetsOk S m L n) {i j : Nat} (hij : i < j) (hj : j < n) : vA S i ≠ vA S j := fun e => bef_irr (vA S j) (by have := h.bef i j hij hj; rw [e] at this; exact this)
theorem parZ_spec (S : List Nat) (s : Nat) : ∀ k, (parZ S s k = -1 ∧ ∀ i, i < k → vA S i &&& s ≠ s) ∨ ∃ p : Nat, parZ S s k = p ∧ p < k ∧ vA S p &&& s = s ∧ ∀ i, p < i → i < k → vA S i &&& s ≠ s := by
  intro k
  induction k with
  | zero => exact .inl ⟨rfl, fun i hi => by omega⟩
  | succ k ih =>
    unfold parZ
    by_cases e : vA S k &&& s = s
    · rw [if_pos e]
      exact .inr ⟨k, rfl, by omega, e, fun i h1 h2 => by omega⟩
    · rw [if_neg e]
      rcases ih with ⟨h1, h2⟩ | ⟨p, h1, h2, h3, h4⟩
      · refine .inl ⟨h1, fun i hi => ?_⟩
        by_cases e2 : i = k
        · subst e2; exact e
        · exact h2 i (by omega)
      · refine .inr ⟨p, h1, by omega, h3, fun i hi hk => ?_⟩
        by_cases e2 : i = k
        · subst e2; exact e
        · exact h4 i hi (by omega)
theorem treeN_at {S : List Nat} {nm : Nat → ByteArray} {n i : Nat} (hi : i < n) : nP (treeN S nm n) i = parZ S (vA S i) i ∧ nS (treeN S nm n) i = nm i := by
  unfold nP nS treeN
  simp [hi]
theorem sub_all {L x : Nat} (hx : x < 2 ^ L) : (2 ^ L - 1) &&& x = x := by
  apply Nat.eq_of_testBit_eq
  intro k
  rw [Nat.testBit_and, Nat.testBit_two_pow_sub_one]
  cases hb : x.testBit k with
  | true => rw [decide_eq_true (bit_lt hx hb)]; rfl
  | false => simp
/-- The node above. -/
theorem SetsOk.par {S : List Nat} {m L n : Nat} (h : SetsOk S m L n) (nm : Nat → ByteArray) {v : Nat} (h0 : 0 < v) (hv : v < n) :
    ∃ p : Nat, nP (treeN S nm n) v = p ∧ p < v ∧ vA S p &&& vA S v = vA S v ∧ ∀ i, p < i → i < v → vA S i &&& vA S v ≠ vA S v := by
  rw [(treeN_at hv).1]
  rcases parZ_spec S (vA S v) v with ⟨_, h2⟩ | h1
  · exact absurd (by rw [h.all]; exact sub_all (h.lt v hv)) (h2 0 h0)
  · exact h1
theorem SetsOk.hP {S : List Nat} {m L n : Nat} (h : SetsOk S m L n) (nm : Nat → ByteArray) : ∀ v, 0 < v → v < n → 0 ≤ nP (treeN S nm n) v ∧ nP (treeN S nm n) v < v := fun v h0 hv => by
  obtain ⟨p, h1, h2, _⟩ := h.par nm h0 hv
  rw [h1]; omega
theorem sub_trans {a b c : Nat} (h1 : a &&& b = b) (h2 : b &&& c = c) : a &&& c = c := by
  rw [← h2, ← Nat.and_assoc, h1]
theorem sub_ne {a b c : Nat} (hc : c ≠ 0) (h1 : a &&& c = c) (h2 : b &&& c = c) : a &&& b ≠ 0 := by
  intro h
  obtain ⟨k, hk⟩ := bit_of_ne hc
  have := congrArg (fun y => y.testBit k) h
  simp only [Nat.testBit_and, sub_bit h1 hk, sub_bit h2 hk, Nat.zero_testBit, Bool.and_self] at this
  cases this
/-- What lies on the way. -/
theorem SetsOk.way {S : List Nat} {m L n : Nat} (h : SetsOk S m L n) (nm : Nat → ByteArray) : ∀ k v, v ≤ k → v < n → ∀ u, u ∈ pthF (treeN S nm n) n v ↔ u ≤ v ∧ vA S u &&& vA S v = vA S v := by
  have hP := h.hP nm
  intro k
  induction k with
  | zero =>
    intro v hk hv u
    obtain rfl : v = 0 := by omega
    rw [pth_zero, List.mem_singleton]
    constructor
    · rintro rfl; exact ⟨Nat.le_refl _, Nat.and_self _⟩
    · rintro ⟨h1, _⟩; omega
  | succ k ih =>
    intro v hk hv u
    by_cases e : v = 0
    · subst e
      rw [pth_zero, List.mem_singleton]
      constructor
      · rintro rfl; exact ⟨Nat.le_refl _, Nat.and_self _⟩
      · rintro ⟨h1, _⟩; omega
    · obtain ⟨p, p1, p2, p3, p4⟩ := h.par nm (show 0 < v by omega) hv
      rw [pth_succ hP (by omega) hv, p1, Int.toNat_natCast, List.mem_append, List.mem_singleton, ih p (by omega) (by omega) u]
      constructor
      · rintro (⟨h1, h2⟩ | rfl)
        · exact ⟨by omega, sub_trans h2 p3⟩
        · exact ⟨Nat.le_refl _, Nat.and_self _⟩
      · rintro ⟨h1, h2⟩
        by_cases e2 : u = v
        · exact .inr e2
        · left
          by_cases e3 : u ≤ p
          · refine ⟨e3, ?_⟩
            by_cases e4 : u = p
            · subst e4; exact Nat.and_self _
            · exact h.sub (by omega) (by omega) (sub_ne (h.ne v hv) h2 p3)
          · exact absurd h2 (p4 u (by omega) (by omega))
/-- A node below v lies in one of v's children. -/
theorem SetsOk.child {S : List Nat} {m L n : Nat} (h : SetsOk S m L n) (nm : Nat → ByteArray) {v : Nat} : ∀ k y, y ≤ k → y < n → v < y → vA S v &&& vA S y = vA S y → ∃ c, v < c ∧ c < n ∧ nP (treeN S nm n) c = v ∧ vA S c &&& vA S y = vA S y := by
  intro k
  induction k with
  | zero => intro y hy _ hv; omega
  | succ k ih =>
    intro y hy hyn hv hs
    obtain ⟨p, p1, p2, p3, p4⟩ := h.par nm (show 0 < y by omega) hyn
    by_cases e : p = v
    · subst e
      exact ⟨y, hv, hyn, p1, Nat.and_self _⟩
    · have hvp : v < p := by
        rcases Nat.lt_or_ge v p with q | q
        · exact q
        · exact absurd hs (p4 v (by omega) hv)
      obtain ⟨c, c1, c2, c3, c4⟩ := ih p (by omega) (by omega) hvp (h.sub hvp (by omega) (sub_ne (h.ne y hyn) hs p3))
      exact ⟨c, c1, c2, c3, sub_trans c4 p3⟩
theorem one_sub {x k : Nat} (h : x.testBit k = true) : x &&& 2 ^ k = 2 ^ k := by
  apply Nat.eq_of_testBit_eq
  intro i
  rw [Nat.testBit_and, Nat.testBit_two_pow]
  by_cases e : k = i
  · subst e; rw [h]; simp
  · rw [decide_eq_false e, Bool.and_false]
theorem sub_one {x k : Nat} (h : x &&& 2 ^ k = 2 ^ k) : x.testBit k = true := sub_bit h (Nat.testBit_two_pow_self)
/-- Each bit of an inner node lies in a child. -/
theorem SetsOk.kid {S : List Nat} {m L n : Nat} (h : SetsOk S m L n) (nm : Nat → ByteArray) {v k : Nat} (hv : v ≤ m) (hk : (vA S v).testBit k = true) : ∃ c, v < c ∧ c < n ∧ nP (treeN S nm n) c = v ∧ (vA S c).testBit k = true := by
  have hn := h.hn
  have hkL : k < L := bit_lt (h.lt v (by omega)) hk
  obtain ⟨c, c1, c2, c3, c4⟩ := h.child nm (v := v) (m + k + 1) (m + k + 1) (Nat.le_refl _) (by omega) (by omega) (by rw [h.one k hkL]; exact one_sub hk)
  rw [h.one k hkL] at c4
  exact ⟨c, c1, c2, c3, sub_one c4⟩
theorem SetsOk.leaf {S : List Nat} {m L n : Nat} (h : SetsOk S m L n) (nm : Nat → ByteArray) {v : Nat} (hv : v < n) : leafB (treeN S nm n) v = decide (m < v) := by
  have hn := h.hn
  rw [leafB_in, treeN_len]
  by_cases q : m < v
  · rw [decide_eq_true q]
    have : inB (treeN S nm n) n v = false := by
      unfold inB
      rw [List.any_eq_false]
      intro c hc hk
      have hc := List.mem_range.1 hc
      unfold kidB at hk
      rw [Bool.and_eq_true, decide_eq_true_eq, decide_eq_true_eq] at hk
      obtain ⟨p, p1, p2, p3, _⟩ := h.par nm hk.1 hc
      have e : p = v := by rw [p1] at hk; exact Int.ofNat.inj hk.2
      subst e
      have e1 : vA S p = 2 ^ (p - m - 1) := by have := h.one (p - m - 1) (by omega); rwa [show m + (p - m - 1) + 1 = p by omega] at this
      have e2 : vA S c = 2 ^ (c - m - 1) := by have := h.one (c - m - 1) (by omega); rwa [show m + (c - m - 1) + 1 = c by omega] at this
      rw [e1, e2] at p3
      have h3 := sub_one p3
      rw [Nat.testBit_two_pow, decide_eq_true_eq] at h3
      omega
    rw [this]; rfl
  · rw [decide_eq_false q]
    obtain ⟨k, hk⟩ := bit_of_ne (h.ne v hv)
    obtain ⟨c, c1, c2, c3, _⟩ := h.kid nm (by omega) hk
    have : inB (treeN S nm n) n v = true := List.any_eq_true.2 ⟨c, List.mem_range.2 c2, by unfold kidB; rw [decide_eq_true (by omega), decide_eq_true c3]; rfl⟩
    rw [this]; rfl
theorem SetsOk.lvs {S : List Nat} {m L n : Nat} (h : SetsOk S m L n) (nm : Nat → ByteArray) : ∀ j, j ≤ L → lvsL (treeN S nm n) (m + 1 + j) = (List.range j).map fun k => m + k + 1 := by
  have hn := h.hn
  have base : ∀ i, i ≤ m + 1 → lvsL (treeN S nm n) i = [] := by
    intro i
    induction i with
    | zero => intro _; rfl
    | succ i ih =>
      intro hi
      rw [lvsL_snoc, ih (by omega), h.leaf nm (show i < n by omega), decide_eq_false (by omega)]; rfl
  intro j
  induction j with
  | zero => intro _; exact base (m + 1) (Nat.le_refl _)
  | succ j ih =>
    intro hj
    rw [show m + 1 + (j + 1) = (m + 1 + j) + 1 by omega, lvsL_snoc, ih (by omega), h.leaf nm (show m + 1 + j < n by omega), decide_eq_true (by omega), List.range_succ, List.map_append]
    simp; omega
theorem SetsOk.lvsN {S : List Nat} {m L n : Nat} (h : SetsOk S m L n) (nm : Nat → ByteArray) : lvsL (treeN S nm n) n = (List.range L).map fun k => m + k + 1 := by
  have := h.lvs nm L (Nat.le_refl _)
  rwa [show m + 1 + L = n by have := h.hn; omega] at this
/-- The set of node v is the v-th. -/
theorem SetsOk.cl {S : List Nat} {m L n : Nat} (h : SetsOk S m L n) (nm : Nat → ByteArray) (hr : nP (treeN S nm n) 0 < 0) {v : Nat} (hv : v < n) : Go.Proofs.YtkdehkkkbfackaaGreatDoor.cl (treeN S nm n) v = vA S v := by
  have hn := h.hn
  have hP := h.hP nm
  have hlv := h.lvsN nm
  have hlen : (lvsL (treeN S nm n) n).length = L := by rw [hlv]; simp
  apply Nat.eq_of_testBit_eq
  intro k
  by_cases hk : k < L
  · have hat : vA (lvsL (treeN S nm n) n) k = m + k + 1 := by rw [hlv]; simp [vA, hk]
    rw [Bool.eq_iff_iff, cl_bit (treeN_len S nm n) hP hr (by omega) hv, hat, h.way nm _ _ (Nat.le_refl _) (by omega), h.one k hk]
    constructor
    · rintro ⟨_, h2⟩; exact sub_one h2
    · intro hb
      refine ⟨?_, one_sub hb⟩
      rcases Nat.lt_or_ge m v with q | q
      · have e1 : vA S v = 2 ^ (v - m - 1) := by have := h.one (v - m - 1) (by omega); rwa [show m + (v - m - 1) + 1 = v by omega] at this
        rw [e1, Nat.testBit_two_pow, decide_eq_true_eq] at hb
        omega
      · omega
  · have hp : 2 ^ L ≤ 2 ^ k := Nat.pow_le_pow_right (by omega) (by omega)
    have h1 := cl_lt (t := treeN S nm n) (n := L) (by rw [treeN_len, hlen]; exact Nat.le_refl _) v (by rw [treeN_len]; exact hv)
    have h2 := h.lt v hv
    rw [Nat.testBit_lt_two_pow (by omega), Nat.testBit_lt_two_pow (by omega)]
end Go.Proofs.YtkdehkkkbfackaaGreatDoor
namespace Go.Proofs.YtkdehkkkbfackaaGreatDoor
open Go Go.RowKit Go.Shelf
/-- How many below n have p. -/
def cF (p : Nat → Bool) : Nat → Nat
  | 0 => 0
  | n + 1 => cF p n + if p n then 1 else 0
theorem cF_le (p : Nat → Bool) (a : Nat) (h : ∀ v, v < a → p v = false) : ∀ n, cF p n ≤ n - a := by
  intro n
  induction n with
  | zero => exact Nat.zero_le _
  | succ n ih =>
    unfold cF
    by_cases q : n < a
    · rw [h n q]; simp; omega
    · split <;> omega
theorem cF_one (p : Nat → Bool) {v : Nat} (h : p v = true) : ∀ n, v < n → 1 ≤ cF p n := by
  intro n
  induction n with
  | zero => intro hv; omega
  | succ n ih =>
    intro hv
    unfold cF
    by_cases e : v = n
    · subst e; rw [h]; simp
    · have := ih (by omega); omega
theorem cF_two (p : Nat → Bool) {u v : Nat} (huv : u < v) (hu : p u = true) (hv : p v = true) : ∀ n, v < n → 2 ≤ cF p n := by
  intro n
  induction n with
  | zero => intro h; omega
  | succ n ih =>
    intro h
    unfold cF
    by_cases e : v = n
    · subst e; rw [hv]; have := cF_one p hu v huv; simp; omega
    · have := ih (by omega); omega
theorem cF_sum {f g h k : Nat → Bool} : ∀ n, (∀ v, v < n → (if f v then 1 else 0) + (if g v then 1 else 0) = (if h v then 1 else 0) + (if k v then 1 else 0)) → cF f n + cF g n = cF h n + cF k n := by
  intro n
  induction n with
  | zero => intro _; rfl
  | succ n ih =>
    intro hs
    have h1 := ih fun v hv => hs v (by omega)
    have h2 := hs n (by omega)
    unfold cF
    omega
theorem cF_eq (j : Nat) : ∀ n, cF (fun v => decide (v = j)) n = if j < n then 1 else 0 := by
  intro n
  induction n with
  | zero => rfl
  | succ n ih =>
    show cF (fun v => decide (v = j)) n + (if decide (n = j) then 1 else 0) = _
    rw [ih]
    by_cases e : n = j
    · subst e; simp
    · by_cases q : j < n
      · simp [e, q]; omega
      · simp [e, q]; omega
/-- There are fewer inner nodes than leaves. -/
theorem SetsOk.few {S : List Nat} {m L n : Nat} (h : SetsOk S m L n) (nm : Nat → ByteArray) (hr : nP (treeN S nm n) 0 < 0) : m + 2 ≤ L := by
  have hn := h.hn
  have hP := h.hP nm
  obtain ⟨t, ht⟩ : ∃ t, t = treeN S nm n := ⟨_, rfl⟩
  have hkid : ∀ j, j ≤ m → 2 ≤ cF (fun v => decide (nP t v = (j : Int))) n := fun j hj => by
    obtain ⟨k, hk⟩ := bit_of_ne (h.ne j (by omega))
    obtain ⟨c, c1, c2, c3, c4⟩ := h.kid nm hj hk
    have hne := h.inj c1 c2
    have hd : ∃ k2, (vA S j).testBit k2 = true ∧ (vA S c).testBit k2 = false := by
      obtain ⟨p, p1, _, p3, _⟩ := h.par nm (show 0 < c by omega) c2
      have e : p = j := by rw [p1] at c3; exact Int.ofNat.inj c3
      subst e
      refine Classical.byContradiction fun hno => hne ?_
      apply Nat.eq_of_testBit_eq
      intro i
      cases hb : (vA S c).testBit i with
      | true => exact sub_bit p3 hb
      | false =>
        cases hj2 : (vA S p).testBit i with
        | false => rfl
        | true => exact absurd ⟨i, hj2, hb⟩ hno
    obtain ⟨k2, e1, e2⟩ := hd
    obtain ⟨c', d1, d2, d3, d4⟩ := h.kid nm hj e1
    have hcc : c ≠ c' := fun e => by rw [e] at e2; rw [d4] at e2; cases e2
    rw [← ht] at c3 d3
    rcases Nat.lt_or_ge c c' with q | q
    · exact cF_two (fun v => decide (nP t v = (j : Int))) q (decide_eq_true c3) (decide_eq_true d3) n d2
    · exact cF_two (fun v => decide (nP t v = (j : Int))) (show c' < c by omega) (decide_eq_true d3) (decide_eq_true c3) n c2
  have hp : ∀ v, v < n → nP t v < v := fun v hv => by
    by_cases e : v = 0
    · subst e; rw [ht]; exact hr
    · rw [ht]; exact (hP v (by omega) hv).2
  obtain ⟨c, hc⟩ : ∃ c : Nat → Nat, c = fun j => cF (fun v => decide (j ≤ v) && decide (nP t v < (j : Int))) n := ⟨_, rfl⟩
  have hcj : ∀ j, c j = cF (fun v => decide (j ≤ v) && decide (nP t v < (j : Int))) n := fun j => by rw [hc]
  have step : ∀ j, j < n → c j + cF (fun v => decide (nP t v = (j : Int))) n = c (j + 1) + 1 := fun j hj => by
    have h1 := cF_sum (f := fun v => decide (j ≤ v) && decide (nP t v < (j : Int))) (g := fun v => decide (nP t v = (j : Int))) (h := fun v => decide (j + 1 ≤ v) && decide (nP t v < ((j + 1 : Nat) : Int))) (k := fun v => decide (v = j)) n (fun v hv => by
      have hpv := hp v hv
      by_cases a1 : v < j
      · rw [decide_eq_false (show ¬ j ≤ v by omega), decide_eq_false (show ¬ nP t v = (j : Int) by omega), decide_eq_false (show ¬ j + 1 ≤ v by omega), decide_eq_false (show ¬ v = j by omega)] <;> rfl
      · by_cases a2 : v = j
        · subst a2
          rw [decide_eq_true (Nat.le_refl v), decide_eq_true hpv, decide_eq_false (show ¬ nP t v = (v : Int) by omega), decide_eq_false (show ¬ v + 1 ≤ v by omega), decide_eq_true rfl] <;> rfl
        · rw [decide_eq_true (show j ≤ v by omega), decide_eq_true (show j + 1 ≤ v by omega), decide_eq_false a2]
          by_cases b1 : nP t v < (j : Int)
          · rw [decide_eq_true b1, decide_eq_false (show ¬ nP t v = (j : Int) by omega), decide_eq_true (show nP t v < ((j + 1 : Nat) : Int) by omega)] <;> rfl
          · by_cases b2 : nP t v = (j : Int)
            · rw [decide_eq_false b1, decide_eq_true b2, decide_eq_true (show nP t v < ((j + 1 : Nat) : Int) by omega)] <;> rfl
            · rw [decide_eq_false b1, decide_eq_false b2, decide_eq_false (show ¬ nP t v < ((j + 1 : Nat) : Int) by omega)] <;> rfl)
    rw [cF_eq, if_pos hj, ← hcj, ← hcj] at h1
    exact h1
  have down : ∀ i, i ≤ m + 1 → c (m + 1 - i) + i ≤ L := by
    intro i
    induction i with
    | zero =>
      intro _
      have := cF_le (fun v => decide (m + 1 ≤ v) && decide (nP t v < ((m + 1 : Nat) : Int))) (m + 1) (fun v hv => by rw [decide_eq_false (show ¬ m + 1 ≤ v by omega)]; rfl) n
      rw [Nat.sub_zero, hcj]
      omega
    | succ i ih =>
      intro hi
      have h1 := ih (by omega)
      have h2 := step (m + 1 - (i + 1)) (by omega)
      have h3 := hkid (m + 1 - (i + 1)) (by omega)
      rw [show m + 1 - (i + 1) + 1 = m + 1 - i by omega] at h2
      omega
  have h0 := down (m + 1) (Nat.le_refl _)
  have h1 : 1 ≤ c 0 := by
    rw [hcj]
    exact cF_one _ (v := 0) (by rw [ht]; simp; exact hr) n (by omega)
  rw [Nat.sub_self] at h0
  omega
/-- The letters of a node's name. -/
def nodL (G i : Nat) : List UInt8 := if i = 0 then [114, 111, 111, 116] else if i ≤ G then 78 :: Lib.decDigits i else 76 :: Lib.decDigits (i - G - 1)
theorem dig_two {i : Nat} (h : i < 100) : (i < 10 ∧ Lib.decDigits i = [UInt8.ofNat (48 + i)]) ∨ (10 ≤ i ∧ Lib.decDigits i = [UInt8.ofNat (48 + i / 10), UInt8.ofNat (48 + i % 10)]) := by
  by_cases q : i < 10
  · exact .inl ⟨q, Lib.decDigits_one q⟩
  · exact .inr ⟨by omega, Lib.decDigits_two q h⟩
theorem dig_inj {i j : Nat} (hi : i < 100) (hj : j < 100) (h : Lib.decDigits i = Lib.decDigits j) : i = j := by
  rcases dig_two hi with ⟨a1, a2⟩ | ⟨a1, a2⟩ <;> rcases dig_two hj with ⟨b1, b2⟩ | ⟨b1, b2⟩ <;> rw [a2, b2] at h
  · have := u8_inj (by omega) (by omega) (List.cons.inj h).1; omega
  · have := congrArg List.length h; simp at this
  · have := congrArg List.length h; simp at this
  · have h1 := u8_inj (by omega) (by omega) (List.cons.inj h).1
    have h2 := u8_inj (by omega) (by omega) (List.cons.inj (List.cons.inj h).2).1
    omega
theorem nodL_inj {G i j : Nat} (hi : i < 100) (hj : j < 100) (h : nodL G i = nodL G j) : i = j := by
  unfold nodL at h
  by_cases a1 : i = 0
  · rw [if_pos a1] at h
    by_cases b1 : j = 0
    · omega
    · rw [if_neg b1] at h
      by_cases b2 : j ≤ G
      · rw [if_pos b2] at h; exact absurd (List.cons.inj h).1 (by decide)
      · rw [if_neg b2] at h; exact absurd (List.cons.inj h).1 (by decide)
  · rw [if_neg a1] at h
    by_cases b1 : j = 0
    · rw [if_pos b1] at h
      by_cases a2 : i ≤ G
      · rw [if_pos a2] at h; exact absurd (List.cons.inj h).1 (by decide)
      · rw [if_neg a2] at h; exact absurd (List.cons.inj h).1 (by decide)
    · rw [if_neg b1] at h
      by_cases a2 : i ≤ G <;> by_cases b2 : j ≤ G
      · rw [if_pos a2, if_pos b2] at h
        exact dig_inj hi hj (List.cons.inj h).2
      · rw [if_pos a2, if_neg b2] at h; exact absurd (List.cons.inj h).1 (by decide)
      · rw [if_neg a2, if_pos b2] at h; exact absurd (List.cons.inj h).1 (by decide)
      · rw [if_neg a2, if_neg b2] at h
        have := dig_inj (by omega) (by omega) (List.cons.inj h).2
        omega
theorem namB_L (G i : Nat) : (namB G i).data.toList = nodL G i := by
  unfold namB nodL
  by_cases a1 : i = 0
  · rw [if_pos a1, if_pos a1]
  · rw [if_neg a1, if_neg a1]
    by_cases a2 : i ≤ G
    · rw [if_pos a2, if_pos a2, ByteArray.data_append]
      simp [itoaB]
    · rw [if_neg a2, if_neg a2, ByteArray.data_append]
      simp [itoaB]
theorem dig_ok {i : Nat} (h : i < 100) : (∀ c ∈ Lib.decDigits i, ltrI c.toNat = true) ∧ (Lib.decDigits i).length ≤ 2 := by
  have key : ∀ d, d < 10 → ltrI ((UInt8.ofNat (48 + d)).toNat : Nat) = true := fun d hd => by
    rw [UInt8.toNat_ofNat']
    unfold ltrI
    rw [decide_eq_true]
    right; right; left
    omega
  rcases dig_two h with ⟨a1, a2⟩ | ⟨a1, a2⟩
  · rw [a2]
    refine ⟨fun c hc => ?_, by simp⟩
    rw [List.mem_singleton] at hc; subst hc; exact key i a1
  · rw [a2]
    refine ⟨fun c hc => ?_, by simp⟩
    rcases List.mem_cons.1 hc with rfl | hc
    · exact key _ (by omega)
    · rw [List.mem_singleton] at hc; subst hc; exact key _ (by omega)
theorem namB_ok {G i : Nat} (h : i < 100) : nmB (namB G i) = true := by
  have hl := namB_L G i
  unfold nodL at hl
  by_cases a1 : i = 0
  · rw [if_pos a1] at hl
    exact nmB_of (by rw [hl]; decide) (by rw [hl]; decide) (by rw [hl]; decide)
  · rw [if_neg a1] at hl
    by_cases a2 : i ≤ G
    · rw [if_pos a2] at hl
      obtain ⟨h1, h2⟩ := dig_ok h
      refine nmB_of ?_ (by rw [hl]; simp) (by rw [hl]; simp; omega)
      rw [hl]
      intro c hc
      rcases List.mem_cons.1 hc with rfl | hc
      · decide
      · exact h1 c hc
    · rw [if_neg a2] at hl
      obtain ⟨h1, h2⟩ := dig_ok (show i - G - 1 < 100 by omega)
      refine nmB_of ?_ (by rw [hl]; simp) (by rw [hl]; simp; omega)
      rw [hl]
      intro c hc
      rcases List.mem_cons.1 hc with rfl | hc
      · decide
      · exact h1 c hc
theorem SetsOk.root {S : List Nat} {m L n : Nat} (h : SetsOk S m L n) (nm : Nat → ByteArray) : nP (treeN S nm n) 0 = -1 := by
  rw [(treeN_at (show 0 < n by have := h.hn; omega)).1]; rfl
/-- The built tree is a tree. -/
theorem SetsOk.tree {S : List Nat} {m L n : Nat} (h : SetsOk S m L n) : TreeOk (treeN S (namB m) n) := by
  have hn := h.hn
  have hf := h.few (namB m) (by rw [h.root]; decide)
  have h32 := h.l32
  refine ⟨by rw [treeN_len]; omega, by rw [treeN_len]; omega, fun v hv => ?_⟩
  rw [treeN_len] at hv
  refine ⟨?_, ?_, ?_, ?_⟩
  · by_cases e : v = 0
    · subst e; rw [h.root]; decide
    · exact (h.hP (namB m) v (by omega) hv).2
  · by_cases e : v = 0
    · subst e; rw [h.root]; decide
    · rw [if_neg e]; exact (h.hP (namB m) v (by omega) hv).1
  · rw [(treeN_at hv).2]; exact namB_ok (by omega)
  · unfold seenB
    rw [List.any_eq_false]
    intro u hu
    have hu := List.mem_range.1 hu
    rw [decide_eq_true_eq, (treeN_at hv).2, (treeN_at (show u < n by omega)).2]
    intro e
    have e2 := congrArg (fun s => s.data.toList) e
    simp only [namB_L] at e2
    have := nodL_inj (by omega) (by omega) e2
    omega
end Go.Proofs.YtkdehkkkbfackaaGreatDoor
namespace Go.Proofs.YtkdehkkkbfackaaGreatDoor
open Go Go.RowKit Go.Shelf
theorem one_cnt {k : Nat} (hk : k < 64) : cntB (2 ^ k) 64 = 1 := by
  have hx : 2 ^ k < 2 ^ 64 := Nat.pow_lt_pow_right (by omega) hk
  have h1 : cntB (2 ^ k) 64 ≤ 1 := (low_cnt 64 (2 ^ k) hx).1 (by rw [Nat.and_two_pow_sub_one_eq_mod, Nat.mod_self])
  have h2 : cntB (2 ^ k) 64 ≠ 0 := fun h => by
    have := (cntB_zero 64 (2 ^ k) hx).1 h
    have := Nat.two_pow_pos k
    omega
  omega
theorem grp_mem {L : Nat} {l : List Nat} (hF : FitV l) {x : Nat} : x ∈ grpsN L l ↔ x ∈ l ∧ grpB L l x = true := by
  rw [grpsN_mem hF]
  unfold grpL
  rw [List.mem_filter, List.take_length]
theorem grpB_iff {L : Nat} {l : List Nat} {x : Nat} (hx : x < 18446744073709551616) : grpB L l x = true ↔ 2 ≤ cntB x 64 ∧ x ≠ 2 ^ L - 1 ∧ ∀ o, o ∈ l → fitB x o = true := by
  unfold grpB
  rw [Bool.and_eq_true, Bool.and_eq_true, Bool.not_eq_true', Bool.not_eq_true', Bool.not_eq_true', decide_eq_false_iff_not, decide_eq_false_iff_not, lowOff_cnt hx, List.any_eq_false]
  constructor
  · rintro ⟨⟨h1, h2⟩, h3⟩
    refine ⟨by omega, h2, fun o ho => ?_⟩
    have := h3 o ho
    simpa using this
  · rintro ⟨h1, h2, h3⟩
    refine ⟨⟨by omega, h2⟩, fun o ho => ?_⟩
    rw [h3 o ho]; simp
theorem vA_mem {l : List Nat} {i : Nat} (h : i < l.length) : vA l i ∈ l := by rw [vA_get h]; exact List.getElem_mem h
theorem mem_vA {l : List Nat} {x : Nat} (h : x ∈ l) : ∃ i, i < l.length ∧ vA l i = x := by
  obtain ⟨i, hi, e⟩ := List.mem_iff_getElem.1 h
  exact ⟨i, hi, by rw [vA_get hi]; exact e⟩
theorem fit_all {L x : Nat} (hx : x < 2 ^ L) : fitB (2 ^ L - 1) x = true ∧ fitB x (2 ^ L - 1) = true := by
  have h := sub_all hx
  have h2 := h
  rw [Nat.and_comm] at h2
  unfold fitB
  rw [h, h2]; simp
theorem fit_one (x k : Nat) : fitB x (2 ^ k) = true ∧ fitB (2 ^ k) x = true := by
  have key : x &&& 2 ^ k = 0 ∨ x &&& 2 ^ k = 2 ^ k := by
    cases hb : x.testBit k with
    | true => exact .inr (one_sub hb)
    | false =>
      left
      apply Nat.eq_of_testBit_eq
      intro i
      rw [Nat.testBit_and, Nat.testBit_two_pow, Nat.zero_testBit]
      by_cases e : k = i
      · subst e; rw [hb]; rfl
      · rw [decide_eq_false e, Bool.and_false]
  have key2 := key
  rw [Nat.and_comm] at key2
  unfold fitB
  rcases key with e | e <;> rw [Nat.and_comm] at key2 <;> rw [Nat.and_comm (2 ^ k)] <;> rw [e] <;> simp
/-- The three kinds of nodes. -/
theorem setsB_cases {L : Nat} {l : List Nat} {i : Nat} (hi : i < (grpsN L l).length + L + 1) : (i = 0 ∧ vA (setsB L l) i = 2 ^ L - 1) ∨ (∃ j, i = j + 1 ∧ j < (grpsN L l).length ∧ vA (setsB L l) i = vA (grpsN L l) j) ∨ ∃ k, i = (grpsN L l).length + k + 1 ∧ k < L ∧ vA (setsB L l) i = 2 ^ k := by
  rcases Nat.eq_zero_or_pos i with e | e
  · subst e; exact .inl ⟨rfl, setsB_zero L l⟩
  · rcases Nat.lt_or_ge (i - 1) (grpsN L l).length with q | q
    · refine .inr (.inl ⟨i - 1, by omega, q, ?_⟩)
      have := setsB_grp q
      rwa [show i - 1 + 1 = i by omega] at this
    · refine .inr (.inr ⟨i - 1 - (grpsN L l).length, by omega, by omega, ?_⟩)
      have := setsB_one (l := l) (show i - 1 - (grpsN L l).length < L by omega)
      rwa [show (grpsN L l).length + (i - 1 - (grpsN L l).length) + 1 = i by omega] at this
theorem setsOk {L : Nat} {l : List Nat} (hF : FitV l) (hc : chkT (L : Int) l = 0) (h2 : 2 ≤ L) : SetsOk (setsB L l) (grpsN L l).length L ((grpsN L l).length + L + 1) := by
  obtain ⟨h32, h64, hlt⟩ := chk_lt hc
  have hp : 2 ^ L ≤ 2 ^ 32 := Nat.pow_le_pow_right (by omega) h32
  have hp2 : 4 ≤ 2 ^ L := Nat.pow_le_pow_right (n := 2) (by omega) h2
  have hgrp : ∀ j, j < (grpsN L l).length → vA (grpsN L l) j ∈ l ∧ vA (grpsN L l) j < 2 ^ L ∧ 2 ≤ cntB (vA (grpsN L l) j) 64 ∧ vA (grpsN L l) j ≠ 2 ^ L - 1 ∧ ∀ o, o ∈ l → fitB (vA (grpsN L l) j) o = true := fun j hj => by
    obtain ⟨h1, h3⟩ := (grp_mem hF).1 (vA_mem hj)
    have h4 := hlt _ h1
    exact ⟨h1, h4, (grpB_iff (by omega)).1 h3⟩
  have hone : ∀ k, k < L → 2 ^ k < 2 ^ L := fun k hk => Nat.pow_lt_pow_right (by omega) hk
  have hallc : ∀ x, x < 2 ^ L → x ≠ 2 ^ L - 1 → cntB x 64 < cntB (2 ^ L - 1) 64 := fun x hx hne => by
    refine Classical.byContradiction fun h => hne ?_
    exact sub_eq (by omega) (by omega) (sub_all hx) (by omega)
  have hone1 : ∀ k, k < L → 2 ^ k ≠ 2 ^ L - 1 := fun k hk => by
    have h1 : 2 ^ k ≤ 2 ^ (L - 1) := Nat.pow_le_pow_right (by omega) (by omega)
    have h3 : 2 ^ L = 2 ^ (L - 1) * 2 := by rw [← Nat.pow_succ]; congr 1; omega
    have h4 : 2 ^ 1 ≤ 2 ^ (L - 1) := Nat.pow_le_pow_right (by omega) (by omega)
    omega
  refine ⟨h2, h32, rfl, setsB_zero L l, fun k hk => setsB_one hk, ?_, ?_, ?_, ?_⟩
  · intro i hi
    rcases setsB_cases hi with ⟨_, e⟩ | ⟨j, _, hj, e⟩ | ⟨k, _, hk, e⟩ <;> rw [e]
    · omega
    · exact (hgrp j hj).2.1
    · exact hone k hk
  · intro i hi
    rcases setsB_cases hi with ⟨_, e⟩ | ⟨j, _, hj, e⟩ | ⟨k, _, hk, e⟩ <;> rw [e]
    · omega
    · intro h0
      have := (hgrp j hj).2.2.1
      rw [h0, (cntB_zero 64 0 (by decide)).2 rfl] at this
      omega
    · have := Nat.two_pow_pos k; omega
  · intro i j hij hj
    unfold BefR
    rw [setBef_iff]
    rcases setsB_cases hj with ⟨ej, _⟩ | ⟨j', ej, hj', e2⟩ | ⟨k', ej, hk', e2⟩
    · omega
    · rw [e2]
      obtain ⟨g1, g2, g3, g4, g5⟩ := hgrp j' hj'
      rcases setsB_cases (show i < (grpsN L l).length + L + 1 by omega) with ⟨_, e⟩ | ⟨i', ei, hi', e⟩ | ⟨k, ei, hk, e⟩
      · rw [e]; exact .inl (hallc _ g2 g4)
      · rw [e]
        have h1 := List.pairwise_iff_getElem.1 (grpsN_pw L l) i' j' hi' hj' (by omega)
        rw [← vA_get hi', ← vA_get hj'] at h1
        unfold BefR at h1
        rwa [setBef_iff] at h1
      · omega
    · rw [e2, one_cnt (show k' < 64 by omega)]
      rcases setsB_cases (show i < (grpsN L l).length + L + 1 by omega) with ⟨_, e⟩ | ⟨i', ei, hi', e⟩ | ⟨k, ei, hk, e⟩
      · rw [e]
        have := hallc _ (hone k' hk') (hone1 k' hk')
        rw [one_cnt (show k' < 64 by omega)] at this
        exact .inl this
      · rw [e]; have := (hgrp i' hi').2.2.1; exact .inl (by omega)
      · rw [e, one_cnt (show k < 64 by omega)]
        exact .inr ⟨rfl, Nat.pow_lt_pow_right (by omega) (by omega)⟩
  · intro i j hi hj
    rcases setsB_cases hi with ⟨_, e⟩ | ⟨i', ei, hi', e⟩ | ⟨k, ei, hk, e⟩
    · rw [e]
      rcases setsB_cases hj with ⟨_, e2⟩ | ⟨j', ej, hj', e2⟩ | ⟨k', ej, hk', e2⟩ <;> rw [e2]
      · exact fitB_self _
      · exact (fit_all (hgrp j' hj').2.1).1
      · exact (fit_all (hone k' hk')).1
    · rw [e]
      rcases setsB_cases hj with ⟨_, e2⟩ | ⟨j', ej, hj', e2⟩ | ⟨k', ej, hk', e2⟩ <;> rw [e2]
      · exact (fit_all (hgrp i' hi').2.1).2
      · exact (hgrp i' hi').2.2.2.2 _ (hgrp j' hj').1
      · exact (fit_one _ k').1
    · rw [e]
      exact (fit_one _ k).2
/-- What Build answers is a tree; its leaves are the languages; the sets of its nodes. -/
theorem bd_tree {L : Nat} {l : List Nat} (hF : FitV l) (hc : chkT (L : Int) l = 0) (h1 : 1 ≤ L) : TreeOk (bdN L l) ∧ (lvT (bdN L l)).length = L ∧ ∀ x, (∃ v, v < (bdN L l).length ∧ cl (bdN L l) v = x) ↔ x ∈ setsB L l := by
  unfold bdN
  by_cases e : L = 1
  · subst e
    have hg : grpsN 1 l = [] := by
      refine List.eq_nil_iff_forall_not_mem.2 fun x hx => ?_
      obtain ⟨g1, g2⟩ := (grp_mem hF).1 hx
      have hx2 := (chk_lt hc).2.2 x g1
      obtain ⟨g3, _⟩ := (grpB_iff (by omega)).1 g2
      have : x = 0 ∨ x = 1 := by omega
      rcases this with e | e <;> subst e <;> revert g3 <;> decide
    rw [if_pos rfl]
    refine ⟨by decide, by decide, fun x => ?_⟩
    unfold setsB
    rw [hg]
    constructor
    · rintro ⟨v, hv, e⟩
      have hv1 : v < 1 := hv
      obtain rfl : v = 0 := by omega
      rw [← e]
      decide
    · intro hx
      have hx1 : x = 1 := by simpa using hx
      exact ⟨0, by simp, by rw [hx1]; decide⟩
  · rw [if_neg e]
    have h := setsOk hF hc (show 2 ≤ L by omega)
    have ht := h.tree
    refine ⟨ht, ?_, fun x => ?_⟩
    · rw [tok_lv (treeN_len _ _ _) ht, h.lvsN]; simp
    · rw [treeN_len]
      constructor
      · rintro ⟨v, hv, e⟩
        rw [h.cl _ (by rw [h.root]; decide) hv] at e
        rw [← e]
        exact vA_mem (by rw [setsB_len]; exact hv)
      · intro hx
        obtain ⟨v, hv, e⟩ := mem_vA hx
        rw [setsB_len] at hv
        exact ⟨v, hv, by rw [h.cl _ (by rw [h.root]; decide) hv]; exact e⟩
/-- Without a conflict each innovation that some language has is the set of a node. -/
theorem bd_has {L : Nat} {l : List Nat} (hF : FitV l) (hc : chkT (L : Int) l = 0) (hn : confE l = none) {x : Nat} (hx : x ∈ l) (h0 : x ≠ 0) : x ∈ setsB L l := by
  obtain ⟨h32, h64, hlt⟩ := chk_lt hc
  have hp : 2 ^ L ≤ 2 ^ 32 := Nat.pow_le_pow_right (by omega) h32
  have hx2 := hlt x hx
  unfold setsB
  by_cases e1 : x = 2 ^ L - 1
  · rw [e1]; exact List.mem_cons_self
  refine List.mem_cons_of_mem _ (List.mem_append.2 ?_)
  by_cases e2 : 2 ≤ cntB x 64
  · left
    refine (grp_mem hF).2 ⟨hx, (grpB_iff (by omega)).2 ⟨e2, e1, fun o ho => ?_⟩⟩
    obtain ⟨i, hi, ei⟩ := mem_vA hx
    obtain ⟨j, hj, ej⟩ := mem_vA ho
    rw [← ei, ← ej]
    rcases Nat.lt_trichotomy i j with q | q | q
    · exact conf_fits hn q hj
    · subst q; exact fitB_self _
    · rw [fitB_symm]; exact conf_fits hn q hi
  · right
    obtain ⟨k, hk⟩ := bit_of_ne h0
    have hkL := bit_lt hx2 hk
    have e : 2 ^ k = x := sub_eq (Nat.pow_lt_pow_right (by omega) (by omega)) (by omega) (one_sub hk) (by rw [one_cnt (show k < 64 by omega)]; omega)
    exact List.mem_map.2 ⟨k, List.mem_range.2 hkL, e⟩
/-- Each of them is a node's set, and no node's set is empty. -/
theorem bd_on {L : Nat} {l : List Nat} (hF : FitV l) (hc : chkT (L : Int) l = 0) (h1 : 1 ≤ L) (hn : confE l = none) {x : Nat} (hx : x ∈ l) : 0 ≤ onN (cl (bdN L l)) x (bdN L l).length ↔ x ≠ 0 := by
  obtain ⟨h2, h3, h4⟩ := bd_tree hF hc h1
  rw [onN_iff]
  constructor
  · rintro ⟨u, hu, e⟩ h0
    exact cl_ne rfl h2 _ u (Nat.le_refl _) hu (by rw [e, h0])
  · intro h0
    exact (h4 x).2 (bd_has hF hc hn hx h0)
theorem bd_loss {L : Nat} {l : List Nat} (hF : FitV l) (hc : chkT (L : Int) l = 0) (h1 : 1 ≤ L) (hn : confE l = none) {x : Nat} (hx : x ∈ l) : lossN (bdN L l) x = 0 := by
  obtain ⟨h2, h3, h4⟩ := bd_tree hF hc h1
  by_cases h0 : x = 0
  · subst h0; unfold lossN; exact loss_zero _ _ _ _
  · obtain ⟨u, hu, e⟩ := (h4 x).2 (bd_has hF hc hn hx h0)
    rw [← e]; exact loss_node rfl h2 hu
theorem bd_chk {L : Nat} {l : List Nat} (hF : FitV l) (hc : chkT (L : Int) l = 0) (h1 : 1 ≤ L) {m : List Nat} (hm : chkT (L : Int) m = 0) : chkP (L : Int) m (bdN L l) = 0 := by
  obtain ⟨h2, h3, _⟩ := bd_tree hF hc h1
  unfold chkP
  rw [if_neg (fun h => h hm), if_neg (fun h => h (chkE_good h2)), if_pos (by rw [h3])]
end Go.Proofs.YtkdehkkkbfackaaGreatDoor
namespace Go.Proofs.YtkdehkkkbfackaaGreatDoor
open Go Go.RowKit Go.Shelf
theorem sortE {α : Type} {R : α → α → Prop} (irr : ∀ x, ¬ R x x) (asy : ∀ x y, R x y → R y x → False) {l m : List α} (hl : l.Pairwise R) (hm : m.Pairwise R) (h : ∀ x, x ∈ l ↔ x ∈ m) : l = m := by
  have nl : l.Nodup := hl.imp (fun {a b} h e => by subst e; exact irr _ h)
  have nm : m.Nodup := hm.imp (fun {a b} h e => by subst e; exact irr _ h)
  exact List.Perm.eq_of_pairwise (fun a b _ _ h1 h2 => (asy a b h1 h2).elim) hl hm ((List.perm_ext_iff_of_nodup nl nm).2 h)
/-- What lies below a node after j steps from the last node on. -/
def agg (t : List Nd) (w : Nat → Nat) : Nat → Nat → Nat
  | 0, v => w v
  | j + 1, v => agg t w j v + if nP t (t.length - 1 - j) = (v : Int) then agg t w j (t.length - 1 - j) else 0
/-- Is v a leaf whose language's kind is not b? -/
def offB (t : List Nd) (x v : Nat) (b : Bool) : Bool := leafB t v && (x.testBit (lvsL t v).length != b)
/-- What kind b costs at node v after j steps; the other kind of a leaf costs I. -/
def upC (I : Nat) (t : List Nd) (x : Nat) : Nat → Nat → Bool → Nat
  | 0, v, b => if offB t x v b then I else 0
  | j + 1, v, b => upC I t x j v b + if nP t (t.length - 1 - j) = (v : Int) then min (upC I t x j (t.length - 1 - j) b) (upC I t x j (t.length - 1 - j) (!b) + 1) else 0
/-- The changes. -/
def chgI (I : Nat) (t : List Nd) (x : Nat) : Nat := min (upC I t x (t.length - 1) 0 false) (upC I t x (t.length - 1) 0 true)
def chg (t : List Nd) (x : Nat) : Nat := chgI 1 t x
def sumF (f : Nat → Nat) : Nat → Nat
  | 0 => 0
  | k + 1 => sumF f k + f k
theorem sumF_congr {f g : Nat → Nat} : ∀ k, (∀ i, i < k → f i = g i) → sumF f k = sumF g k := by
  intro k
  induction k with
  | zero => intro _; rfl
  | succ k ih => intro h; unfold sumF; rw [ih fun i hi => h i (by omega), h k (by omega)]
theorem sumF_add (f g : Nat → Nat) : ∀ k, sumF (fun i => f i + g i) k = sumF f k + sumF g k := by
  intro k
  induction k with
  | zero => rfl
  | succ k ih => unfold sumF; rw [ih]; omega
theorem sumF_one (p : Nat) (a : Nat) : ∀ k, sumF (fun i => if (p : Int) = (i : Int) then a else 0) k = if p < k then a else 0 := by
  intro k
  induction k with
  | zero => rfl
  | succ k ih =>
    unfold sumF
    rw [ih]
    by_cases e : p = k
    · subst e; simp
    · rw [if_neg (show ¬ (p : Int) = (k : Int) by omega)]
      by_cases q : p < k
      · rw [if_pos q, if_pos (show p < k + 1 by omega)]; rfl
      · rw [if_neg q, if_neg (show ¬ p < k + 1 by omega)]
/-- Nothing is lost on the way up. -/
theorem agg_sum {t : List Nd} {n : Nat} (hn : t.length = n) (hP : ∀ v, 0 < v → v < n → 0 ≤ nP t v ∧ nP t v < v) (w : Nat → Nat) : ∀ j, j < n → sumF (agg t w j) (n - j) = sumF w n := by
  intro j
  induction j with
  | zero => intro _; rfl
  | succ j ih =>
    intro hj
    rw [← ih (by omega)]
    have e : n - j = (n - (j + 1)) + 1 := by omega
    have hu : t.length - 1 - j = n - (j + 1) := by omega
    obtain ⟨p0, p1⟩ := hP (n - (j + 1)) (by omega) (by omega)
    obtain ⟨p, hp⟩ : ∃ p : Nat, nP t (n - (j + 1)) = p := ⟨(nP t (n - (j + 1))).toNat, by omega⟩
    have h1 : sumF (agg t w (j + 1)) (n - (j + 1)) = sumF (fun v => agg t w j v + if (p : Int) = (v : Int) then agg t w j (n - (j + 1)) else 0) (n - (j + 1)) := sumF_congr _ fun v _ => by
      show agg t w j v + _ = _
      rw [hu, hp]
    rw [h1, sumF_add, sumF_one, if_pos (by omega), e]
    rfl
theorem agg_root {t : List Nd} {n : Nat} (hn : t.length = n) (h1 : 1 ≤ n) (hP : ∀ v, 0 < v → v < n → 0 ≤ nP t v ∧ nP t v < v) (w : Nat → Nat) : agg t w (n - 1) 0 = sumF w n := by
  have h := agg_sum hn hP w (n - 1) (by omega)
  rw [show n - (n - 1) = 1 by omega] at h
  simpa [sumF] using h
theorem leaf_par {t : List Nd} {v u : Nat} (hl : leafB t v = true) (h0 : 0 < u) (hu : u < t.length) : nP t u ≠ (v : Int) := fun h => by
  rw [leafB_in] at hl
  have : inB t t.length v = true := List.any_eq_true.2 ⟨u, List.mem_range.2 hu, by unfold kidB; rw [decide_eq_true h0, decide_eq_true h]; rfl⟩
  rw [this] at hl; cases hl
theorem upC_leaf {I : Nat} {t : List Nd} {x v : Nat} {b : Bool} (hl : leafB t v = true) : ∀ j, j < t.length → upC I t x j v b = if x.testBit (lvsL t v).length = b then 0 else I := by
  intro j
  induction j with
  | zero =>
    intro _
    show (if offB t x v b then I else 0) = _
    unfold offB
    rw [hl]
    cases hb : x.testBit (lvsL t v).length <;> cases b <;> rfl
  | succ j ih =>
    intro hj
    unfold upC
    rw [if_neg (leaf_par hl (by omega) (by omega)), ih (by omega)]
    rfl
/-- The number of leaves below v that are not of kind b. -/
def opC (t : List Nd) (x : Nat) (b : Bool) : Nat → Nat → Nat := agg t fun v => if offB t x v b then 1 else 0
theorem opC_leaf {t : List Nd} {x v : Nat} {b : Bool} (hl : leafB t v = true) : ∀ j, j < t.length → opC t x b j v = if x.testBit (lvsL t v).length = b then 0 else 1 := by
  intro j
  induction j with
  | zero =>
    intro _
    show (if offB t x v b then 1 else 0) = _
    unfold offB
    rw [hl]
    cases hb : x.testBit (lvsL t v).length <;> cases b <;> rfl
  | succ j ih =>
    intro hj
    show opC t x b j v + _ = _
    rw [if_neg (leaf_par hl (by omega) (by omega)), ih (by omega)]
    rfl
/-- What a child adds. -/
def addC (I : Nat) (t : List Nd) (x j u : Nat) (b : Bool) : Nat := min (upC I t x j u b) (upC I t x j u (!b) + 1)
theorem addC_leaf {I : Nat} (hI : 1 ≤ I) {t : List Nd} {x u j : Nat} {b : Bool} (hl : leafB t u = true) (hj : j < t.length) : addC I t x j u b = if x.testBit (lvsL t u).length = b then 0 else 1 := by
  unfold addC
  rw [upC_leaf hl j hj, upC_leaf hl j hj]
  cases hb : x.testBit (lvsL t u).length <;> cases b <;> simp <;> omega
theorem bound_C {I : Nat} (hI : 1 ≤ I) {t : List Nd} {x : Nat} : ∀ j, j < t.length → (∀ v b, leafB t v = false → upC I t x j v b ≤ opC t x b j v) ∧ ∀ u b, addC I t x j u b ≤ opC t x b j u := by
  intro j
  induction j with
  | zero =>
    intro hj
    have h1 : ∀ v b, leafB t v = false → upC I t x 0 v b ≤ opC t x b 0 v := fun v b hl => by
      show (if offB t x v b then I else 0) ≤ _
      unfold offB
      rw [hl]; exact Nat.zero_le _
    refine ⟨h1, fun u b => ?_⟩
    cases hl : leafB t u with
    | true => rw [addC_leaf hI hl hj, opC_leaf hl 0 hj]; exact Nat.le_refl _
    | false => exact Nat.le_trans (Nat.min_le_left _ _) (h1 u b hl)
  | succ j ih =>
    intro hj
    obtain ⟨i1, i2⟩ := ih (by omega)
    have h1 : ∀ v b, leafB t v = false → upC I t x (j + 1) v b ≤ opC t x b (j + 1) v := fun v b hl => by
      show upC I t x j v b + (if _ then addC I t x j (t.length - 1 - j) b else 0) ≤ opC t x b j v + (if _ then opC t x b j (t.length - 1 - j) else 0)
      have a := i1 v b hl
      have c := i2 (t.length - 1 - j) b
      split <;> omega
    refine ⟨h1, fun u b => ?_⟩
    cases hl : leafB t u with
    | true => rw [addC_leaf hI hl hj, opC_leaf hl _ hj]; exact Nat.le_refl _
    | false => exact Nat.le_trans (Nat.min_le_left _ _) (h1 u b hl)
theorem zero_C {I : Nat} (hI : 1 ≤ I) {t : List Nd} {x : Nat} : ∀ j, j < t.length → (∀ v b, leafB t v = false → upC I t x j v b = 0 → opC t x b j v = 0) ∧ ∀ u b, addC I t x j u b = 0 → opC t x b j u = 0 := by
  intro j
  induction j with
  | zero =>
    intro hj
    have h1 : ∀ v b, leafB t v = false → upC I t x 0 v b = 0 → opC t x b 0 v = 0 := fun v b hl _ => by
      show (if offB t x v b then 1 else 0) = _
      unfold offB
      rw [hl]; rfl
    refine ⟨h1, fun u b h => ?_⟩
    cases hl : leafB t u with
    | true => rw [addC_leaf hI hl hj] at h; rw [opC_leaf hl 0 hj]; exact h
    | false =>
      refine h1 u b hl ?_
      unfold addC at h; omega
  | succ j ih =>
    intro hj
    obtain ⟨i1, i2⟩ := ih (by omega)
    have h1 : ∀ v b, leafB t v = false → upC I t x (j + 1) v b = 0 → opC t x b (j + 1) v = 0 := fun v b hl h => by
      have h' : upC I t x j v b + (if nP t (t.length - 1 - j) = (v : Int) then addC I t x j (t.length - 1 - j) b else 0) = 0 := h
      show opC t x b j v + (if nP t (t.length - 1 - j) = (v : Int) then opC t x b j (t.length - 1 - j) else 0) = 0
      rw [i1 v b hl (by omega)]
      by_cases q : nP t (t.length - 1 - j) = (v : Int)
      · rw [if_pos q] at h' ⊢
        rw [i2 _ b (by omega)]
      · rw [if_neg q]
    refine ⟨h1, fun u b h => ?_⟩
    cases hl : leafB t u with
    | true => rw [addC_leaf hI hl hj] at h; rw [opC_leaf hl _ hj]; exact h
    | false =>
      refine h1 u b hl ?_
      unfold addC at h; omega
/-- It does not matter what the other kind of a leaf costs. -/
theorem same_C {I K : Nat} (hI : 1 ≤ I) (hK : 1 ≤ K) {t : List Nd} {x : Nat} : ∀ j, j < t.length → (∀ v b, leafB t v = false → upC I t x j v b = upC K t x j v b) ∧ ∀ u b, addC I t x j u b = addC K t x j u b := by
  intro j
  induction j with
  | zero =>
    intro hj
    have h1 : ∀ v b, leafB t v = false → upC I t x 0 v b = upC K t x 0 v b := fun v b hl => by
      show (if offB t x v b then I else 0) = (if offB t x v b then K else 0)
      unfold offB
      rw [hl]; rfl
    refine ⟨h1, fun u b => ?_⟩
    cases hl : leafB t u with
    | true => rw [addC_leaf hI hl hj, addC_leaf hK hl hj]
    | false => unfold addC; rw [h1 u b hl, h1 u (!b) hl]
  | succ j ih =>
    intro hj
    obtain ⟨i1, i2⟩ := ih (by omega)
    have h1 : ∀ v b, leafB t v = false → upC I t x (j + 1) v b = upC K t x (j + 1) v b := fun v b hl => by
      show upC I t x j v b + (if _ then addC I t x j (t.length - 1 - j) b else 0) = upC K t x j v b + (if _ then addC K t x j (t.length - 1 - j) b else 0)
      rw [i1 v b hl, i2 (t.length - 1 - j) b]
    refine ⟨h1, fun u b => ?_⟩
    cases hl : leafB t u with
    | true => rw [addC_leaf hI hl hj, addC_leaf hK hl hj]
    | false => unfold addC; rw [h1 u b hl, h1 u (!b) hl]
theorem chgI_eq {I : Nat} (hI : 1 ≤ I) {t : List Nd} (h1 : 1 ≤ t.length) (x : Nat) : chgI I t x = chg t x := by
  unfold chg chgI
  cases hl : leafB t 0 with
  | false => rw [(same_C hI (Nat.le_refl 1) (t.length - 1) (by omega)).1 0 false hl, (same_C hI (Nat.le_refl 1) (t.length - 1) (by omega)).1 0 true hl]
  | true =>
    rw [upC_leaf hl _ (by omega), upC_leaf hl _ (by omega), upC_leaf hl _ (by omega), upC_leaf hl _ (by omega)]
    cases hb : x.testBit (lvsL t 0).length <;> simp
/-- How many of the first k languages are not of kind b. -/
def offK (x : Nat) (b : Bool) : Nat → Nat := sumF fun i => if x.testBit i != b then 1 else 0
theorem off_sum (t : List Nd) (x : Nat) (b : Bool) : ∀ k, sumF (fun v => if offB t x v b then 1 else 0) k = offK x b (lvsL t k).length := by
  intro k
  induction k with
  | zero => rfl
  | succ k ih =>
    unfold sumF
    rw [ih, lvsL_snoc]
    unfold offB
    cases hl : leafB t k with
    | true =>
      rw [if_pos rfl, List.length_append, List.length_singleton]
      show _ = offK x b (lvsL t k).length + _
      rw [Bool.true_and]
    | false => simp
theorem opC_root {t : List Nd} {n : Nat} (hn : t.length = n) (hok : TreeOk t) (x : Nat) (b : Bool) : opC t x b (n - 1) 0 = offK x b (lvT t).length := by
  unfold opC
  rw [agg_root hn (by have := hok.1; omega) (tok_par hn hok), off_sum, tok_lv hn hok]
theorem offK_le (x : Nat) (b : Bool) : ∀ k, offK x b k ≤ k := by
  intro k
  induction k with
  | zero => exact Nat.le_refl _
  | succ k ih =>
    show offK x b k + (if x.testBit k != b then 1 else 0) ≤ _
    split <;> omega
theorem offK_compl (x : Nat) : ∀ k, offK x false k + offK x true k = k := by
  intro k
  induction k with
  | zero => rfl
  | succ k ih =>
    show offK x false k + (if x.testBit k != false then 1 else 0) + (offK x true k + (if x.testBit k != true then 1 else 0)) = _
    cases hb : x.testBit k
    · show offK x false k + 0 + (offK x true k + 1) = _; omega
    · show offK x false k + 1 + (offK x true k + 0) = _; omega
theorem offK_zero {x : Nat} {b : Bool} : ∀ k, offK x b k = 0 ↔ ∀ i, i < k → x.testBit i = b := by
  intro k
  induction k with
  | zero => exact ⟨fun _ i hi => by omega, fun _ => rfl⟩
  | succ k ih =>
    show offK x b k + (if x.testBit k != b then 1 else 0) = 0 ↔ _
    constructor
    · intro h i hi
      by_cases e : i = k
      · subst e
        cases hb : x.testBit i <;> cases b <;> simp_all
      · exact ih.1 (by omega) i (by omega)
    · intro h
      rw [ih.2 fun i hi => h i (by omega), h k (by omega)]
      simp
/-- No more changes than languages of either kind. -/
theorem chg_le {t : List Nd} {n : Nat} (hn : t.length = n) (hok : TreeOk t) (x : Nat) (b : Bool) : chg t x ≤ offK x b (lvT t).length := by
  have h1 : 1 ≤ t.length := hok.1
  rw [← opC_root hn hok, ← hn]
  unfold chg chgI
  have key : ∀ b, leafB t 0 = false → upC 1 t x (t.length - 1) 0 b ≤ opC t x b (t.length - 1) 0 := fun b hl => (bound_C (Nat.le_refl 1) (t.length - 1) (by omega)).1 0 b hl
  cases hl : leafB t 0 with
  | false =>
    have h2 := key false hl
    have h3 := key true hl
    cases b <;> omega
  | true =>
    rw [upC_leaf hl _ (by omega), upC_leaf hl _ (by omega)]
    cases hb : x.testBit (lvsL t 0).length <;> simp
/-- What needs no change is the same everywhere. -/
theorem chg_zero {t : List Nd} {n : Nat} (hn : t.length = n) (hok : TreeOk t) {x : Nat} (h : chg t x = 0) : ∃ b, offK x b (lvT t).length = 0 := by
  have h1 : 1 ≤ t.length := hok.1
  unfold chg chgI at h
  cases hl : leafB t 0 with
  | false =>
    have key : ∀ b, upC 1 t x (t.length - 1) 0 b = 0 → offK x b (lvT t).length = 0 := fun b hb => by
      rw [← opC_root hn hok, ← hn]
      exact (zero_C (Nat.le_refl 1) (t.length - 1) (by omega)).1 0 b hl hb
    by_cases q : upC 1 t x (t.length - 1) 0 false = 0
    · exact ⟨false, key _ q⟩
    · exact ⟨true, key _ (by omega)⟩
  | true =>
    refine ⟨x.testBit (lvsL t 0).length, ?_⟩
    rw [← opC_root hn hok, ← hn, opC_leaf hl _ (by omega), if_pos rfl]
end Go.Proofs.YtkdehkkkbfackaaGreatDoor
namespace Go.Proofs.YtkdehkkkbfackaaGreatDoor
open Go Go.RowKit Go.Shelf
theorem leaf_idx {t : List Nd} {n v : Nat} (hn : t.length = n) (hok : TreeOk t) (hv : v < n) (hl : leafB t v = true) : (lvsL t v).length < (lvT t).length ∧ vA (lvT t) (lvsL t v).length = v := by
  obtain ⟨k, hk, e⟩ := leaf_at hn hok hl hv
  have h3 : (lvsL t v).length = k := by
    rw [tok_lv hn hok] at hk e
    have := (lvs_at t n k hk).2.2
    rw [e] at this; exact this
  rw [h3]; exact ⟨hk, e⟩
/-- The opposite costs as much. -/
theorem upC_opp {t : List Nd} {n x y : Nat} (hn : t.length = n) (hok : TreeOk t) (hxy : ∀ k, k < (lvT t).length → y.testBit k = !x.testBit k) (I : Nat) : ∀ j, j < n → ∀ v, v < n → ∀ b, upC I t y j v b = upC I t x j v (!b) := by
  intro j
  induction j with
  | zero =>
    intro _ v hv b
    show (if offB t y v b then I else 0) = if offB t x v (!b) then I else 0
    have : offB t y v b = offB t x v (!b) := by
      unfold offB
      cases hl : leafB t v with
      | false => rfl
      | true =>
        rw [hxy _ (leaf_idx hn hok hv hl).1]
        cases x.testBit (lvsL t v).length <;> cases b <;> rfl
    rw [this]
  | succ j ih =>
    intro hj v hv b
    have e := ih (by omega)
    unfold upC
    rw [e v hv b, e (t.length - 1 - j) (by omega) b, e (t.length - 1 - j) (by omega) (!b)]
theorem chg_opp {t : List Nd} {n x y : Nat} (hn : t.length = n) (hok : TreeOk t) (hxy : ∀ k, k < (lvT t).length → y.testBit k = !x.testBit k) : chg t y = chg t x := by
  have h1 : 1 ≤ n := by have := hok.1; omega
  unfold chg chgI
  rw [hn, upC_opp hn hok hxy 1 (n - 1) (by omega) 0 (by omega) false, upC_opp hn hok hxy 1 (n - 1) (by omega) 0 (by omega) true]
  simp only [Bool.not_false, Bool.not_true]
  omega
theorem agg_zero {t : List Nd} {n : Nat} (hn : t.length = n) (hP : ∀ v, 0 < v → v < n → 0 ≤ nP t v ∧ nP t v < v) {w : Nat → Nat} : ∀ j, j < n → ∀ v, v < n → (∀ u, u < n → v ∈ pthF t n u → w u = 0) → agg t w j v = 0 := by
  intro j
  induction j with
  | zero => intro _ v hv h; exact h v hv (pth_self hP hv)
  | succ j ih =>
    intro hj v hv h
    show agg t w j v + _ = 0
    rw [ih (by omega) v hv h]
    by_cases e : nP t (t.length - 1 - j) = (v : Int)
    · rw [if_pos e, ih (by omega) (t.length - 1 - j) (by omega) fun u hu hm => h u hu ?_]
      have hc : v ∈ pthF t n (t.length - 1 - j) := by
        rw [pth_succ hP (by omega) (by omega)]
        refine List.mem_append_left _ ?_
        rw [e, Int.toNat_natCast]; exact pth_self hP hv
      exact (pth_prefix hP u u (Nat.le_refl _) hu hm).subset hc
    · rw [if_neg e]
/-- Below node k, the kind of its set costs nothing. -/
theorem in_zero {t : List Nd} {n k : Nat} (hn : t.length = n) (hok : TreeOk t) (hk : k < n) {j v : Nat} (hj : j < n) (hv : v < n) (hm : k ∈ pthF t n v) : upC 1 t (cl t k) j v true = 0 := by
  have hP := tok_par hn hok
  have hz : opC t (cl t k) true j v = 0 := by
    refine agg_zero hn hP j hj v hv fun u hu h => ?_
    unfold offB
    cases hl : leafB t u with
    | false => rfl
    | true =>
      obtain ⟨h1, h2⟩ := leaf_idx hn hok hu hl
      have h3 : (cl t k).testBit (lvsL t u).length = true := (tok_bit hn hok h1 hk).2 (by rw [h2]; exact (pth_prefix hP u u (Nat.le_refl _) hu h).subset hm)
      rw [h3]; rfl
  cases hl : leafB t v with
  | false =>
    have := (bound_C (I := 1) (t := t) (x := cl t k) (Nat.le_refl 1) j (by omega)).1 v true hl
    omega
  | true =>
    rw [opC_leaf hl j (by omega)] at hz
    rw [upC_leaf hl j (by omega)]
    cases hb : (cl t k).testBit (lvsL t v).length with
    | true => rfl
    | false => rw [hb] at hz; simp at hz
/-- Elsewhere, the other kind costs one where k lies below. -/
theorem out_le {t : List Nd} {n k : Nat} (hn : t.length = n) (hok : TreeOk t) (hk : k < n) : ∀ j, j < n → ∀ v, v < n → k ∉ pthF t n v → upC 1 t (cl t k) j v false ≤ agg t (fun u => if u = k then 1 else 0) j v := by
  have hP := tok_par hn hok
  intro j
  induction j with
  | zero =>
    intro hj v hv hm
    show (if offB t (cl t k) v false then 1 else 0) ≤ _
    unfold offB
    cases hl : leafB t v with
    | false => exact Nat.zero_le _
    | true =>
      obtain ⟨h1, h2⟩ := leaf_idx hn hok hv hl
      have h3 : (cl t k).testBit (lvsL t v).length = false := by
        rw [Bool.eq_false_iff]
        intro h
        rw [tok_bit hn hok h1 hk, h2] at h
        exact hm h
      rw [h3]; exact Nat.zero_le _
  | succ j ih =>
    intro hj v hv hm
    show upC 1 t (cl t k) j v false + (if _ then addC 1 t (cl t k) j (t.length - 1 - j) false else 0) ≤ agg t _ j v + _
    have h1 := ih (by omega) v hv hm
    have hu : t.length - 1 - j < n := by omega
    by_cases e : nP t (t.length - 1 - j) = (v : Int)
    · rw [if_pos e, if_pos e]
      have h2 : addC 1 t (cl t k) j (t.length - 1 - j) false ≤ agg t (fun u => if u = k then 1 else 0) j (t.length - 1 - j) := by
        by_cases q : k ∈ pthF t n (t.length - 1 - j)
        · have hz := in_zero hn hok hk (j := j) (by omega) hu q
          have hkk : t.length - 1 - j = k := by
            rw [pth_succ hP (by omega) hu, List.mem_append] at q
            rcases q with q | q
            · rw [e, Int.toNat_natCast] at q; exact absurd q hm
            · rw [List.mem_singleton] at q; exact q.symm
          have h3 : addC 1 t (cl t k) j (t.length - 1 - j) false ≤ 1 := by
            unfold addC
            show min _ (upC 1 t (cl t k) j (t.length - 1 - j) true + 1) ≤ 1
            rw [hz]; exact Nat.min_le_right _ _
          have h4 : 1 ≤ agg t (fun u => if u = k then 1 else 0) j (t.length - 1 - j) := by
            rw [hkk]
            have : ∀ i, 1 ≤ agg t (fun u => if u = k then 1 else 0) i k := by
              intro i
              induction i with
              | zero => show 1 ≤ (if k = k then 1 else 0); rw [if_pos rfl]; exact Nat.le_refl _
              | succ i ih2 => show 1 ≤ agg t _ i k + _; omega
            exact this j
          omega
        · exact Nat.le_trans (Nat.min_le_left _ _) (ih (by omega) _ hu q)
      omega
    · rw [if_neg e, if_neg e]; omega
theorem sumF_is (k : Nat) : ∀ n, sumF (fun u => if u = k then 1 else 0) n = if k < n then 1 else 0 := by
  intro n
  induction n with
  | zero => rfl
  | succ n ih =>
    show sumF _ n + (if n = k then 1 else 0) = _
    rw [ih]
    by_cases e : n = k
    · subst e; simp
    · rw [if_neg e]
      by_cases q : k < n
      · rw [if_pos q, if_pos (by omega)]
      · rw [if_neg q, if_neg (by omega)]
theorem chg_same {t : List Nd} {n x : Nat} (hn : t.length = n) (hok : TreeOk t) {b : Bool} (h : ∀ k, k < (lvT t).length → x.testBit k = b) : chg t x = 0 := by
  have h1 := chg_le hn hok x b
  have h2 := (offK_zero (x := x) (b := b) _).2 h
  omega
/-- The set of a node needs at most one change. -/
theorem chg_node {t : List Nd} {n k : Nat} (hn : t.length = n) (hok : TreeOk t) (hk : k < n) : chg t (cl t k) ≤ 1 := by
  have hP := tok_par hn hok
  have h1 : 1 ≤ n := by have := hok.1; omega
  by_cases e : k = 0
  · subst e
    have : chg t (cl t 0) = 0 := chg_same hn hok (b := true) fun i hi => (tok_bit hn hok hi hk).2 (pth_root t n _)
    omega
  · have h2 := out_le hn hok hk (n - 1) (by omega) 0 (by omega) (by rw [pth_zero]; simp; exact e)
    rw [agg_root hn h1 hP, sumF_is, if_pos hk] at h2
    unfold chg chgI
    rw [hn]; omega
theorem chg_pos {t : List Nd} {n x : Nat} (hn : t.length = n) (hok : TreeOk t) (hx : x < 2 ^ (lvT t).length) (h0 : x ≠ 0) (h1 : x ≠ 2 ^ (lvT t).length - 1) : 1 ≤ chg t x := by
  rcases Nat.eq_zero_or_pos (chg t x) with q | q
  · exfalso
    obtain ⟨b, hb⟩ := chg_zero hn hok q
    have hb := (offK_zero _).1 hb
    cases b with
    | false =>
      apply h0
      apply Nat.eq_of_testBit_eq
      intro i
      rw [Nat.zero_testBit]
      rcases Nat.lt_or_ge i (lvT t).length with q2 | q2
      · exact hb i q2
      · exact Nat.testBit_lt_two_pow (Nat.lt_of_lt_of_le hx (Nat.pow_le_pow_right (by omega) q2))
    | true =>
      apply h1
      apply Nat.eq_of_testBit_eq
      intro i
      rw [Nat.testBit_two_pow_sub_one]
      rcases Nat.lt_or_ge i (lvT t).length with q2 | q2
      · rw [hb i q2, decide_eq_true q2]
      · rw [Nat.testBit_lt_two_pow (Nat.lt_of_lt_of_le hx (Nat.pow_le_pow_right (by omega) q2)), decide_eq_false (by omega)]
  · exact q
theorem chg_none {t : List Nd} {n : Nat} (hn : t.length = n) (hok : TreeOk t) : chg t 0 = 0 := chg_same hn hok (b := false) fun k _ => Nat.zero_testBit k
theorem chg_every {t : List Nd} {n : Nat} (hn : t.length = n) (hok : TreeOk t) : chg t (2 ^ (lvT t).length - 1) = 0 := chg_same hn hok (b := true) fun k hk => by rw [Nat.testBit_two_pow_sub_one, decide_eq_true hk]
end Go.Proofs.YtkdehkkkbfackaaGreatDoor
namespace Go.Proofs.YtkdehkkkbfackaaGreatDoor
open Go Go.RowKit Go.Shelf
set_option maxRecDepth 100000 in
set_option maxHeartbeats 4000000 in
theorem pscheck_any (L : Int) (a : Option Addr) (N c : Nat) (l : List Nat) (b : Option Addr) (n d : Nat) (t : List Nd) (w : World) (hl : l.length = N) (hN : N ≤ 1152921504606846976) (hA : Rd w a (fl encV l)) (hF : FitV l)
    (ht : t.length = n) (hn : n ≤ 1152921504606846976) (hB : Rd w b (fl encNd t)) (hS : ∀ v, v < n → (nS t v).size ≤ 9223372036854775807) :
    Calls Tryz.prog 13 #[.agg #[.int .i64 L, .slice a N c], .slice b n d] w fun e w' => e = .returned (.int .i64 (chkP L l t)) ∧ Below w.heap.size w w' := by
  have hb0 := bl_alloc (Below.refl _ w) (.cells #[.int .i64 L, .slice a N c] 24)
  have hX := Blk.new w #[.int .i64 L, .slice a N c] 24
  have HC := Lib.hid (tchk_any L a N c l (w.alloc (.cells #[.int .i64 L, .slice a N c] 24)) hl hN (hA.bl hb0) hF)
  have HB := Lib.hid (hB.bl hb0)
  have HT := Lib.hid ht
  have HS := Lib.hid hS
  clear hl hA hF hB ht hS
  go_enter Tryz.func13, Tryz.ntmps13
  go_wp2_with fail
  refine HC.out.mono ?_
  rintro e w2 ⟨rfl, hb2⟩
  have HB2 := Lib.hid (bl_trans hb0 hb2)
  have HX2 := Lib.hid (hX.below hb2)
  have HR2 := Lib.hid (HB.out.bl hb2)
  clear hb0 hb2 hX HC HB
  by_cases h0 : chkT L l = 0
  · have HE : Hid (chkP L l t = if chkE t ≠ 0 then chkE t else if ((lvT t).length : Int) = L then 0 else 2) := if_neg (fun h => h h0)
    have HC2 := Lib.hid (Leaves_any b n d t w2 HT.out hn HR2.out HS.out)
    rw [h0]
    clear h0
    go_wp2_with fail
    refine HC2.out.mono ?_
    rintro e w3 ⟨v, rfl, ho, hb3⟩
    obtain ⟨A, cp, rfl, _⟩ := owns_slice ho
    have HB3 := Lib.hid (bl_trans HB2.out hb3)
    have hx3 := HX2.out.below hb3
    obtain ⟨X, hXe⟩ : ∃ x, x = w.heap.size := ⟨_, rfl⟩
    rw [← hXe] at hx3 ⊢
    have c0 : w3.cell? ⟨X, 0, none⟩ = some (.int .i64 L) := hx3.cell 0
    obtain ⟨q, hq⟩ : ∃ q, q = (lvT t).length := ⟨_, rfl⟩
    rw [← hq] at HE ⊢
    have hq63 : q ≤ 9223372036854775807 := by
      rcases ho.2 with ⟨_, e⟩ | ⟨g, cp2, cur, e1, _, _, e2, e3, _⟩
      · omega
      · unfold maxLen at e3; omega
    clear ho hb3 hx3 hq hXe HC2
    by_cases h1 : chkE t = 0
    · rw [h1] at HE ⊢
      by_cases h2 : (q : Int) = L
      · have hv : Hid (chkP L l t = 0) := by show _ = _; rw [HE.out, if_neg (by simp), if_pos h2]
        have t1 : ((q : Int) != L) = false := by simp [h2]
        have t2 : decide ((q : Int) = L) = true := by simp [h2]
        have t3 : ((q : Int) == L) = true := by simp [h2]
        clear HE h1 h2
        go_wp2_with fail
        go_ret
        exact ⟨by rw [hv.out]; rfl, HB3.out⟩
      · have hv : Hid (chkP L l t = 2) := by show _ = _; rw [HE.out, if_neg (by simp), if_neg h2]
        have t1 : ((q : Int) != L) = true := by simp [h2]
        have t2 : decide ((q : Int) = L) = false := by simp [h2]
        have t3 : ((q : Int) == L) = false := by simp [h2]
        clear HE h1 h2
        go_wp2_with fail
        go_ret
        exact ⟨by rw [hv.out]; rfl, HB3.out⟩
    · have h16 := (chk_tree' h1).1
      have hv : Hid (chkP L l t = 16) := by show _ = _; rw [HE.out, if_pos h1, h16]
      rw [h16]
      clear HE h1 h16
      go_wp2_with fail
      go_ret
      exact ⟨by rw [hv.out]; rfl, HB3.out⟩
  · have hE : Hid (chkP L l t = chkT L l) := if_pos h0
    obtain ⟨E, hEE⟩ : ∃ E, chkT L l = E := ⟨_, rfl⟩
    rw [hEE] at hE h0 ⊢
    have d0 : (E == 0) = false := by simp [h0]
    have d1 : (E != 0) = true := by simp [h0]
    clear hEE h0
    go_wp2_with fail
    go_ret
    exact ⟨by rw [hE.out]; rfl, HB2.out⟩
end Go.Proofs.YtkdehkkkbfackaaGreatDoor
namespace Go.Proofs.YtkdehkkkbfackaaGreatDoor
open Go Go.RowKit Go.Shelf
theorem sumF_le {f : Nat → Nat} {i : Nat} : ∀ k, i < k → f i ≤ sumF f k := by
  intro k
  induction k with
  | zero => intro h; omega
  | succ k ih =>
    intro h
    show f i ≤ sumF f k + f k
    by_cases e : i = k
    · subst e; omega
    · have := ih (by omega); omega
theorem sumF_cnt {f : Nat → Nat} (h : ∀ i, f i ≤ 1) : ∀ k, sumF f k ≤ k := by
  intro k
  induction k with
  | zero => exact Nat.le_refl _
  | succ k ih => have := h k; show sumF f k + f k ≤ k + 1; omega
theorem up_le {t : List Nd} {n I x j v : Nat} {b : Bool} (hI : 1 ≤ I) (hn : t.length = n) (hP : ∀ v, 0 < v → v < n → 0 ≤ nP t v ∧ nP t v < v) (hj : j < n) (hv : v < n - j) : upC I t x j v b ≤ I + n := by
  cases hl : leafB t v with
  | true =>
    rw [upC_leaf hl j (by omega)]
    split <;> omega
  | false =>
    have h1 : upC I t x j v b ≤ opC t x b j v := (bound_C hI j (by omega)).1 v b hl
    have h2 : opC t x b j v ≤ n := by
      unfold opC
      refine Nat.le_trans (sumF_le (f := agg t (fun v => if offB t x v b then 1 else 0) j) (n - j) hv) ?_
      rw [agg_sum hn hP _ j hj]
      exact sumF_cnt (fun i => by split <;> omega) n
    omega
/-- The costs, a cell a node and kind. -/
def cC (t : List Nd) (x j i : Nat) : Nat := upC 1048576 t x j (i / 2) (i % 2 == 1)
/-- The costs when k leaves are done. -/
def c0 (t : List Nd) (x k i : Nat) : Nat := if (leafB t (i / 2) && decide ((lvsL t (i / 2)).length < k)) && (x.testBit (lvsL t (i / 2)).length != (i % 2 == 1)) then 1048576 else 0
theorem c0_zero (t : List Nd) (x i : Nat) : c0 t x 0 i = 0 := by unfold c0; simp
theorem lv_idx_lt {t : List Nd} {n v : Nat} (hl : leafB t v = true) (hv : v < n) : (lvsL t v).length < (lvsL t n).length := by
  have h := lvsL_mono t (show v + 1 ≤ n from hv)
  rw [lvsL_snoc, hl, List.length_append] at h
  simp at h; omega
theorem lv_idx_inj {t : List Nd} {u v : Nat} (hu : leafB t u = true) (hv : leafB t v = true) (h : (lvsL t u).length = (lvsL t v).length) : u = v := by
  rcases Nat.lt_trichotomy u v with q | q | q
  · have := lv_idx_lt hu q; omega
  · exact q
  · have := lv_idx_lt hv q; omega
theorem c0_all {t : List Nd} {n x i : Nat} (hi : i < 2 * n) : c0 t x (lvsL t n).length i = cC t x 0 i := by
  unfold c0 cC
  show _ = if offB t x (i / 2) (i % 2 == 1) then 1048576 else 0
  unfold offB
  cases hl : leafB t (i / 2) with
  | false => simp
  | true => rw [decide_eq_true (lv_idx_lt hl (by omega))]; simp
theorem c0_succ {t : List Nd} {n x k i : Nat} (hk : k < (lvsL t n).length) : c0 t x (k + 1) i = if i = 2 * vA (lvsL t n) k + (1 - (if x.testBit k then 1 else 0)) then 1048576 else c0 t x k i := by
  obtain ⟨h1, h2, h3⟩ := lvs_at t n k hk
  generalize vA (lvsL t n) k = v at *
  unfold c0
  by_cases e : i / 2 = v
  · rw [e, h2, h3, decide_eq_true (show k < k + 1 by omega), decide_eq_false (Nat.lt_irrefl k)]
    simp only [Bool.true_and, Bool.and_true, Bool.and_false, Bool.false_and]
    cases hb : x.testBit k with
    | true =>
      rcases Nat.mod_two_eq_zero_or_one i with q | q
      · rw [if_pos (show i = _ by simp; omega), q]; rfl
      · rw [if_neg (show ¬ i = _ by simp; omega), q]; rfl
    | false =>
      rcases Nat.mod_two_eq_zero_or_one i with q | q
      · rw [if_neg (show ¬ i = _ by simp; omega), q]; rfl
      · rw [if_pos (show i = _ by simp; omega), q]; rfl
  · rw [if_neg (show ¬ i = _ by split <;> omega)]
    cases hl : leafB t (i / 2) with
    | false => simp
    | true =>
      have : (lvsL t (i / 2)).length ≠ k := fun h => e (lv_idx_inj hl h2 (by rw [h, h3]))
      have e2 : decide ((lvsL t (i / 2)).length < k + 1) = decide ((lvsL t (i / 2)).length < k) := by rw [decide_eq_decide]; omega
      rw [e2]
theorem cC_succ (t : List Nd) (x j i : Nat) : cC t x (j + 1) i = cC t x j i + if nP t (t.length - 1 - j) = ((i / 2 : Nat) : Int) then min (cC t x j (2 * (t.length - 1 - j) + i % 2)) (cC t x j (2 * (t.length - 1 - j) + (1 - i % 2)) + 1) else 0 := by
  unfold cC
  show upC _ _ _ _ _ _ + _ = _
  have h1 : (2 * (t.length - 1 - j) + i % 2) / 2 = t.length - 1 - j := by omega
  have h2 : (2 * (t.length - 1 - j) + (1 - i % 2)) / 2 = t.length - 1 - j := by omega
  rw [h1, h2]
  rcases Nat.mod_two_eq_zero_or_one i with q | q
  · have h3 : (2 * (t.length - 1 - j) + i % 2) % 2 = 0 := by omega
    have h4 : (2 * (t.length - 1 - j) + (1 - i % 2)) % 2 = 1 := by omega
    rw [h3, h4, q]; rfl
  · have h3 : (2 * (t.length - 1 - j) + i % 2) % 2 = 1 := by omega
    have h4 : (2 * (t.length - 1 - j) + (1 - i % 2)) % 2 = 0 := by omega
    rw [h3, h4, q]; rfl
theorem cC_le {t : List Nd} {n x j i : Nat} (hn : t.length = n) (hP : ∀ v, 0 < v → v < n → 0 ≤ nP t v ∧ nP t v < v) (hj : j < n) (hi : i < 2 * (n - j)) : cC t x j i ≤ 1048576 + n := up_le (by omega) hn hP hj (by omega)
theorem cC_end {t : List Nd} {n x : Nat} (hn : t.length = n) (h1 : 1 ≤ n) : min (cC t x (n - 1) 0) (cC t x (n - 1) 1) = chg t x := by
  rw [← chgI_eq (I := 1048576) (by omega) (by omega) x]
  unfold chgI cC
  rw [hn]; rfl
/-- The costs while node p takes over what its child costs: kinds below q are done. -/
def cM (t : List Nd) (x j p q i : Nat) : Nat := if i / 2 = p ∧ i % 2 < q then cC t x (j + 1) i else cC t x j i
theorem cM_zero (t : List Nd) (x j p i : Nat) : cM t x j p 0 i = cC t x j i := if_neg (by omega)
theorem bit_and {x : Nat} (hx : x < 18446744073709551616) (k : Nat) : bits .and .u64 ((x : Int) / 2 ^ k) 1 = if x.testBit k then 1 else 0 := by
  have e : ((x : Int) / 2 ^ k) = ((x / 2 ^ k : Nat) : Int) := by simp
  have h2 : x / 2 ^ k < 18446744073709551616 := Nat.lt_of_le_of_lt (Nat.div_le_self _ _) hx
  have h3 := bits_and h2 (show 1 < 18446744073709551616 by omega)
  rw [Nat.and_one_is_mod] at h3
  rw [e]
  refine h3.trans ?_
  rw [Nat.testBit_eq_decide_div_mod_eq]
  rcases Nat.mod_two_eq_zero_or_one (x / 2 ^ k) with q | q <;> rw [q] <;> rfl
theorem info_P2 : (Tryz.prog.info? 64).map (fun i => (i.zero, i.size, i.bytes)) = some (some (.agg #[.int .i64 0, .int .i64 0]), 2, 16) := by kernel_rfl
theorem p2_made (n : Nat) : madeCells #[Value.int .i64 0, .int .i64 0] (n * 2) = ofF (n * 2) (fun _ => .int .i64 0) := by
  apply Array.ext
  · simp [madeCells, ofF]
  · intro i h1 h2
    have : i % 2 = 0 ∨ i % 2 = 1 := by omega
    rcases this with q | q <;> simp [madeCells, ofF, q]
set_option maxRecDepth 100000 in
set_option maxHeartbeats 4000000 in
theorem changes_any (x : Nat) (b : Option Addr) (n d : Nat) (t : List Nd) (v : Option Addr) (m c : Nat) (w : World) (hx : x < 18446744073709551616) (hn : t.length = n) (h1 : 1 ≤ n) (h63 : n ≤ 63) (hA : Rd w b (fl encNd t)) (hP : ∀ v, 0 < v → v < n → 0 ≤ nP t v ∧ nP t v < v) (hm : m = (lvsL t n).length) (hL : Rd w v (fl encI (iN (lvsL t n)))) :
    Calls Tryz.prog 15 #[.int .u64 x, .slice b n d, .slice v m c] w fun e w' => e = .returned (.int .i64 (chg t x)) ∧ Below w.heap.size w w' := by
  have HN := Lib.hid hn
  have HA := Lib.hid hA
  have HP := Lib.hid hP
  have HL := Lib.hid hL
  have HM := Lib.hid hm
  have hm64 : m ≤ 63 := by have := lvsL_le t n; omega
  obtain ⟨i0, hi0, hz0, hz1, hz2⟩ := info_parts info_P2
  have hmk := run_make (P := Tryz.prog) w 63 64 i0 _ Tryz.underlying63 hi0 hz0 .i64 .i64 (n : Int) (n : Int) (by omega) (by omega) (by rw [hz2]; omega) (by omega)
  simp only [hz1, Int.toNat_natCast] at hmk
  have hb0 := bl_alloc (Below.refl _ w) (.cells (madeCells #[.int .i64 0, .int .i64 0] (n * 2)) 64)
  have hG0 := Blk.new w (madeCells #[.int .i64 0, .int .i64 0] (n * 2)) 64
  rw [p2_made] at hb0 hG0
  have HB0 := Lib.hid hb0
  have HG0 := Lib.hid hG0
  clear hi0 hz0 hz1 hz2 hn hA hP hL hm hb0 hG0
  go_enter Tryz.func15, Tryz.ntmps15
  go_upto_region 2 with fail
  rw [p2_made]
  obtain ⟨g, hg⟩ : ∃ x, x = w.heap.size := ⟨_, rfl⟩
  obtain ⟨w1, hw1⟩ : ∃ x, x = w.alloc (.cells (ofF (n * 2) fun x => .int .i64 0) 64) := ⟨_, rfl⟩
  rw [← hw1] at HB0 HG0 ⊢
  rw [← hg] at HB0 HG0 ⊢
  have HG := Lib.hid hg
  have HS0 : Hid (Blk w1 g (ofF (n * 2) fun i => .int .i64 (c0 t x 0 i : Nat)) 64) := by
    show Blk _ _ _ _
    simp only [c0_zero]
    exact HG0.out
  clear hw1 hg hmk HG0
  go_wp2_with fail
  go_loopw [18] (fun y wr => ∃ k : Nat, k ≤ m ∧ y = .int .i64 k ∧ Hid (Blk wr g (ofF (n * 2) fun i => .int .i64 (c0 t x k i : Nat)) 64) ∧ Hid (Below g w wr)) (fun y _ => m - (intOf y).toNat)
  case atStart => exact ⟨0, by omega, rfl, HS0, HB0⟩
  case round =>
    clear HS0 HB0
    obtain ⟨k, hk, rfl, hS, hB⟩ := hrel
    by_cases hlt : k < m
    · obtain ⟨bl, ol, rfl, hbl, hcl⟩ := rdI HL.out (by rw [iN_len, ← HM.out]; omega)
      have G := hcl k (by rw [iN_len, ← HM.out]; exact hlt)
      rw [iN_get] at G
      rw [← HG.out] at hbl
      have G' := (hB.out.cell (p := ⟨bl, ol + k, none⟩) hbl).trans G
      obtain ⟨l1, l2, l3⟩ := lvs_at t n k (by rw [← HM.out]; exact hlt)
      have HSN : Hid (∀ i, c0 t x (k + 1) i = if i = 2 * vA (lvsL t n) k + (1 - (if x.testBit k then 1 else 0)) then 1048576 else c0 t x k i) := fun i => c0_succ (by rw [← HM.out]; exact hlt)
      clear hcl G l2 l3
      generalize vA (lvsL t n) k = u at *
      go_upto_region 5 with fail
      have hba := bit_and hx k
      obtain ⟨β, hβ, hβ1⟩ : ∃ β : Nat, β = 1 - (if x.testBit k then 1 else 0) ∧ β ≤ 1 := ⟨_, rfl, by omega⟩
      have hw1 : IntKind.u64.wrap (1 - bits .and .u64 ((x : Int) / 2 ^ k) 1) = (β : Int) := by
        rw [hba, hβ]
        cases x.testBit k <;> rfl
      have hi2 : u * 2 + β < n * 2 := by omega
      rw [← hβ] at HSN
      clear hba hβ
      have f4 : ∀ nq, (wr.drewN nq).frozen? ⟨g, u * 2 + β, none⟩ = false := fun nq => (hS.out.drewN nq).free _
      have c4 : ∀ nq, (wr.drewN nq).cell? ⟨g, u * 2 + β, none⟩ = some (.int .i64 (c0 t x k (u * 2 + β) : Nat)) := fun nq => (hS.out.drewN nq).getF _ hi2
      have F4 := Lib.hid f4
      have C4 := Lib.hid c4
      clear f4 c4
      refine wp_quiet_tail_lit 9 (by kernel_rfl) (by kernel_rfl) ?_
      simp only [List.take_succ_cons, List.take_zero, List.drop_succ_cons, List.drop_zero]
      repeat (go_big_quiet_step (fail))
      refine wpQuiet_nil ?_
      intro _ hw'
      obtain ⟨nq, hw''⟩ := hw'
      subst hw''
      try simp only [Act.put, List.setIfInBounds_toArray, List.set_cons_zero, List.set_cons_succ]
      have f4 := F4.out nq
      have c4 := C4.out nq
      clear F4 C4
      go_wp2_with fail
      have hfn : (fun i => if i = u * 2 + β then Value.int .i64 1048576 else Value.int .i64 (c0 t x k i : Nat)) = fun i => Value.int .i64 (c0 t x (k + 1) i : Nat) := by
        funext i
        rw [HSN.out]
        by_cases e : i = u * 2 + β
        · rw [if_pos e, if_pos (by omega)]; rfl
        · rw [if_neg e, if_neg (by omega)]
      have HS2 := Lib.hid ((hS.out.drewN nq).setF (u * 2 + β) (.int .i64 1048576))
      rw [hfn] at HS2
      have HB2 : Hid (Below g w ((wr.drewN nq).setCell ⟨g, u * 2 + β, none⟩ (.int .i64 1048576))) := by
        have h := bl_set (bl_drewN (by have h := hB.out; rw [HG.out] at h; exact h) nq) g (u * 2 + β) none (.int .i64 1048576) (by rw [← HG.out]; exact Nat.le_refl _)
        rw [← HG.out] at h; exact h
      clear hfn f4 c4
      go_roundw
      case rel => exact ⟨k + 1, by omega, by go_num, HS2, HB2⟩
      case measure => simp [intOf]; omega
    · obtain rfl : k = m := by omega
      have HS1 : Hid (Blk wr g (ofF (n * 2) fun i => .int .i64 (cC t x 0 i : Nat)) 64) := by
        have h := hS.out
        rw [HM.out] at h
        have e : ofF (n * 2) (fun i => Value.int .i64 (c0 t x (lvsL t n).length i : Nat)) = ofF (n * 2) (fun i => Value.int .i64 (cC t x 0 i : Nat)) := ofF_congr fun i hi => by rw [c0_all (by omega)]
        rw [e] at h; exact h
      clear hS
      go_wp2_with fail
      obtain ⟨wo, rfl⟩ : ∃ wo : World, wo = wr := ⟨_, rfl⟩
      go_loopw [10] (fun y wr => ∃ j : Nat, j ≤ n - 1 ∧ y = .int .i64 ((n - 1 - j : Nat) : Int) ∧ Hid (Blk wr g (ofF (n * 2) fun i => .int .i64 (cC t x j i : Nat)) 64) ∧ Hid (Below g w wr)) (fun y _ => (intOf y).toNat)
      case atStart => exact ⟨0, by omega, by go_num, HS1, hB⟩
      case round =>
        clear HS1 hB
        obtain ⟨j, hj, rfl, hS, hB⟩ := hrel
        by_cases hlt2 : 0 < n - 1 - j
        · obtain ⟨bb, ob, rfl, hbb, hcb⟩ := rdNd HA.out (by rw [HN.out]; omega)
          obtain ⟨G0, _⟩ := hcb (n - 1 - j) (by rw [HN.out]; omega)
          rw [← HG.out] at hbb
          have G0' := (hB.out.cell (p := ⟨bb, ob + (n - 1 - j) * 2, none⟩) hbb).trans G0
          obtain ⟨p0, p1⟩ := HP.out (n - 1 - j) hlt2 (by omega)
          have HSC : Hid (∀ i, cC t x (j + 1) i = cC t x j i + if nP t (n - 1 - j) = ((i / 2 : Nat) : Int) then min (cC t x j (2 * (n - 1 - j) + i % 2)) (cC t x j (2 * (n - 1 - j) + (1 - i % 2)) + 1) else 0) := fun i => by have h := cC_succ t x j i; rw [HN.out] at h; exact h
          have HLE : Hid (∀ i, i < 2 * (n - j) → cC t x j i ≤ 1048576 + n) := fun i hi => cC_le HN.out HP.out (by omega) hi
          obtain ⟨p, hp⟩ : ∃ p : Nat, nP t (n - 1 - j) = p := ⟨(nP t (n - 1 - j)).toNat, by omega⟩
          rw [hp] at G0' p1 HSC
          obtain ⟨v, hv⟩ : ∃ v, v = n - 1 - j := ⟨_, rfl⟩
          rw [← hv] at hlt2 G0' p1 HSC ⊢
          have HV := Lib.hid hv
          have hvn : v < n := by omega
          have hpv : p < v := by omega
          have dv : decide (0 < (v : Int)) = true := by simp; omega
          clear hcb G0 p0 hp hv p1
          go_wp2_with fail
          obtain ⟨wp, rfl⟩ : ∃ wp : World, wp = wr := ⟨_, rfl⟩
          have HM0 : Hid (Blk wp g (ofF (n * 2) fun i => .int .i64 (cM t x j p 0 i : Nat)) 64) := by
            show Blk _ _ _ _
            simp only [cM_zero]
            exact hS.out
          go_loopw [47] (fun y wr => ∃ q : Nat, q ≤ 2 ∧ y = .int .i64 q ∧ Hid (Blk wr g (ofF (n * 2) fun i => .int .i64 (cM t x j p q i : Nat)) 64) ∧ Hid (Below g w wr)) (fun y _ => 2 - (intOf y).toNat)
          case atStart => exact ⟨0, by omega, rfl, HM0, hB⟩
          case round =>
            clear HM0 hB hS
            obtain ⟨q, hq, rfl, hS, hB⟩ := hrel
            by_cases hlt3 : q < 2
            · have e1 : IntKind.i64.wrap (1 - (q : Int)) = ((1 - q : Nat) : Int) := wrap_nat _ _ (by omega) (by omega)
              have a1 : p * 2 + q < n * 2 := by omega
              have a2 : v * 2 + q < n * 2 := by omega
              have a3 : v * 2 + (1 - q) < n * 2 := by omega
              have l1 := HLE.out (2 * p + q) (by have := HV.out; omega)
              have l2 := HLE.out (2 * v + q) (by have := HV.out; omega)
              have l3 := HLE.out (2 * v + (1 - q)) (by have := HV.out; omega)
              have c1 : wr.cell? ⟨g, p * 2 + q, none⟩ = some (.int .i64 (cC t x j (2 * p + q) : Nat)) := by
                have h := hS.out.getF _ a1
                unfold cM at h
                rw [if_neg (by omega), show p * 2 + q = 2 * p + q by omega] at h
                rw [show p * 2 + q = 2 * p + q by omega]; exact h
              have c2 : wr.cell? ⟨g, v * 2 + q, none⟩ = some (.int .i64 (cC t x j (2 * v + q) : Nat)) := by
                have h := hS.out.getF _ a2
                unfold cM at h
                rw [if_neg (by omega), show v * 2 + q = 2 * v + q by omega] at h
                rw [show v * 2 + q = 2 * v + q by omega]; exact h
              have c3 : wr.cell? ⟨g, v * 2 + (1 - q), none⟩ = some (.int .i64 (cC t x j (2 * v + (1 - q)) : Nat)) := by
                have h := hS.out.getF _ a3
                unfold cM at h
                rw [if_neg (by omega), show v * 2 + (1 - q) = 2 * v + (1 - q) by omega] at h
                rw [show v * 2 + (1 - q) = 2 * v + (1 - q) by omega]; exact h
              have HNX : Hid (cC t x (j + 1) (2 * p + q) = cC t x j (2 * p + q) + min (cC t x j (2 * v + q)) (cC t x j (2 * v + (1 - q)) + 1)) := by
                show _ = _
                rw [HSC.out, if_pos (by omega), show (2 * p + q) % 2 = q by omega]
              generalize cC t x j (2 * p + q) = A at *
              generalize cC t x j (2 * v + q) = B at *
              generalize cC t x j (2 * v + (1 - q)) = C at *
              have f4 : ∀ nq, (wr.drewN nq).frozen? ⟨g, p * 2 + q, none⟩ = false := fun nq => (hS.out.drewN nq).free _
              have c4 : ∀ nq, (wr.drewN nq).cell? ⟨g, p * 2 + q, none⟩ = some (.int .i64 A) := fun nq => c1
              have F4 := Lib.hid f4
              have C4 := Lib.hid c4
              clear f4 c4
              go_upto_region 14 with fail
              refine wp_quiet_tail_lit 22 (by kernel_rfl) (by kernel_rfl) ?_
              simp only [List.take_succ_cons, List.take_zero, List.drop_succ_cons, List.drop_zero]
              repeat (go_big_quiet_step (fail))
              refine wpQuiet_nil ?_
              intro _ hw'
              obtain ⟨nq, hw''⟩ := hw'
              subst hw''
              try simp only [Act.put, List.setIfInBounds_toArray, List.set_cons_zero, List.set_cons_succ]
              have f4 := F4.out nq
              have c4 := C4.out nq
              have hmn : ((A : Int) + if (C : Int) + 1 < (B : Int) then (C : Int) + 1 else (B : Int)) = ((A + min B (C + 1) : Nat) : Int) := by
                by_cases e : C + 1 < B
                · rw [if_pos (by omega), Nat.min_eq_right (by omega)]; omega
                · rw [if_neg (by omega), Nat.min_eq_left (by omega)]; omega
              have hmm : ((A : Int) + min (B : Int) ((C : Int) + 1)) = ((A + min B (C + 1) : Nat) : Int) := by omega
              first
                | rw [hmn]
                | rw [hmm]
              clear F4 C4 hmn hmm c1 c2 c3
              go_wp2_with fail
              have hfn : (fun i => if i = p * 2 + q then Value.int .i64 ((A + min B (C + 1) : Nat) : Int) else Value.int .i64 (cM t x j p q i : Nat)) = fun i => Value.int .i64 (cM t x j p (q + 1) i : Nat) := by
                funext i
                by_cases e : i = p * 2 + q
                · rw [if_pos e, e]
                  unfold cM
                  rw [if_pos (by omega), show p * 2 + q = 2 * p + q by omega, HNX.out]
                · rw [if_neg e]
                  unfold cM
                  by_cases e2 : i / 2 = p ∧ i % 2 < q
                  · rw [if_pos e2, if_pos (by omega)]
                  · rw [if_neg e2, if_neg (by omega)]
              have HS2 := Lib.hid ((hS.out.drewN nq).setF (p * 2 + q) (.int .i64 ((A + min B (C + 1) : Nat) : Int)))
              rw [hfn] at HS2
              have HB2 : Hid (Below g w ((wr.drewN nq).setCell ⟨g, p * 2 + q, none⟩ (.int .i64 ((A + min B (C + 1) : Nat) : Int)))) := by
                have h := bl_set (bl_drewN (by have h := hB.out; rw [HG.out] at h; exact h) nq) g (p * 2 + q) none (.int .i64 ((A + min B (C + 1) : Nat) : Int)) (by rw [← HG.out]; exact Nat.le_refl _)
                rw [← HG.out] at h; exact h
              clear hfn f4 c4
              go_roundw
              case rel => exact ⟨q + 1, by omega, by go_num, HS2, HB2⟩
              case measure => simp [intOf]; omega
            · obtain rfl : q = 2 := by omega
              have HS2 : Hid (Blk wr g (ofF (n * 2) fun i => .int .i64 (cC t x (j + 1) i : Nat)) 64) := by
                have hfn : (fun i => Value.int .i64 (cM t x j p 2 i : Nat)) = fun i => Value.int .i64 (cC t x (j + 1) i : Nat) := by
                  funext i
                  unfold cM
                  by_cases e : i / 2 = p
                  · rw [if_pos (by omega)]
                  · rw [if_neg (by omega), HSC.out, if_neg (by omega)]; rfl
                have h := hS.out
                rw [hfn] at h; exact h
              have HVV := HV.out
              go_wp2_with fail
              go_roundw
              case rel => exact ⟨j + 1, by omega, by go_num, HS2, hB⟩
              case measure => simp [intOf]; omega
        · obtain rfl : j = n - 1 := by omega
          have c1 : wr.cell? ⟨g, 0, none⟩ = some (.int .i64 (cC t x (n - 1) 0 : Nat)) := hS.out.getF 0 (by omega)
          have c2 : wr.cell? ⟨g, 1, none⟩ = some (.int .i64 (cC t x (n - 1) 1 : Nat)) := hS.out.getF 1 (by omega)
          have HE : Hid (min (cC t x (n - 1) 0) (cC t x (n - 1) 1) = chg t x) := cC_end HN.out h1
          generalize cC t x (n - 1) 0 = A at *
          generalize cC t x (n - 1) 1 = B at *
          go_upto_region 16 with fail
          refine wp_quiet_tail_lit 9 (by kernel_rfl) (by kernel_rfl) ?_
          simp only [List.take_succ_cons, List.take_zero, List.drop_succ_cons, List.drop_zero]
          repeat (go_big_quiet_step (fail))
          refine wpQuiet_nil ?_
          intro _ hw'
          obtain ⟨nq, hw''⟩ := hw'
          subst hw''
          try simp only [Act.put, List.setIfInBounds_toArray, List.set_cons_zero, List.set_cons_succ]
          go_wp2_with fail
          all_goals
            go_ret
            exact ⟨ret_i (by rw [← HE.out]; omega), by have h := hB.out; rw [HG.out] at h; exact bl_drewN h nq⟩
end Go.Proofs.YtkdehkkkbfackaaGreatDoor
namespace Go.Proofs.YtkdehkkkbfackaaGreatDoor
open Go Go.RowKit Go.Shelf
/-- How many changes each innovation needs. -/
def lenL (L : Int) (l : List Nat) (t : List Nd) : List Nat := if chkP L l t = 0 then l.map (chg t) else []
theorem chg_le32 {L : Int} {l : List Nat} {t : List Nd} (h : chkP L l t = 0) (x : Nat) : chg t x ≤ 32 := by
  obtain ⟨h1, h2, h3⟩ := chkP_ok h
  have hL : L ≤ 32 := by
    unfold chkT at h1
    by_cases q : L < 0 ∨ 32 < L
    · rw [if_pos q] at h1; omega
    · omega
  have := chg_le rfl h2 x true
  have := offK_le x true (lvT t).length
  omega
set_option maxRecDepth 100000 in
set_option maxHeartbeats 4000000 in
theorem lengths_any (L : Int) (a : Option Addr) (N c : Nat) (l : List Nat) (b : Option Addr) (n d : Nat) (t : List Nd) (w : World) (hl : l.length = N) (hN : N ≤ 1152921504606846976) (hA : Rd w a (fl encV l)) (hF : FitV l)
    (ht : t.length = n) (hn : n ≤ 1152921504606846976) (hB : Rd w b (fl encNd t)) (hS : ∀ v, v < n → (nS t v).size ≤ 9223372036854775807) :
    Calls Tryz.prog 6 #[.agg #[.int .i64 L, .slice a N c], .slice b n d] w fun e w' => ∃ v, e = .returned (.tuple #[v, .int .i64 (chkP L l t)]) ∧ w'.ownsRow w.heap.size 3 1 v (lenL L l t).length (fl encI (iN (lenL L l t))) ∧ Below w.heap.size w w' := by
  have hb0 := bl_alloc (Below.refl _ w) (.cells #[.int .i64 L, .slice a N c] 24)
  have hX := Blk.new w #[.int .i64 L, .slice a N c] 24
  have HC := Lib.hid (pscheck_any L a N c l b n d t (w.alloc (.cells #[.int .i64 L, .slice a N c] 24)) hl hN (hA.bl hb0) hF ht hn (hB.bl hb0) hS)
  have HL := Lib.hid hl
  have HF := Lib.hid hF
  have HT := Lib.hid ht
  have HS := Lib.hid hS
  have HA := Lib.hid (hA.bl hb0)
  have HB := Lib.hid (hB.bl hb0)
  clear hl hA hF ht hB hS
  go_enter Tryz.func6, Tryz.ntmps6
  go_wp2_with fail
  refine HC.out.mono ?_
  rintro e w2 ⟨rfl, hb2⟩
  have HB2 := Lib.hid (bl_trans hb0 hb2)
  have HX2 := Lib.hid (hX.below hb2)
  have HRA := Lib.hid (HA.out.bl hb2)
  have HRB := Lib.hid (HB.out.bl hb2)
  obtain ⟨X, hXe⟩ : ∃ x, x = w.heap.size := ⟨_, rfl⟩
  rw [← hXe] at HX2 ⊢
  have HXE := Lib.hid hXe
  clear hb0 hb2 hX HC HA HB hXe
  by_cases h0 : chkP L l t = 0
  · have hLL : Hid (lenL L l t = l.map (chg t)) := if_pos h0
    have HE := Lib.hid h0
    obtain ⟨k0, k1, k2⟩ := chkP_ok h0
    have hn1 : 1 ≤ n := by have := k1.1; have := HT.out; omega
    have hn63 : n ≤ 63 := by have := k1.2.1; have := HT.out; omega
    have HP : Hid (∀ v, 0 < v → v < n → 0 ≤ nP t v ∧ nP t v < v) := fun v h1 h2 => tree_par k1 v h1 (by rw [HT.out]; exact h2)
    have hN64 : N ≤ 64 := by
      obtain ⟨M, hM⟩ : ∃ M : Nat, L = M := ⟨(lvT t).length, k2.symm⟩
      rw [hM] at k0
      have := (chk_lt k0).2.1; have := HL.out; omega
    have HLV : Hid (lvT t = lvsL t n) := tok_lv HT.out k1
    have HCE : Hid (chkE t = 0) := chkE_good k1
    rw [h0]
    clear k0 k1 k2 h0
    go_wp2_with fail
    refine (Leaves_any b n d t w2 HT.out hn HRB.out HS.out).mono ?_
    rintro e w3 ⟨v, rfl, ho, hb3⟩
    rw [HCE.out]
    rw [HLV.out] at ho
    obtain ⟨A, cp, rfl, _⟩ := owns_slice ho
    have HB3 := Lib.hid (bl_trans HB2.out hb3)
    have HX3 := Lib.hid (HX2.out.below hb3)
    have HRA3 := Lib.hid (HRA.out.bl hb3)
    have HRB3 := Lib.hid (HRB.out.bl hb3)
    have HRL := Lib.hid (rd_of_owns ho)
    obtain ⟨q, hq⟩ : ∃ q, q = (lvsL t n).length := ⟨_, rfl⟩
    rw [← hq] at ho ⊢
    have HQ := Lib.hid hq
    have e1 : w3.cell? ⟨X, 1, none⟩ = some (.slice a N c) := HX3.out.cell 1
    clear ho hb3 hq HB2 HX2 HRA HRB
    go_wp2_with fail
    clear e1
    go_loopw [26, 9] (fun x y wr => ∃ k : Nat, k ≤ N ∧ x = .int .i64 k ∧ Hid (wr.ownsRow w3.heap.size 3 1 y k (fl encI (iN ((l.take k).map (chg t))))) ∧ Hid (Below w3.heap.size w3 wr)) (fun x _ _ => N - (intOf x).toNat)
    case atStart => exact ⟨0, by omega, rfl, World.ownsRow_nil _ _ _ _, Below.refl _ _⟩
    case round =>
      obtain ⟨k, hk, rfl, how, hbl⟩ := hrel
      by_cases hlt : k < N
      · obtain ⟨ba, oa, rfl, _, hca⟩ := rdV (HRA3.out.bl hbl.out) (by rw [HL.out]; omega)
        have G := hca k (by rw [HL.out]; exact hlt)
        have hx : vA l k < 18446744073709551616 := HF.out k (by rw [HL.out]; exact hlt)
        have HTK : Hid ((l.take (k + 1)).map (chg t) = (l.take k).map (chg t) ++ [chg t (vA l k)]) := by
          show _ = _
          rw [List.take_succ_eq_append_getElem (by rw [HL.out]; exact hlt), List.map_append, vA_get (by rw [HL.out]; exact hlt)]; rfl
        have HLN : Hid (k = ((l.take k).map (chg t)).length) := by show _ = _; rw [List.length_map, List.length_take, HL.out]; omega
        obtain ⟨A7, c7, rfl, _⟩ := owns_slice how.out
        clear hca
        generalize vA l k = x at *
        go_wp2_with fail
        refine (changes_any x b n d t A q cp wr hx HT.out hn1 hn63 (HRB3.out.bl hbl.out) HP.out HQ.out (HRL.out.bl hbl.out)).mono ?_
        rintro e w6 ⟨rfl, hb6⟩
        have HOW := Lib.hid (owns_below how.out hb6)
        have HB6 := Lib.hid (bl_trans hbl.out hb6)
        have hbase : w3.heap.size ≤ (w6.alloc (.cells #[.int .i64 (chg t x : Nat)] 3)).heap.size := (bl_alloc HB6.out _).size
        clear hb6
        generalize chg t x = y at *
        go_wp2_with (at_builtin; refine push_I rfl (.tmp 30) (.tmp 35) rfl w3.heap.size (.slice A7 k c7) (iN ((l.take k).map (chg t))) k (by rw [iN_len]; exact HLN.out) rfl (HOW.out.alloc _) _ _ (y : Int) rfl (Blk.new _ _ _) (by omega) hbase ?_; intro g2 cap w8 h81 h82 h83 h84; rw [← iN_snoc, ← HTK.out] at h81; have H81 := Lib.hid h81; have H82 := Lib.hid h82; clear h81 h82 h83)
        have HB8 := Lib.hid (bl_grown (bl_alloc HB6.out (.cells #[.int .i64 (y : Nat)] 3)) H82.out (fun x e => (HOW.out.lt x e).1))
        go_roundw
        case rel => exact ⟨k + 1, by omega, by go_num, H81, HB8⟩
        case measure => simp [intOf]; omega
      · obtain rfl : k = N := by omega
        obtain ⟨A7, c7, rfl, _⟩ := owns_slice how.out
        go_wp2_with fail
        refine bodyPost_ret (v := .tuple #[.slice A7 k c7, .int .i64 0]) (by simp [results, Tryz.results6, go_sem]) rfl ⟨_, by rw [HE.out], ?_, bl_trans HB3.out hbl.out⟩
        have h := how.out
        rw [List.take_of_length_le (by rw [HL.out]; exact Nat.le_refl _)] at h
        rw [hLL.out]
        have e : (l.map (chg t)).length = k := by rw [List.length_map, HL.out]
        rw [e]
        exact owns_mono h HB3.out.size
  · have hE : Hid (lenL L l t = []) := if_neg h0
    obtain ⟨E, hEE⟩ : ∃ E, chkP L l t = E := ⟨_, rfl⟩
    have HEE := Lib.hid hEE
    rw [hEE] at h0 ⊢
    have d0 : (E == 0) = false := by simp [h0]
    have d1 : (E != 0) = true := by simp [h0]
    clear hEE h0
    go_wp2_with fail
    exact bodyPost_ret (v := .tuple #[.slice none 0 0, .int .i64 E]) (by simp [results, Tryz.results6, go_sem]) rfl ⟨_, by rw [HEE.out], by rw [hE.out]; exact World.ownsRow_nil _ _ _ _, HB2.out⟩
/-- The length of a tree. -/
def lenS (L : Int) (l : List Nat) (t : List Nd) : Nat := (lenL L l t).sum
theorem sum_take_succ {l : List Nat} {k : Nat} (hk : k < l.length) : (l.take (k + 1)).sum = (l.take k).sum + vA l k := by
  rw [List.take_succ_eq_append_getElem hk, List.sum_append, vA_get hk]; simp
theorem sum_le {l : List Nat} {c : Nat} (h : ∀ x ∈ l, x ≤ c) : l.sum ≤ l.length * c := by
  induction l with
  | nil => simp
  | cons x l ih =>
    rw [List.sum_cons, List.length_cons, Nat.succ_mul]
    have := h x List.mem_cons_self
    have := ih fun y hy => h y (List.mem_cons_of_mem _ hy)
    omega
theorem lenL_le (L : Int) (l : List Nat) (t : List Nd) : (lenL L l t).length ≤ 64 ∧ ∀ x ∈ lenL L l t, x ≤ 32 := by
  by_cases h : chkP L l t = 0
  · have e : lenL L l t = l.map (chg t) := if_pos h
    rw [e]
    obtain ⟨k0, k1, k2⟩ := chkP_ok h
    obtain ⟨M, hM⟩ : ∃ M : Nat, L = M := ⟨(lvT t).length, k2.symm⟩
    rw [hM] at k0
    refine ⟨by rw [List.length_map]; exact (chk_lt k0).2.1, fun x hx => ?_⟩
    obtain ⟨y, _, rfl⟩ := List.mem_map.1 hx
    exact chg_le32 h y
  · have e : lenL L l t = [] := if_neg h
    rw [e]; simp
set_option maxRecDepth 100000 in
set_option maxHeartbeats 4000000 in
theorem length_any (L : Int) (a : Option Addr) (N c : Nat) (l : List Nat) (b : Option Addr) (n d : Nat) (t : List Nd) (w : World) (hl : l.length = N) (hN : N ≤ 1152921504606846976) (hA : Rd w a (fl encV l)) (hF : FitV l)
    (ht : t.length = n) (hn : n ≤ 1152921504606846976) (hB : Rd w b (fl encNd t)) (hS : ∀ v, v < n → (nS t v).size ≤ 9223372036854775807) :
    Calls Tryz.prog 7 #[.agg #[.int .i64 L, .slice a N c], .slice b n d] w fun e w' => e = .returned (.tuple #[.int .i64 (lenS L l t : Nat), .int .i64 (chkP L l t)]) ∧ Below w.heap.size w w' := by
  have hb0 := bl_alloc (Below.refl _ w) (.cells #[.int .i64 L, .slice a N c] 24)
  have HC := Lib.hid (lengths_any L a N c l b n d t (w.alloc (.cells #[.int .i64 L, .slice a N c] 24)) hl hN (hA.bl hb0) hF ht hn (hB.bl hb0) hS)
  obtain ⟨hl64, hx32⟩ := lenL_le L l t
  clear hl hA hF ht hB hS
  obtain ⟨m, hm⟩ : ∃ m, m = lenL L l t := ⟨_, rfl⟩
  have hsum : lenS L l t = m.sum := by unfold lenS; rw [hm]
  rw [← hm] at HC hl64 hx32
  have hsb : ∀ k, (m.take k).sum ≤ 2048 := fun k => by
    have h1 := sum_le (l := m.take k) (c := 32) fun x hx => hx32 x (List.mem_of_mem_take hx)
    rw [List.length_take] at h1
    omega
  have HSB := Lib.hid hsb
  have HX := Lib.hid hx32
  have HSUM := Lib.hid hsum
  obtain ⟨q, hq⟩ : ∃ q, q = m.length := ⟨_, rfl⟩
  rw [← hq] at HC hl64
  have HQ := Lib.hid hq
  obtain ⟨E, hE⟩ : ∃ E, E = chkP L l t := ⟨_, rfl⟩
  rw [← hE] at HC ⊢
  have HB0 := Lib.hid hb0
  clear hm hsum hsb hx32 hq hE hb0
  go_enter Tryz.func7, Tryz.ntmps7
  go_wp2_with fail
  refine HC.out.mono ?_
  rintro e w2 ⟨v, rfl, ho, hb2⟩
  obtain ⟨A, cp, rfl, _⟩ := owns_slice ho
  have HR := Lib.hid (rd_of_owns ho)
  have HB2 := Lib.hid (bl_trans HB0.out hb2)
  clear ho hb2 HB0 HC
  go_wp2_with fail
  go_loop [19, 8] (fun x y => ∃ k : Nat, k ≤ q ∧ x = .int .i64 k ∧ y = .int .i64 ((m.take k).sum : Nat)) (fun x _ => q - (intOf x).toNat)
  case atStart => exact ⟨0, by omega, rfl, rfl⟩
  case round =>
    obtain ⟨k, hk, rfl, rfl⟩ := hrel
    by_cases hlt : k < q
    · obtain ⟨b1, o1, rfl, _, hc⟩ := rdI HR.out (by rw [iN_len, ← HQ.out]; omega)
      have G := hc k (by rw [iN_len, ← HQ.out]; exact hlt)
      rw [iN_get] at G
      have HST := Lib.hid (sum_take_succ (l := m) (k := k) (by rw [← HQ.out]; exact hlt))
      have s1 := HSB.out k
      have s2 := HSB.out (k + 1)
      have s3 : vA m k ≤ 32 := HX.out _ (by rw [vA_get (by rw [← HQ.out]; exact hlt)]; exact List.getElem_mem _)
      clear hc
      generalize vA m k = y at *
      obtain ⟨S, hS⟩ : ∃ S, S = (m.take k).sum := ⟨_, rfl⟩
      rw [← hS] at HST s1 ⊢
      clear hS
      go_wp2_with fail
      go_round
      case rel => exact ⟨k + 1, by omega, by go_num, by rw [HST.out]; go_num⟩
      case measure => simp [intOf]; omega
    · obtain rfl : k = q := by omega
      have HF : Hid ((m.take k).sum = lenS L l t) := by show _ = _; rw [HSUM.out, List.take_of_length_le (by rw [HQ.out]; exact Nat.le_refl _)]
      obtain ⟨S, hS⟩ : ∃ S, S = (m.take k).sum := ⟨_, rfl⟩
      rw [← hS] at HF ⊢
      clear hS
      go_wp2_with fail
      go_ret2
      exact ⟨by rw [← HF.out]; rfl, HB2.out⟩
end Go.Proofs.YtkdehkkkbfackaaGreatDoor
namespace Go.Proofs.YtkdehkkkbfackaaGreatDoor
open Go Go.RowKit Go.Shelf Go.Maps
/-- What an innovation of L languages is said to need. -/
def wnt (L x : Nat) : Nat := if x = 0 ∨ x = 2 ^ L - 1 then 0 else 1
theorem wnt_le (L x : Nat) : wnt L x ≤ 1 := by unfold wnt; split <;> omega
theorem wnt_zero {L x : Nat} (h : x = 0 ∨ x = 2 ^ L - 1) : wnt L x = 0 := if_pos h
theorem wnt_one {L x : Nat} (h0 : x ≠ 0) (h1 : x ≠ 2 ^ L - 1) : wnt L x = 1 := if_neg (by omega)
theorem bd_chg {L : Nat} {l : List Nat} (hF : FitV l) (hc : chkT (L : Int) l = 0) (h1 : 1 ≤ L) (hn : confE l = none) {x : Nat} (hx : x ∈ l) : chg (bdN L l) x = wnt L x := by
  obtain ⟨t1, t2, t3⟩ := bd_tree hF hc h1
  have hlt := (chk_lt hc).2.2 x hx
  by_cases q : x = 0
  · subst q
    rw [wnt_zero (Or.inl rfl)]
    exact chg_none rfl t1
  · by_cases q2 : x = 2 ^ L - 1
    · have h := chg_every rfl t1
      rw [t2] at h
      rw [wnt_zero (Or.inr q2), q2]
      exact h
    · rw [wnt_one q q2]
      obtain ⟨v, hv, e⟩ := (t3 x).2 (bd_has hF hc hn hx q)
      have a := chg_node rfl t1 hv
      rw [e] at a
      have b := chg_pos rfl t1 (x := x) (by rw [t2]; exact hlt) q (by rw [t2]; exact q2)
      omega
/-- No tree needs fewer. -/
theorem oth_chg {L : Nat} {l : List Nat} {t : List Nd} (h : chkP (L : Int) l t = 0) {x : Nat} (hx : x ∈ l) : wnt L x ≤ chg t x := by
  obtain ⟨hc, t1, t2⟩ := chkP_ok h
  have t2 : (lvT t).length = L := by omega
  have hlt := (chk_lt hc).2.2 x hx
  by_cases q : x = 0 ∨ x = 2 ^ L - 1
  · rw [wnt_zero q]; exact Nat.zero_le _
  · rw [wnt_one (by omega) (by omega)]
    exact chg_pos rfl t1 (by rw [t2]; exact hlt) (by omega) (by rw [t2]; omega)
/-- The sum of what is said to be needed. -/
def wntS (L : Nat) (l : List Nat) : Nat := (l.map (wnt L)).sum
theorem bd_lenL {L : Nat} {l : List Nat} (hF : FitV l) (hc : chkT (L : Int) l = 0) (h1 : 1 ≤ L) (hn : confE l = none) : chkP (L : Int) l (bdN L l) = 0 ∧ lenL (L : Int) l (bdN L l) = l.map (wnt L) ∧ lenS (L : Int) l (bdN L l) = wntS L l := by
  have h := bd_chk hF hc h1 hc
  have e : lenL (L : Int) l (bdN L l) = l.map (wnt L) := by
    unfold lenL
    rw [if_pos h]
    exact List.map_congr_left fun x hx => bd_chg hF hc h1 hn hx
  exact ⟨h, e, by unfold lenS wntS; rw [e]⟩
theorem sum_mono {f g : Nat → Nat} : ∀ l : List Nat, (∀ x, x ∈ l → f x ≤ g x) → (l.map f).sum ≤ (l.map g).sum
  | [], _ => Nat.le_refl _
  | x :: l, h => by
    simp only [List.map_cons, List.sum_cons]
    have a := h x (by simp)
    have b := sum_mono l fun y hy => h y (by simp [hy])
    omega
theorem oth_len {L : Nat} {l : List Nat} {t : List Nd} (h : chkP (L : Int) l t = 0) : wntS L l ≤ lenS (L : Int) l t := by
  unfold lenS lenL wntS
  rw [if_pos h]
  exact sum_mono l fun x hx => oth_chg h hx
/-- The sum of the first k. -/
def wntK (L : Nat) (l : List Nat) (k : Nat) : Nat := ((l.take k).map (wnt L)).sum
theorem wntK_succ (L : Nat) (l : List Nat) {k : Nat} (hk : k < l.length) : wntK L l (k + 1) = wntK L l k + wnt L (vA l k) := by
  unfold wntK
  rw [List.take_succ_eq_append_getElem hk, List.map_append, List.sum_append, vA_get hk]
  simp
theorem wntK_all (L : Nat) (l : List Nat) : wntK L l l.length = wntS L l := by unfold wntK wntS; rw [List.take_length]
theorem wntK_le (L : Nat) (l : List Nat) (k : Nat) (hk : k ≤ l.length) : wntK L l k ≤ k := by
  induction k with
  | zero => simp [wntK]
  | succ k ih =>
    rw [wntK_succ L l (by omega)]
    have := ih (by omega)
    have := wnt_le L (vA l k)
    omega
end Go.Proofs.YtkdehkkkbfackaaGreatDoor
