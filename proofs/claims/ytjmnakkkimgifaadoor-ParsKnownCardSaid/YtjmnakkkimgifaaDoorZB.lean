/- The document's tree: the set of a node. The document's tree: common nodes and ways, plain. The document's tree: ways are increasing; the node above, plain. The sets of a tree's nodes: plain. The place of a leaf, plain. The set of a node: its leaves are those whose way it lies on. The document's set of a node is the program's. A range over an iterator that turns a block of its own between two rounds (no program in sight). tree.check at every tree and node; tree.up's iterator. tree.Clade at a node of a tree. The document's Check of a table; compatible sets; the first conflict of a table, in the program and in the document. The sets of a tree's nodes fit one another (plain). What an innovation costs on a tree (plain). What an innovation costs: its opposite, the sets of nodes (plain). The example of all statements: works answers true. Contracts of the library that the kit has proved, laid at this dump by the kit's tool (no walk). Rows of trees in blocks of their own. -/
import Derived.Test.YtjmnakkkimgifaaDoorZA
import Derived.Shelf.Small.Bits
import Derived.Shelf.Small.Wraps
import Derived.Shelf.Strconv.Itoa0
import Derived.Shelf.Strconv.Itoa1
import Derived.Shelf.LaysM
import Derived.Shelf.Strconv.Itoa2
import Derived.Shelf.Strconv.Itoa3
import Derived.Shelf.Slices.Turned
import Derived.Ground.Names2Prog
import Derived.Shelf.Slices.SearchI
import Derived.Shelf.Slices.Empties
import Derived.Shelf.SlGeneric
import Derived.Shelf.SlSortCmp.NoneTotal
import Derived.Ground.SlsfProg
import Derived.Test.YtjmnakkkimgifaaDoorProg
namespace Go.Proofs.YtjmnakkkimgifaaDoor
open Go Go.RowKit Go.Shelf
/-- The set of v from the first k leaves. -/
def clF (t : List Nd) (n v : Nat) : Nat → Nat
  | 0 => 0
  | k + 1 => if cmN t n (vA (lvT t) k) v = v then clF t n v k ||| 2 ^ k else clF t n v k
theorem clF_lt (t : List Nd) (n v : Nat) : ∀ k, clF t n v k < 2 ^ k := by
  intro k
  induction k with
  | zero => exact Nat.one_pos
  | succ k ih =>
    have h : 2 ^ k < 2 ^ (k + 1) := Nat.pow_lt_pow_right (by omega) (by omega)
    unfold clF
    split
    · exact Nat.or_lt_two_pow (by omega) h
    · omega
end Go.Proofs.YtjmnakkkimgifaaDoor
namespace Go.Proofs.YtjmnakkkimgifaaDoor
open Go Go.RowKit Go.Shelf
theorem pth_succ {t : List Nd} {n : Nat} (hP : ∀ v, 0 < v → v < n → 0 ≤ nP t v ∧ nP t v < v) {x : Nat} (h0 : 0 < x) (hx : x < n) : pthF t n x = pthF t n (nP t x).toNat ++ [x] := by
  obtain ⟨m, rfl⟩ : ∃ m, n = m + 1 := ⟨n - 1, by omega⟩
  have h := hP x h0 hx
  have e : pthF t (m + 1) x = pthF t m (nP t x).toNat ++ [x] := by rw [pthF, if_neg (by omega)]
  rw [e, pthF_eq hP m (m + 1) (nP t x).toNat (by omega) (by omega) (by omega)]
theorem pth_zero (t : List Nd) (n : Nat) : pthF t n 0 = [0] := by cases n <;> simp [pthF]
theorem pth_last {t : List Nd} {n : Nat} (hP : ∀ v, 0 < v → v < n → 0 ≤ nP t v ∧ nP t v < v) {x : Nat} (hx : x < n) : vA (pthF t n x) ((pthF t n x).length - 1) = x := by
  by_cases e : x = 0
  · subst e; rw [pth_zero]; rfl
  · rw [pth_succ hP (by omega) hx]; simp [vA]
theorem pth_prefix {t : List Nd} {n : Nat} (hP : ∀ v, 0 < v → v < n → 0 ≤ nP t v ∧ nP t v < v) {v : Nat} : ∀ k x, x ≤ k → x < n → v ∈ pthF t n x → pthF t n v <+: pthF t n x := by
  intro k
  induction k with
  | zero =>
    intro x hk hx hm
    obtain rfl : x = 0 := by omega
    rw [pth_zero, List.mem_singleton] at hm
    subst hm
    exact List.prefix_refl _
  | succ k ih =>
    intro x hk hx hm
    by_cases e : x = 0
    · subst e
      rw [pth_zero, List.mem_singleton] at hm
      subst hm
      exact List.prefix_refl _
    · have hp := hP x (by omega) hx
      have he := pth_succ hP (show 0 < x by omega) hx
      rw [he, List.mem_append] at hm
      rcases hm with hm | hm
      · rw [he]
        exact (ih (nP t x).toNat (by omega) (by omega) hm).trans (List.prefix_append _ _)
      · rw [List.mem_singleton] at hm
        subst hm
        exact List.prefix_refl _
theorem preL_le : ∀ x y : List Nat, preL x y ≤ x.length := by
  intro x
  induction x with
  | nil => intro y; cases y <;> exact Nat.le_refl _
  | cons a x ih =>
    intro y
    cases y with
    | nil => exact Nat.zero_le _
    | cons b y =>
      unfold preL
      split
      · have := ih y; simp; omega
      · omega
/-- The deepest common node of x and v is v exactly if v lies on the way to x. -/
theorem cmN_iff {t : List Nd} {n : Nat} (hP : ∀ v, 0 < v → v < n → 0 ≤ nP t v ∧ nP t v < v) {x v : Nat} (hx : x < n) (hv : v < n) : cmN t n x v = v ↔ v ∈ pthF t n x := by
  obtain ⟨h1, _⟩ := pthF_pos t n x
  obtain ⟨h3, _⟩ := pthF_pos t n v
  constructor
  · intro h
    unfold cmN at h
    have hj : preL (pthF t n x) (pthF t n v) - 1 < (pthF t n x).length := by
      have := preL_le (pthF t n x) (pthF t n v); omega
    rw [vA_get hj] at h
    rw [← h]; exact List.getElem_mem hj
  · intro hm
    obtain ⟨s, hs⟩ := pth_prefix hP x x (Nat.le_refl _) hx hm
    have hat : ∀ i, i < (pthF t n v).length → vA (pthF t n x) i = vA (pthF t n v) i := fun i hi => by
      rw [← hs]
      simp only [vA, List.getD_eq_getElem?_getD]
      rw [List.getElem?_append_left hi]
    have hpe : preL (pthF t n x) (pthF t n v) = (pthF t n v).length :=
      preL_eq _ _ _ (by rw [← hs, List.length_append]; omega) (Nat.le_refl _) hat (.inr (.inl rfl))
    unfold cmN
    rw [hpe, hat _ (by omega), pth_last hP hv]
end Go.Proofs.YtjmnakkkimgifaaDoor
namespace Go.Proofs.YtjmnakkkimgifaaDoor
open Go Go.RowKit Go.Shelf
theorem pth_lt {t : List Nd} {n : Nat} (hP : ∀ v, 0 < v → v < n → 0 ≤ nP t v ∧ nP t v < v) : ∀ k x, x ≤ k → x < n → ∀ u, u ∈ pthF t n x → u ≤ x := by
  intro k
  induction k with
  | zero =>
    intro x hk hx u hu
    obtain rfl : x = 0 := by omega
    rw [pth_zero, List.mem_singleton] at hu
    omega
  | succ k ih =>
    intro x hk hx u hu
    by_cases e : x = 0
    · subst e
      rw [pth_zero, List.mem_singleton] at hu
      omega
    · have hp := hP x (by omega) hx
      rw [pth_succ hP (by omega) hx, List.mem_append] at hu
      rcases hu with hu | hu
      · have := ih (nP t x).toNat (by omega) (by omega) u hu; omega
      · rw [List.mem_singleton] at hu; omega
theorem pth_self {t : List Nd} {n : Nat} (hP : ∀ v, 0 < v → v < n → 0 ≤ nP t v ∧ nP t v < v) {x : Nat} (hx : x < n) : x ∈ pthF t n x := by
  by_cases e : x = 0
  · subst e; rw [pth_zero]; simp
  · rw [pth_succ hP (by omega) hx]; simp
/-- Two nodes of one way: the lower one's way has the upper one. -/
theorem pth_chain {t : List Nd} {n : Nat} (hP : ∀ v, 0 < v → v < n → 0 ≤ nP t v ∧ nP t v < v) : ∀ k x, x ≤ k → x < n → ∀ u v, u ∈ pthF t n x → v ∈ pthF t n x → u ≤ v → u ∈ pthF t n v := by
  intro k
  induction k with
  | zero =>
    intro x hk hx u v hu hv _
    obtain rfl : x = 0 := by omega
    rw [pth_zero, List.mem_singleton] at hv
    subst hv; exact hu
  | succ k ih =>
    intro x hk hx u v hu hv huv
    by_cases e : x = 0
    · subst e
      rw [pth_zero, List.mem_singleton] at hv
      subst hv; exact hu
    · have hp := hP x (by omega) hx
      have he := pth_succ hP (show 0 < x by omega) hx
      have hv0 := hv
      have hu0 := hu
      rw [he, List.mem_append] at hv hu
      rcases hv with hv | hv
      · have hvl := pth_lt hP (nP t x).toNat _ (Nat.le_refl _) (by omega) v hv
        rcases hu with hu | hu
        · exact ih (nP t x).toNat (by omega) (by omega) u v hu hv huv
        · rw [List.mem_singleton] at hu; omega
      · rw [List.mem_singleton] at hv
        subst hv; exact hu0
/-- If nothing of the way lies between v and c, v is the node above c. -/
theorem pth_above {t : List Nd} {n : Nat} (hP : ∀ v, 0 < v → v < n → 0 ≤ nP t v ∧ nP t v < v) {x v c : Nat} (hx : x < n) (hv : v ∈ pthF t n x) (hc : c ∈ pthF t n x) (hvc : v < c) (hno : ∀ u, u ∈ pthF t n x → v < u → c ≤ u) : nP t c = v := by
  have hcn : c < n := Nat.lt_of_le_of_lt (pth_lt hP x x (Nat.le_refl _) hx c hc) hx
  have hp := hP c (by omega) hcn
  have h1 := pth_chain hP x x (Nat.le_refl _) hx v c hv hc (by omega)
  have he := pth_succ hP (show 0 < c by omega) hcn
  rw [he, List.mem_append] at h1
  have hpm : (nP t c).toNat ∈ pthF t n x := by
    have h2 := pth_prefix hP x x (Nat.le_refl _) hx hc
    refine h2.subset ?_
    rw [he]
    exact List.mem_append_left _ (pth_self hP (by omega))
  rcases h1 with h1 | h1
  · have h3 := pth_lt hP (nP t c).toNat _ (Nat.le_refl _) (by omega) v h1
    rcases Nat.lt_or_ge v (nP t c).toNat with h4 | h4
    · have := hno _ hpm h4; omega
    · omega
  · rw [List.mem_singleton] at h1; omega
end Go.Proofs.YtjmnakkkimgifaaDoor
namespace Go.Proofs.YtjmnakkkimgifaaDoor
open Go.RowKit
/-- Has node v a child among the first k? -/
def inB (t : List Nd) (k v : Nat) : Bool := (List.range k).any (kidB t v)
theorem inB_succ (t : List Nd) (k v : Nat) : inB t (k + 1) v = (inB t k v || kidB t v k) := by
  unfold inB
  rw [List.range_succ, List.any_append]
  simp
theorem leafB_in (t : List Nd) (v : Nat) : leafB t v = !inB t t.length v := by
  unfold leafB inB famL
  rw [Bool.eq_iff_iff]
  simp [List.isEmpty_iff]
/-- What a leaf begins with. -/
def botS (t : List Nd) (v : Nat) : Nat := if leafB t v then 2 ^ (lvsL t v).length else 0
/-- The sets behind j steps upwards. -/
def upS (t : List Nd) : Nat → Nat → Nat
  | 0, v => botS t v
  | j + 1, v => if nP t (t.length - 1 - j) = (v : Int) then upS t j v ||| upS t j (t.length - 1 - j) else upS t j v
/-- The set of a node. -/
def cl (t : List Nd) (v : Nat) : Nat := upS t (t.length - 1) v
theorem lvsL_mono (t : List Nd) {j k : Nat} (h : j ≤ k) : (lvsL t j).length ≤ (lvsL t k).length := by
  induction k with
  | zero => have : j = 0 := by omega
            subst this; exact Nat.le_refl _
  | succ k ih =>
    by_cases e : j = k + 1
    · subst e; exact Nat.le_refl _
    · have := ih (by omega)
      rw [lvsL_snoc, List.length_append]; omega
theorem upS_lt {t : List Nd} {n : Nat} (hL : (lvsL t t.length).length ≤ n) : ∀ j v, v < t.length → upS t j v < 2 ^ n := by
  intro j
  induction j with
  | zero =>
    intro v hv
    unfold upS botS
    by_cases q : leafB t v = true
    · rw [if_pos q]
      refine Nat.pow_lt_pow_right (by omega) ?_
      have h1 := lvsL_snoc t v
      rw [if_pos q] at h1
      have h2 := lvsL_mono t (show v + 1 ≤ t.length from hv)
      rw [h1, List.length_append, List.length_singleton] at h2
      omega
    · rw [if_neg q]; exact Nat.two_pow_pos _
  | succ j ih =>
    intro v hv
    unfold upS
    split
    · exact Nat.or_lt_two_pow (ih v hv) (ih _ (by omega))
    · exact ih v hv
theorem cl_lt {t : List Nd} {n : Nat} (hL : (lvsL t t.length).length ≤ n) (v : Nat) (hv : v < t.length) : cl t v < 2 ^ n := upS_lt hL _ v hv
/-- What the iterator hands out. -/
def ndsL (t : List Nd) (k : Nat) : List (Nat × Nat) := (List.range k).map fun v => (v, cl t v)
theorem ndsL_snoc (t : List Nd) (k : Nat) : ndsL t (k + 1) = ndsL t k ++ [(k, cl t k)] := by simp [ndsL, List.range_succ]
theorem ndsL_len (t : List Nd) (k : Nat) : (ndsL t k).length = k := by simp [ndsL]
end Go.Proofs.YtjmnakkkimgifaaDoor
namespace Go.Proofs.YtjmnakkkimgifaaDoor
open Go Go.RowKit Go.Shelf
theorem lvs_at (t : List Nd) : ∀ n k, k < (lvsL t n).length → vA (lvsL t n) k < n ∧ leafB t (vA (lvsL t n) k) = true ∧ (lvsL t (vA (lvsL t n) k)).length = k := by
  intro n
  induction n with
  | zero => intro k hk; simp [lvsL] at hk
  | succ n ih =>
    intro k hk
    rw [lvsL_snoc] at hk ⊢
    by_cases q : k < (lvsL t n).length
    · have e : ∀ m : List Nat, vA (lvsL t n ++ m) k = vA (lvsL t n) k := fun m => by
        simp only [vA, List.getD_eq_getElem?_getD]; rw [List.getElem?_append_left q]
      rw [e]
      obtain ⟨h1, h2, h3⟩ := ih k q
      exact ⟨by omega, h2, h3⟩
    · by_cases p : leafB t n = true
      · rw [if_pos p] at hk ⊢
        rw [List.length_append, List.length_singleton] at hk
        obtain rfl : k = (lvsL t n).length := by omega
        have e : vA (lvsL t n ++ [n]) (lvsL t n).length = n := by simp [vA]
        rw [e]
        exact ⟨by omega, p, rfl⟩
      · rw [if_neg p, List.append_nil] at hk
        exact absurd hk q
/-- The bits of what a node begins with. -/
theorem botS_bit (t : List Nd) {n k v : Nat} (hk : k < (lvsL t n).length) : (botS t v).testBit k = true ↔ vA (lvsL t n) k = v ∨ (leafB t v = true ∧ (lvsL t v).length = k ∧ vA (lvsL t n) k ≠ v) := by
  obtain ⟨h1, h2, h3⟩ := lvs_at t n k hk
  unfold botS
  by_cases p : leafB t v = true
  · rw [if_pos p, Nat.testBit_two_pow]
    simp only [decide_eq_true_eq]
    constructor
    · intro h
      by_cases e : vA (lvsL t n) k = v
      · exact .inl e
      · exact .inr ⟨p, h, e⟩
    · rintro (h | ⟨_, h, _⟩)
      · rw [← h]; exact h3
      · exact h
  · rw [if_neg p]
    simp only [Nat.zero_testBit]
    constructor
    · intro h; cases h
    · rintro (h | ⟨h, _⟩)
      · rw [h] at h2; exact absurd h2 p
      · exact absurd h p
end Go.Proofs.YtjmnakkkimgifaaDoor
namespace Go.Proofs.YtjmnakkkimgifaaDoor
open Go Go.RowKit Go.Shelf
theorem lvs_inj {t : List Nd} {u v : Nat} (hu : leafB t u = true) (hv : leafB t v = true) (h : (lvsL t u).length = (lvsL t v).length) : u = v := by
  have key : ∀ a b, a < b → leafB t a = true → (lvsL t a).length < (lvsL t b).length := fun a b hab ha => by
    have h1 := lvsL_snoc t a
    rw [if_pos ha] at h1
    have h2 := lvsL_mono t (show a + 1 ≤ b from hab)
    rw [h1, List.length_append, List.length_singleton] at h2
    omega
  rcases Nat.lt_trichotomy u v with q | q | q
  · have := key u v q hu; omega
  · exact q
  · have := key v u q hv; omega
theorem botS_iff (t : List Nd) {n k v : Nat} (hk : k < (lvsL t n).length) : (botS t v).testBit k = true ↔ vA (lvsL t n) k = v := by
  rw [botS_bit t hk]
  obtain ⟨_, h2, h3⟩ := lvs_at t n k hk
  constructor
  · rintro (h | ⟨hl, hlen, hne⟩)
    · exact h
    · exact absurd (lvs_inj h2 hl (by rw [h3, hlen])) hne
  · exact .inl
theorem upS_bit {t : List Nd} {n k : Nat} (hn : t.length = n) (hP : ∀ v, 0 < v → v < n → 0 ≤ nP t v ∧ nP t v < v) (_h0 : nP t 0 < 0) (hk : k < (lvsL t n).length) : ∀ j v, j + 1 ≤ n → v < n →
    ((upS t j v).testBit k = true ↔ v ∈ pthF t n (vA (lvsL t n) k) ∧ ∀ u, u ∈ pthF t n (vA (lvsL t n) k) → v < u → n - j ≤ u) := by
  have hx := (lvs_at t n k hk).1
  have hb : ∀ v, (botS t v).testBit k = true ↔ vA (lvsL t n) k = v := fun v => botS_iff t hk
  generalize vA (lvsL t n) k = x at *
  intro j
  induction j with
  | zero =>
    intro v _ hv
    show (botS t v).testBit k = true ↔ _
    rw [hb]
    constructor
    · rintro rfl
      refine ⟨pth_self hP hx, fun u hu hlt => ?_⟩
      have := pth_lt hP x x (Nat.le_refl _) hx u hu; omega
    · rintro ⟨h1, h2⟩
      have h3 := pth_lt hP x x (Nat.le_refl _) hx v h1
      rcases Nat.lt_or_ge v x with h4 | h4
      · have := h2 x (pth_self hP hx) h4; omega
      · omega
  | succ j ih =>
    intro v hj hv
    obtain ⟨c, hc⟩ : ∃ c, c = n - 1 - j := ⟨_, rfl⟩
    have hc0 : 0 < c := by omega
    have hcn : c < n := by omega
    have hups : upS t (j + 1) v = if nP t c = (v : Int) then upS t j v ||| upS t j c else upS t j v := by rw [upS, hn, hc]
    have ec : n - (j + 1) = c := by omega
    have ej : n - j = c + 1 := by omega
    rw [hups, ec]
    clear hups
    have hv1 := ih v (by omega) hv
    have hc1 := ih c (by omega) hcn
    rw [ej] at hv1 hc1
    by_cases e : nP t c = (v : Int)
    · rw [if_pos e, Nat.testBit_or, Bool.or_eq_true, hv1, hc1]
      have hpc := hP c hc0 hcn
      constructor
      · rintro (⟨h1, h2⟩ | ⟨h1, h2⟩)
        · exact ⟨h1, fun u hu hlt => by have := h2 u hu hlt; omega⟩
        · have hvx : v ∈ pthF t n x := by
            refine (pth_prefix hP x x (Nat.le_refl _) hx h1).subset ?_
            rw [pth_succ hP hc0 hcn, e]
            exact List.mem_append_left _ (by rw [Int.toNat_natCast]; exact pth_self hP hv)
          refine ⟨hvx, fun u hu hlt => ?_⟩
          rcases Nat.lt_or_ge u c with h4 | h4
          · have h5 := pth_chain hP x x (Nat.le_refl _) hx u c hu h1 (by omega)
            rw [pth_succ hP hc0 hcn, e, Int.toNat_natCast, List.mem_append] at h5
            rcases h5 with h5 | h5
            · have := pth_lt hP v v (Nat.le_refl _) hv u h5; omega
            · rw [List.mem_singleton] at h5; omega
          · exact h4
      · rintro ⟨h1, h2⟩
        by_cases hcx : c ∈ pthF t n x
        · exact .inr ⟨hcx, fun u hu hlt => hlt⟩
        · exact .inl ⟨h1, fun u hu hlt => by
            have h3 := h2 u hu hlt
            rcases Nat.lt_or_ge c u with h4 | h4
            · exact h4
            · obtain rfl : u = c := by omega
              exact absurd hu hcx⟩
    · rw [if_neg e, hv1]
      constructor
      · rintro ⟨h1, h2⟩
        exact ⟨h1, fun u hu hlt => by have := h2 u hu hlt; omega⟩
      · rintro ⟨h1, h2⟩
        refine ⟨h1, fun u hu hlt => ?_⟩
        have h3 := h2 u hu hlt
        rcases Nat.lt_or_ge c u with h4 | h4
        · exact h4
        · obtain rfl : u = c := by omega
          exact absurd (pth_above hP hx h1 hu hlt h2) e
theorem cl_bit {t : List Nd} {n k v : Nat} (hn : t.length = n) (hP : ∀ v, 0 < v → v < n → 0 ≤ nP t v ∧ nP t v < v) (h0 : nP t 0 < 0) (hk : k < (lvsL t n).length) (hv : v < n) : (cl t v).testBit k = true ↔ v ∈ pthF t n (vA (lvsL t n) k) := by
  unfold cl
  rw [hn, upS_bit hn hP h0 hk (n - 1) v (by omega) hv]
  exact ⟨fun h => h.1, fun h => ⟨h, fun u _ hlt => by omega⟩⟩
theorem clF_bit (t : List Nd) (n v k : Nat) : ∀ m, (clF t n v m).testBit k = true ↔ k < m ∧ cmN t n (vA (lvT t) k) v = v := by
  intro m
  induction m with
  | zero => simp [clF]
  | succ m ih =>
    unfold clF
    by_cases q : cmN t n (vA (lvT t) m) v = v
    · rw [if_pos q, Nat.testBit_or, Bool.or_eq_true, ih, Nat.testBit_two_pow]
      simp only [decide_eq_true_eq]
      constructor
      · rintro (⟨h1, h2⟩ | h)
        · exact ⟨by omega, h2⟩
        · subst h; exact ⟨by omega, q⟩
      · rintro ⟨h1, h2⟩
        rcases Nat.lt_or_ge k m with h3 | h3
        · exact .inl ⟨h3, h2⟩
        · exact .inr (by omega)
    · rw [if_neg q, ih]
      constructor
      · rintro ⟨h1, h2⟩; exact ⟨by omega, h2⟩
      · rintro ⟨h1, h2⟩
        refine ⟨?_, h2⟩
        rcases Nat.lt_or_ge k m with h3 | h3
        · exact h3
        · obtain rfl : k = m := by omega
          exact absurd h2 q
end Go.Proofs.YtjmnakkkimgifaaDoor
namespace Go.Proofs.YtjmnakkkimgifaaDoor
open Go Go.RowKit Go.Shelf
theorem clF_cl {t : List Nd} {n v : Nat} (hn : t.length = n) (hok : TreeOk t) (hv : v < n) : clF t n v (lvT t).length = cl t v := by
  have hP : ∀ v, 0 < v → v < n → 0 ≤ nP t v ∧ nP t v < v := fun v h1 h2 => tree_par hok v h1 (by rw [hn]; exact h2)
  have h0 : nP t 0 < 0 := (hok.2.2 0 (by have := hok.1; omega)).1
  have hL : lvT t = lvsL t n := by unfold lvT; rw [if_pos (chkE_good hok), hn]
  apply Nat.eq_of_testBit_eq
  intro k
  by_cases hk : k < (lvsL t n).length
  · rw [Bool.eq_iff_iff, clF_bit, cl_bit hn hP h0 hk hv, hL]
    have hx := (lvs_at t n k hk).1
    rw [cmN_iff hP hx hv]
    exact ⟨fun h => h.2, fun h => ⟨hk, h⟩⟩
  · have hp : 2 ^ (lvsL t n).length ≤ 2 ^ k := Nat.pow_le_pow_right (by omega) (by omega)
    have h1 := clF_lt t n v (lvT t).length
    rw [hL] at h1 ⊢
    have h2 := cl_lt (t := t) (n := (lvsL t n).length) (by rw [hn]; exact Nat.le_refl _) v (by rw [hn]; exact hv)
    rw [Nat.testBit_lt_two_pow (by omega), Nat.testBit_lt_two_pow (by omega)]
end Go.Proofs.YtjmnakkkimgifaaDoor
namespace Go.Proofs.YtjmnakkkimgifaaDoor
open Go Go.RowKit Go.Shelf
section law
variable {F : Fence} {n : Nat} {P : Program} {α : Type}
/-- An iterator's word: it gives xs, if what the caller holds is not turned by a store into block V. -/
def GivesV (F : Fence) (n : Nat) (P : Program) (gf : Nat) (lb : Array Value) (encs : α → Array Value) (Kp : World → World → Prop) (V : Nat) (xs : List α) (w : World) : Prop :=
  ∀ (l : Nat) (J : List α → World → Prop) (W : World), Below w.heap.size w W → (∀ pre W1 v, J pre W1 → J pre (W1.setCell ⟨V, 0, none⟩ v)) →
    (∀ pre x W1, J pre W1 → pre ++ [x] <+: xs → YieldAt F (n - 1) P l (encs x) W1 fun e W' => e = .returned (.bool true) ∧ J (pre ++ [x]) W' ∧ Kp W1 W') → J [] W →
    CallsIn F n P gf (#[.func (.yield l) #[] #[]] ++ lb) W fun e W' => (∃ v, e = .returned v) ∧ J xs W'
theorem wpIn_range_V {g : Operand} {ps : Array Tmp} {assign body : Code} {Q : Exit → Act → World → Prop} {a : Act} {w : World} (hro : F.round = none) (h1 : 1 ≤ n) {gf : Nat} {lb : Array Value}
    (hg : a.eval g = .func (.func gf) #[] lb) (hF : F.fn gf) (he : ∀ args W, (callFunc gf args).run P W = .ok (.enter gf args) W) {encs : α → Array Value} {Kp : World → World → Prop} {V : Nat} {xs : List α}
    (hseq : GivesV F (n - 1) P gf lb encs Kp V xs w) (hKt : ∀ {A B C : World}, Kp A B → Kp B C → Kp A C) (hKo : ∀ (W : World) (l : Nat) (o o' : Obj), w.heap.size ≤ l → W.heap[l]? = some o → o.isCells = false → Kp W (W.putObj l o'))
    (hV : V < w.heap.size) (hps : ∀ x, (encs x).size = ps.size) (I : List α → World → Prop) (hI : OwnFrom w.heap.size I) (hIV : ∀ pre W v, I pre W → I pre (W.setCell ⟨V, 0, none⟩ v)) (h0 : I [] w) (b : α → Act)
    (hassign : ∀ (l : Nat) (x : α) (W : World) (K : Act → World → Prop), K (b x) W → assign.wpIn (F.inRound l) (n - 1 - 1) P (Exit.then K fun _ _ _ => False) { tmps := (ps.zip (encs x)).foldl (fun t (p, v) => t.setIfInBounds p v) a.tmps, defers := [] } W)
    (hbody : ∀ (l : Nat) (pre : List α) (x : α) (W : World), I pre W → pre ++ [x] <+: xs → body.wpIn (F.inRound l) (n - 1 - 1) P (ownPostK Kp I (fun _ _ _ => False) (pre ++ [x]) W) (b x) W)
    (hdone : ∀ (D : Nat) (W : World), w.heap.size ≤ D → I xs W → W.heap[D]? = some (.deferred (some [])) → Q .normal { a with defers := { target := .collected D, args := #[] } :: a.defers } W) :
    (Code.rangeFunc g ps assign body).wpIn F n P Q a w := by
  apply wpIn_rangeFunc
  intro fn hfn
  rw [hro]
  -- the loop's record in its three states, and the two blocks' places
  let L : LoopState → Obj := fun s => .loop { state := s, pending := none, fn := fn, tmps := a.tmps, params := ps, assign := assign, body := body, defers := w.heap.size }
  have eD : ∀ W : World, W.heap.size = w.heap.size → True := fun _ _ => trivial
  obtain ⟨D, hD⟩ : ∃ D, D = w.heap.size := ⟨_, rfl⟩
  have hrun := run_enterLoop_outer (P := P) (w := w) fn a.tmps ps assign body
  let U : World := (w.alloc (.deferred (some []))).alloc (L .ready)
  have uD : U.heap[D]? = some (.deferred (some [])) := by
    rw [hD]
    exact (Below.heap_alloc (w.alloc (.deferred (some []))) (L .ready) _ (by simp)).trans (World.alloc_heap_new w _)
  have uL : U.heap[D + 1]? = some (L .ready) := by
    have h := World.alloc_heap_new (w.alloc (.deferred (some []))) (L .ready)
    rw [World.size_alloc, ← hD] at h; exact h
  have uB : Below w.heap.size w U := bl_alloc (bl_alloc (Below.refl _ _) _) _
  refine ⟨D + 1, [{ target := .collected D, args := #[] }], U, { target := .fn (.func gf) lb, args := #[.func (.yield (D + 1)) #[] #[]] }, U, gf, #[.func (.yield (D + 1)) #[] #[]] ++ lb, U, ?_, ?_, ?_, ?_, fun _ => h1, ?_⟩
  · rw [hD]; exact hrun
  · simp only [resolve, hg]; simp [go_sem]
  · intro f' hf'
    simp [Target.leads] at hf'
    rw [← hf']; exact hF
  · simp [invoke, go_sem, he]
  · -- what the caller holds between two rounds
    let J : List α → World → Prop := fun pre W => I pre W ∧ W.heap[D + 1]? = some (L .ready) ∧ W.heap[D]? = some (.deferred (some []))
    have put : ∀ {pre : List α} {W : World} (o o' : Obj), I pre W → W.heap[D + 1]? = some o → o.isCells = false → I pre (W.putObj (D + 1) o') := fun o o' h hl ho => hI.putObj o' h (by omega) hl ho
    refine (hseq (D + 1) J U uB ?_ ?_ ⟨?_, uL, uD⟩).mono ?_
    · rintro pre W v ⟨h, hl, hd⟩
      exact ⟨hIV pre W v h, (Below.heap_setCell W ⟨V, 0, none⟩ v (D + 1) (show D + 1 ≠ V by omega)).trans hl, (Below.heap_setCell W ⟨V, 0, none⟩ v D (show D ≠ V by omega)).trans hd⟩
    · rintro pre x W ⟨h, hl, hd⟩ hx
      have lt : D + 1 < W.heap.size := (Array.getElem?_eq_some_iff.1 hl).1
      refine ⟨fn, _, assign, body, run_yield hl (hps x), roundIn_of_wpIn hfn (hassign _ x W _ ⟨_, run_beginRound hl rfl, ?_⟩)⟩
      let W2 : World := W.putObj (D + 1) (L .busy)
      have hl2 : W2.heap[D + 1]? = some (L .busy) := World.putObj_heap_same lt
      have hd2 : W2.heap[D]? = some (.deferred (some [])) := (World.putObj_heap_other (by omega)).trans hd
      have k12 : Kp W W2 := hKo W (D + 1) _ _ (by omega) hl rfl
      refine wpIn_mono (hbody (D + 1) pre x W2 (put _ _ h hl rfl) hx) ?_
      intro e a3 W3 hp
      cases e with
      | normal =>
        obtain ⟨ko, k23, h3⟩ := hp
        have hl3 := ko.same _ _ hl2 rfl
        have hd3 := ko.same _ _ hd2 rfl
        have lt3 : D + 1 < W3.heap.size := (Array.getElem?_eq_some_iff.1 hl3).1
        refine ⟨_, _, run_endRound none hl3, rfl, ⟨put _ _ h3 hl3 rfl, World.putObj_heap_same lt3, (World.putObj_heap_other (by omega)).trans hd3⟩, ?_⟩
        exact hKt (hKt k12 k23) (hKo W3 (D + 1) _ _ (by omega) hl3 rfl)
      | ret => exact hp.2.elim
      | exit id => exact hp.2.elim
      | goto t => exact hp.2.elim
      | panic c => exact hp.elim
      | outgrown => exact hp.elim
    · exact hI.alloc _ (hI.alloc _ h0)
    · rintro e W2 ⟨⟨v, rfl⟩, h, hl, hd⟩
      refine ⟨none, _, run_endLoop hl (by simp), ?_⟩
      exact hdone D _ (by omega) (put _ _ h hl rfl) ((World.putObj_heap_other (by omega)).trans hd)
end law
/-- Whatever cells do not lie in block U lie as they lay. -/
def KpX (U : Nat) (W W' : World) : Prop := ∀ (B : Nat) (cs : Array Value) (t : TypeId) (fr : Nat × Nat), B ≠ U → W.heap[B]? = some (.cells cs t fr) → W'.heap[B]? = some (.cells cs t fr)
theorem KpX.refl (U : Nat) (W : World) : KpX U W W := fun _ _ _ _ _ h => h
theorem KpX.trans {U : Nat} {X Y Z : World} (h : KpX U X Y) (k : KpX U Y Z) : KpX U X Z := fun B cs t fr hB hx => k B cs t fr hB (h B cs t fr hB hx)
theorem KpX.put {U : Nat} (W : World) (l : Nat) (o o' : Obj) (h : W.heap[l]? = some o) (hc : o.isCells = false) : KpX U W (W.putObj l o') := fun B cs t fr _ hB => by
  have hg := grownBy_putObj' W l o'
  refine (hg.block B (Array.getElem?_eq_some_iff.1 hB).1 (fun e => ?_)).trans hB
  have := Option.some.inj e
  subst this
  rw [h] at hB
  cases hB
  cases hc
theorem KpX.set {U : Nat} (W : World) (i : Nat) (v : Value) : KpX U W (W.setCell ⟨U, i, none⟩ v) := fun B _ _ _ hB hx => (Below.heap_setCell W ⟨U, i, none⟩ v B hB).trans hx
theorem KpX.blk {U : Nat} {W W' : World} (h : KpX U W W') {B : Nat} {cs : Array Value} {t : TypeId} (hB : B ≠ U) (hx : Blk W B cs t) : Blk W' B cs t := h B cs t _ hB hx
end Go.Proofs.YtjmnakkkimgifaaDoor
namespace Go.Proofs.YtjmnakkkimgifaaDoor
open Go Go.RowKit Go.Shelf
/-- What tree.check answers at one node. -/
def chkN (t : List Nd) (v : Int) : Int := if chkE t ≠ 0 then chkE t else if 0 ≤ v ∧ v < t.length then 0 else 3
set_option maxRecDepth 100000 in
set_option maxHeartbeats 1000000 in
theorem tcheck_any (a : Option Addr) (n c : Nat) (t : List Nd) (b : Option Addr) (cb : Nat) (v : Int) (w : World) (hn : t.length = n) (hN : n ≤ 1152921504606846976) (hA : Rd w a (fl encNd t)) (hB : Rd w b (fl encI [v])) (hS : ∀ v, v < n → (nS t v).size ≤ 9223372036854775807) :
    Calls Tryd.prog 52 #[.slice a n c, .slice b 1 cb] w fun e w' => e = .returned (.int .i64 (chkN t v)) ∧ Below w.heap.size w w' := by
  have HC := Lib.hid (check_any a n c t w hn hN hA hS)
  have HB := Lib.hid hB
  have HCN : Hid (chkN t v = if chkE t ≠ 0 then chkE t else if 0 ≤ v ∧ v < n then 0 else 3) := by show _ = _; unfold chkN; rw [hn]
  clear hn hA hB hS
  go_enter Tryd.func52, Tryd.ntmps52
  go_wp2_with fail
  refine HC.out.mono ?_
  rintro e w1 ⟨rfl, hb1⟩
  have HB1 := Lib.hid hb1
  have HR := Lib.hid (HB.out.bl hb1)
  clear hb1 HC HB
  by_cases h0 : chkE t = 0
  · rw [if_neg (fun h => h h0)] at HCN
    rw [h0]
    clear h0
    obtain ⟨b1, o1, rfl, _, hc1⟩ := rdI HR.out (by simp)
    have G := hc1 0 (by simp)
    have G0 : w1.cell? ⟨b1, o1, none⟩ = some (.int .i64 v) := G
    clear hc1 G
    go_wp2_with fail
    go_loopw [15] (fun x wr => ∃ k : Nat, k ≤ 1 ∧ x = .int .i64 k ∧ wr = w1 ∧ (k = 1 → 0 ≤ v ∧ v < n)) (fun x _ => 1 - (intOf x).toNat)
    case atStart => exact ⟨0, by omega, rfl, rfl, fun h => by omega⟩
    case round =>
      obtain ⟨k, hk, rfl, rfl, hv⟩ := hrel
      by_cases hlt : k < 1
      · obtain rfl : k = 0 := by omega
        by_cases q1 : v < 0
        · have d1 : decide (v < 0) = true := by simpa using q1
          have HV : Hid (chkN t v = 3) := by show _ = _; rw [HCN.out, if_neg (by omega)]
          clear q1 hv
          go_wp2_with fail
          go_ret
          exact ⟨by rw [HV.out] <;> rfl, HB1.out⟩
        · have d1 : decide (v < 0) = false := by simpa using q1
          by_cases q2 : v < n
          · have d2 : decide ((n : Int) ≤ v) = false := by simpa using q2
            have hv2 : 0 ≤ v ∧ v < n := by omega
            clear hv
            go_wp2_with fail
            go_roundw
            case rel => exact ⟨1, by omega, by go_num, by trivial, fun _ => hv2⟩
            case measure => simp [intOf] <;> omega
          · have d2 : decide ((n : Int) ≤ v) = true := by simp; omega
            have HV : Hid (chkN t v = 3) := by show _ = _; rw [HCN.out, if_neg (by omega)]
            clear q1 q2 hv
            go_wp2_with fail
            go_ret
            exact ⟨by rw [HV.out] <;> rfl, HB1.out⟩
      · obtain rfl : k = 1 := by omega
        have HV : Hid (chkN t v = 0) := by show _ = _; rw [HCN.out, if_pos (hv rfl)]
        clear hv
        go_wp2_with fail
        go_ret
        exact ⟨by rw [HV.out] <;> rfl, HB1.out⟩
  · have HV : Hid (chkN t v = chkE t) := by show _ = _; rw [HCN.out, if_pos h0]
    obtain ⟨E, hE⟩ : ∃ E, chkE t = E := ⟨_, rfl⟩
    rw [hE] at HV h0 ⊢
    have d0 : (E == 0) = false := by simp [h0]
    have d1 : (E != 0) = true := by simp [h0]
    clear hE h0 HCN
    go_wp2_with fail
    go_ret
    exact ⟨by rw [HV.out] <;> rfl, HB1.out⟩
theorem up_any (a : Option Addr) (n c : Nat) (v : Int) (w : World) :
    Calls Tryd.prog 53 #[.slice a n c, .int .i64 v] w fun e w' => e = .returned (.func (.func 71) #[] #[.pointer (some ⟨w.heap.size + 1, 0, none⟩), .pointer (some ⟨w.heap.size, 0, none⟩)]) ∧ w' = (w.alloc (.cells #[.slice a n c] 33)).alloc (.cells #[.int .i64 v] 3) := by
  go_enter Tryd.func53, Tryd.ntmps53
  go_wp2
  go_ret
  exact ⟨rfl, rfl⟩
theorem KpX.cell {U : Nat} {W W' : World} (h : KpX U W W') {p : Addr} (hp : p.block ≠ U) {v : Value} (hc : W.cell? p = some v) : W'.cell? p = some v := by
  have key : ∀ o, W.heap[p.block]? = some o → W'.heap[p.block]? = some o ∨ o.isCells = false := fun o ho => by
    cases o with
    | cells cs t fr => exact .inl (h p.block cs t fr hp ho)
    | _ => exact .inr rfl
  unfold World.cell? at hc ⊢
  cases ho : W.heap[p.block]? with
  | none => rw [ho] at hc; cases hc
  | some o =>
    rcases key o ho with h1 | h1
    · rw [h1]; rw [ho] at hc; exact hc
    · rw [ho] at hc
      cases o <;> first | (cases h1; done) | (simp at hc)
theorem cell_other {W : World} {b o V i : Nat} (h : b ≠ V) (v : Value) : (W.setCell ⟨V, i, none⟩ v).cell? ⟨b, o, none⟩ = W.cell? ⟨b, o, none⟩ := by
  unfold World.cell?
  rw [Below.heap_setCell W ⟨V, i, none⟩ v b h]
/-- V's number, as a measure. -/
def valV (V : Nat) (w : World) : Nat := match w.cell? ⟨V, 0, none⟩ with
  | some (.int _ x) => (x + 1).toNat
  | _ => 0
set_option maxRecDepth 100000 in
set_option maxHeartbeats 2000000 in
/-- tree.up's iterator gives the nodes on the way, the node first. -/
theorem up_gives (m n V T U c v : Nat) (a : Option Addr) (t : List Nd) (w : World) (hn : t.length = n) (hP : ∀ v, 0 < v → v < n → 0 ≤ nP t v ∧ nP t v < v) (h0 : nP t 0 = -1) (hv : v < n) (hm : 1 ≤ m)
    (hVB : Blk w V #[.int .i64 v] 3) (hTB : Blk w T #[.slice a n c] 33) (hR : Rd w a (fl encNd t)) (hVU : V ≠ U) (hTU : T ≠ U) (hVT : V ≠ T) (hbU : ∀ b o, a = some ⟨b, o, none⟩ → b ≠ U ∧ b ≠ V) :
    GivesV Fence.wide m Tryd.prog 71 #[.pointer (some ⟨V, 0, none⟩), .pointer (some ⟨T, 0, none⟩)] (fun x : Nat => #[.int .i64 x]) (KpX U) V (pthF t n v).reverse w := fun l J W hW hJV hY hJ0 => by
  obtain ⟨b, o, rfl, hb, hc⟩ := rdNd (hR.bl hW) (by omega)
  obtain ⟨hb1, hb2⟩ := hbU b o rfl
  have HY := Lib.hid hY
  have HN := Lib.hid hn
  have HP := Lib.hid hP
  have H0 := Lib.hid h0
  have HJ := Lib.hid hJ0
  have HJV := Lib.hid hJV
  have HV0 := Lib.hid (hVB.below hW)
  have HT0 := Lib.hid (hTB.below hW)
  have HC := Lib.hid (fun i (hi : i < n) => (hc i (by rw [hn]; exact hi)).1)
  clear hY hn hP h0 hJ0 hJV hVB hTB hR hc hbU hW
  refine callsIn_of_wp Tryd.func71 rfl trivial ?_ rfl
  simp only [Tryd.ntmps71, List.size_toArray, List.length_cons, List.length_nil, Nat.reduceAdd, Nat.reduceSub, Array.replicate_succ, Array.replicate_zero, List.push_toArray, List.append_toArray, List.nil_append, List.cons_append]
  gi_wp2
  gi_loopw [] (fun wx => ∃ (x : Int) (pre : List Nat), J pre wx ∧ Hid (Blk wx V #[.int .i64 x] 3) ∧ Hid (Blk wx T #[.slice (some ⟨b, o, none⟩) n c] 33) ∧ Hid (∀ i, i < n → wx.cell? ⟨b, o + i * 2, none⟩ = some (.int .i64 (nP t i))) ∧
    ((x = -1 ∧ pre = (pthF t n v).reverse) ∨ ∃ u : Nat, x = u ∧ u < n ∧ pre ++ (pthF t n u).reverse = (pthF t n v).reverse)) (fun wx => valV V wx)
  case atStart => exact ⟨v, [], HJ.out, HV0, HT0, HC, .inr ⟨v, rfl, hv, rfl⟩⟩
  case round =>
    clear HV0 HT0 HC HJ
    obtain ⟨x, pre, hJ, hV, hT, hC, h | ⟨u, rfl, hu, hpre⟩⟩ := hrel
    · obtain ⟨rfl, rfl⟩ := h
      have c1 : wr.cell? ⟨V, 0, none⟩ = some (.int .i64 (-1)) := hV.out.cell 0
      gi_wp2
      go_end0
      exact ⟨⟨_, rfl⟩, hJ⟩
    · have c1 : wr.cell? ⟨V, 0, none⟩ = some (.int .i64 u) := hV.out.cell 0
      have hsp : (pthF t n u).reverse = u :: (if u = 0 then [] else (pthF t n (nP t u).toNat).reverse) := by
        by_cases e : u = 0
        · subst e; rw [pth_zero, if_pos rfl]; rfl
        · rw [pth_succ HP.out (by omega) hu, if_neg e]; simp
      rw [hsp] at hpre
      have hpx : pre ++ [u] <+: (pthF t n v).reverse := ⟨_, by rw [← hpre]; simp; rfl⟩
      obtain ⟨fn, tmps, assign, body, hy, hR2⟩ := HY.out pre u wr hJ hpx
      have HPRE := Lib.hid hpre
      clear hpre hsp hpx
      gi_wp2
      refine hR2.mono ?_
      rintro e W3 ⟨rfl, hJ3, hk3⟩
      have hV3 := hk3.blk hVU hV.out
      have HT3 := Lib.hid (hk3.blk hTU hT.out)
      have HC3 : Hid (∀ i, i < n → W3.cell? ⟨b, o + i * 2, none⟩ = some (.int .i64 (nP t i))) := fun i hi => hk3.cell (p := ⟨b, o + i * 2, none⟩) hb1 (hC.out i hi)
      have e1 : W3.cell? ⟨V, 0, none⟩ = some (.int .i64 u) := hV3.cell 0
      have e2 : W3.cell? ⟨T, 0, none⟩ = some (.slice (some ⟨b, o, none⟩) n c) := HT3.out.cell 0
      have e3 := HC3.out u hu
      have f1 : W3.frozen? ⟨V, 0, none⟩ = false := hV3.free 0
      have HV3 := Lib.hid hV3
      have HM : Hid (valV V wr = u + 1) := by show _ = _; unfold valV; rw [c1]; show ((u : Int) + 1).toNat = u + 1; omega
      clear hV3 hk3 hV hT hC c1 hR2 hy hJ
      gi_wp2
      have hV4 : Hid (Blk (W3.setCell ⟨V, 0, none⟩ (.int .i64 (nP t u))) V #[.int .i64 (nP t u)] 3) := by
        have h := HV3.out.set 0 (.int .i64 (nP t u))
        show Blk _ _ _ _
        simpa using h
      have hT4 : Hid (Blk (W3.setCell ⟨V, 0, none⟩ (.int .i64 (nP t u))) T #[.slice (some ⟨b, o, none⟩) n c] 33) := HT3.out.other (Ne.symm hVT) _ _
      have hC4 : Hid (∀ i, i < n → (W3.setCell ⟨V, 0, none⟩ (.int .i64 (nP t u))).cell? ⟨b, o + i * 2, none⟩ = some (.int .i64 (nP t i))) := fun i hi => by
        rw [cell_other hb2]; exact HC3.out i hi
      have hM4 : Hid (valV V (W3.setCell ⟨V, 0, none⟩ (.int .i64 (nP t u))) = (nP t u + 1).toNat) := by
        show _ = _; unfold valV; rw [hV4.out.cell 0]; rfl
      have hJ4 := HJV.out _ _ (.int .i64 (nP t u)) hJ3
      go_roundw
      case rel =>
        refine ⟨nP t u, pre ++ [u], hJ4, hV4, hT4, hC4, ?_⟩
        by_cases e : u = 0
        · subst e
          left
          refine ⟨H0.out, ?_⟩
          rw [← HPRE.out, if_pos rfl]
        · right
          obtain ⟨p0, p1⟩ := HP.out u (by omega) hu
          refine ⟨(nP t u).toNat, by omega, by omega, ?_⟩
          rw [← HPRE.out, if_neg e]; simp
      case measure =>
        rw [hM4.out, HM.out]
        by_cases e : u = 0
        · subst e; rw [H0.out]; decide
        · obtain ⟨p0, p1⟩ := HP.out u (by omega) hu
          omega
end Go.Proofs.YtjmnakkkimgifaaDoor
namespace Go.Proofs.YtjmnakkkimgifaaDoor
open Go Go.RowKit Go.Shelf
attribute [local go_sem] Oper.semAt_some
/-- Blocks below w's end lie as they lay, but U and V. -/
structure But3 (U V : Nat) (w W : World) : Prop where
  os : W.os = w.os
  tape : W.tape = w.tape
  output : W.output = w.output
  size : w.heap.size ≤ W.heap.size
  block : ∀ k, k < w.heap.size → k ≠ U → k ≠ V → W.heap[k]? = w.heap[k]?
theorem But3.refl (U V : Nat) (w : World) : But3 U V w w := ⟨rfl, rfl, rfl, Nat.le_refl _, fun _ _ _ _ => rfl⟩
theorem But3.grown {U V : Nat} {w W W' : World} {row : Option Nat} (h : But3 U V w W) (hg : W.grownBy W' row) (hr : ∀ r, row = some r → w.heap.size ≤ r) : But3 U V w W' :=
  ⟨hg.os.trans h.os, hg.tape.trans h.tape, hg.output.trans h.output, Nat.le_trans h.size hg.size, fun k hk h1 h2 => (hg.block k (Nat.lt_of_lt_of_le hk h.size) (fun e => by have := hr k e.symm; omega)).trans (h.block k hk h1 h2)⟩
theorem But3.setV {U V : Nat} {w W : World} (h : But3 U V w W) (i : Nat) (v : Value) : But3 U V w (W.setCell ⟨V, i, none⟩ v) :=
  ⟨h.os, h.tape, h.output, by simp [World.setCell]; exact h.size, fun k hk h1 h2 => (Below.heap_setCell W ⟨V, i, none⟩ v k h2).trans (h.block k hk h1 h2)⟩
theorem But3.setU {U V : Nat} {w W : World} (h : But3 U V w W) (i : Nat) (v : Value) : But3 U V w (W.setCell ⟨U, i, none⟩ v) :=
  ⟨h.os, h.tape, h.output, by simp [World.setCell]; exact h.size, fun k hk h1 h2 => (Below.heap_setCell W ⟨U, i, none⟩ v k h1).trans (h.block k hk h1 h2)⟩
theorem But3.drewN {U V : Nat} {w W : World} (h : But3 U V w W) (n : Nat) : But3 U V w (W.drewN n) := ⟨h.os, h.tape, h.output, h.size, h.block⟩
/-- The set so far, with the k-th leaf if v is among the nodes. -/
def orK (A q v : Nat) (l : List Nat) : Nat := if v ∈ l then A ||| q else A
theorem orK_snoc (A q v : Nat) (l : List Nat) (x : Nat) : orK A q v (l ++ [x]) = if x = v then orK A q v l ||| q else orK A q v l := by
  unfold orK
  by_cases e : x = v
  · subst e
    by_cases h : x ∈ l
    · rw [if_pos (by simp), if_pos rfl, if_pos h]
      apply Nat.eq_of_testBit_eq
      intro i
      simp only [Nat.testBit_or, Bool.or_assoc, Bool.or_self]
    · rw [if_pos (by simp), if_pos rfl, if_neg h]
  · rw [if_neg e]
    by_cases h : v ∈ l
    · rw [if_pos (by simp [h]), if_pos h]
    · rw [if_neg (by simp [h]; exact fun h2 => e h2.symm), if_neg h]
/-- Clade's loop: the set so far, the deferred blocks of the ranges. -/
structure ClI (U : Nat) (w4 : World) (f : Nat) (Ds : List Nat) (W : World) : Prop where
  cu : Blk W U #[.int .u64 (f : Nat)] 52
  but : But3 U U w4 W
  ds : ∀ D ∈ Ds, w4.heap.size ≤ D ∧ W.heap[D]? = some (.deferred (some []))
  nd : Ds.Nodup
theorem But3.blk {U V : Nat} {w W : World} (h : But3 U V w W) {B : Nat} {cs : Array Value} {t : TypeId} (hx : Blk w B cs t) (h1 : B ≠ U) (h2 : B ≠ V) : Blk W B cs t := (h.block B hx.lt h1 h2).trans hx
theorem But3.cell {U V : Nat} {w W : World} (h : But3 U V w W) {p : Addr} (hp : p.block < w.heap.size) (h1 : p.block ≠ U) (h2 : p.block ≠ V) : W.cell? p = w.cell? p := by
  unfold World.cell?
  rw [h.block p.block hp h1 h2]
theorem But3.rd {U V : Nat} {w W : World} (h : But3 U V w W) {a : Option Addr} {cs : List Value} (hR : Rd w a cs) (hb : ∀ b o, a = some ⟨b, o, none⟩ → b ≠ U ∧ b ≠ V) : Rd W a cs := by
  intro h0
  obtain ⟨b, o, e, hlt, hc⟩ := hR h0
  obtain ⟨h1, h2⟩ := hb b o e
  exact ⟨b, o, e, Nat.lt_of_lt_of_le hlt h.size, fun i hi => (h.cell (p := ⟨b, o + i, none⟩) hlt h1 h2).trans (hc i hi)⟩
theorem ClI.next {U H f f' D : Nat} {w4 W w6 W' : World} {Ds : List Nat} (h : ClI U w4 f Ds W) (hU : U < w4.heap.size) (hH : H = W.heap.size) (h6 : Below W.heap.size W w6) (hb : But3 U (H + 1 + 1) w6 W') (hz : W.heap.size < w6.heap.size) (hu : Blk W' U #[.int .u64 (f' : Nat)] 52)
    (hD : w6.heap.size ≤ D) (hDD : W'.heap[D]? = some (.deferred (some []))) : ClI U w4 f' (D :: Ds) W' := by
  have hs := h.but.size
  have hs6 := h6.size
  have key : ∀ k, k < W.heap.size → k ≠ U → W'.heap[k]? = W.heap[k]? := fun k hk hku => (hb.block k (by omega) hku (by omega)).trans (h6.block k hk)
  refine ⟨hu, ⟨hb.os.trans (h6.os.trans h.but.os), hb.tape.trans (h6.tape.trans h.but.tape), hb.output.trans (h6.output.trans h.but.output), by have := hb.size; omega, fun k hk h1 _ => (key k (by omega) h1).trans (h.but.block k hk h1 h1)⟩, ?_, ?_⟩
  · intro D' hD'
    rcases List.mem_cons.1 hD' with rfl | hD'
    · exact ⟨by omega, hDD⟩
    · obtain ⟨d1, d2⟩ := h.ds D' hD'
      exact ⟨d1, (key D' (Array.getElem?_eq_some_iff.1 d2).1 (by omega)).trans d2⟩
  · refine List.nodup_cons.2 ⟨fun hx => ?_, h.nd⟩
    have := (Array.getElem?_eq_some_iff.1 (h.ds D hx).2).1
    omega
set_option maxRecDepth 100000 in
set_option maxHeartbeats 4000000 in
theorem clade_any (a : Option Addr) (n c v : Nat) (t : List Nd) (w : World) (hn : t.length = n) (hok : TreeOk t) (hL : (lvT t).length ≤ 64) (hv : v < n) (hA : Rd w a (fl encNd t)) (hS : ∀ v, v < n → (nS t v).size ≤ 9223372036854775807) :
    Calls Tryd.prog 29 #[.slice a n c, .int .i64 v] w fun e w' => e = .returned (.tuple #[.int .u64 (cl t v : Nat), .int .i64 0]) ∧ Below w.heap.size w w' := by
  have hn63 : n ≤ 63 := by have := hok.2.1; omega
  have hCN : chkN t v = 0 := by unfold chkN; rw [if_neg (fun h => h (chkE_good hok)), hn, if_pos (by omega)]
  have HPP : Hid (∀ v, 0 < v → v < n → 0 ≤ nP t v ∧ nP t v < v) := fun v h1 h2 => tree_par hok v h1 (by rw [hn]; exact h2)
  have HP0 : Hid (nP t 0 = -1) := by
    have h := hok.2.2 0 (by have := hok.1; omega)
    have h1 := h.1; have h2 := h.2.1
    show _ = _
    simp at h2; omega
  have HLL : Hid (lvT t = lvsL t n) := by show _ = _; unfold lvT; rw [if_pos (chkE_good hok), hn]
  have HLT : Hid (∀ k, k < (lvT t).length → vA (lvT t) k < n) := fun k hk => by
    rw [HLL.out] at hk ⊢
    exact (lvs_at t n k hk).1
  have hle : (lvT t).length ≤ n := by rw [HLL.out]; exact lvsL_le t n
  have HST : Hid (∀ k, k < (lvT t).length → clF t n v (k + 1) = orK (clF t n v k) (2 ^ k) v (pthF t n (vA (lvT t) k)).reverse) := fun k hk => by
    show (if _ then _ else _) = _
    unfold orK
    by_cases e : cmN t n (vA (lvT t) k) v = v
    · rw [if_pos e, if_pos (by rw [List.mem_reverse]; exact (cmN_iff HPP.out (HLT.out k hk) hv).1 e)]
    · rw [if_neg e, if_neg (by rw [List.mem_reverse]; exact fun h => e ((cmN_iff HPP.out (HLT.out k hk) hv).2 h))]
  have HLTC := Lib.hid (clF_lt t n v)
  have HFE := Lib.hid (clF_cl hn hok hv)
  obtain ⟨F, hF⟩ : ∃ F, clF t n v = F := ⟨_, rfl⟩
  have HF0 : Hid (F 0 = 0) := by show _ = _; rw [← hF]; rfl
  rw [hF] at HST HLTC HFE
  have hb0 := bl_alloc (bl_alloc (Below.refl _ w) (.cells #[.int .i64 v] 3)) (.cells #[.int .i64 v] 3)
  have HC := Lib.hid (tcheck_any a n c t (some ⟨w.heap.size + 1, 0, none⟩) 1 v ((w.alloc (.cells #[.int .i64 v] 3)).alloc (.cells #[.int .i64 v] 3)) hn (by omega) (hA.bl hb0) (by
    have hb := Blk.new2 w (.cells #[.int .i64 v] 3) #[.int .i64 v] 3
    intro _
    refine ⟨w.heap.size + 1, 0, rfl, hb.lt, fun i hi => ?_⟩
    obtain rfl : i = 0 := by simp [fl, encI] at hi; omega
    exact hb.cell 0) hS)
  rw [hCN] at HC
  have HN := Lib.hid hn
  have HA := Lib.hid (hA.bl hb0)
  have HV0 := Lib.hid ((Blk.new w #[.int .i64 v] 3).alloc (.cells #[.int .i64 v] 3))
  obtain ⟨ls, hls⟩ : ∃ x, x = lvT t := ⟨_, rfl⟩
  rw [← hls] at HLT hle HST hL HFE
  have HLS : Hid (ls = lvsL t n) := by show _ = _; rw [hls, HLL.out]
  obtain ⟨z, hz⟩ : ∃ x, x = ls.length := ⟨_, rfl⟩
  rw [← hz] at HLT hle HST hL HFE
  have HZ := Lib.hid hz
  clear hn hok hA hS hF hls hz HLL hCN
  refine (callsIn_wide (n := 10)).1 ?_
  refine callsIn_of_wp_marks Tryd.func29 rfl trivial ?_ rfl
  simp only [Tryd.ntmps29, List.size_toArray, List.length_cons, List.length_nil, Nat.reduceAdd, Nat.reduceSub, Array.replicate_succ, Array.replicate_zero, List.push_toArray, List.append_toArray, List.nil_append, List.cons_append]
  refine wpIn_wide.2 ?_
  go_wp2_with fail
  refine HC.out.mono ?_
  rintro e w2 ⟨rfl, hb2⟩
  have HB2 := Lib.hid (bl_trans hb0 hb2)
  have HR2 := Lib.hid (HA.out.bl hb2)
  have HV2 := Lib.hid (HV0.out.below hb2)
  obtain ⟨Bv, hBv⟩ : ∃ x, x = w.heap.size := ⟨_, rfl⟩
  rw [← hBv] at HV2 ⊢
  have HBV := Lib.hid hBv
  clear hb0 hb2 HC HA HV0 hBv
  go_wp2_with fail
  have hU := Blk.new w2 #[.int .u64 0] 52
  have hb3 := bl_alloc (Below.refl _ w2) (.cells #[.int .u64 0] 52)
  refine (leaves_any a n c t _ HN.out (by omega) (HR2.out.bl hb3) (fun v h1 h2 => by have := HPP.out v h1 h2; omega)).mono ?_
  rintro e w4 ⟨x4, rfl, ho4, hb4⟩
  rw [← HLS.out, ← HZ.out] at ho4
  obtain ⟨A4, c4, rfl, hA4⟩ := owns_slice ho4
  have HRL := Lib.hid (rd_of_owns ho4)
  have hU4 := hU.below hb4
  have HB4 := Lib.hid (bl_trans HB2.out (bl_trans hb3 hb4))
  have HR4 := Lib.hid (HR2.out.bl (bl_trans hb3 hb4))
  have HV4 := Lib.hid (HV2.out.below (bl_trans hb3 hb4))
  have hne : Bv < w2.heap.size := HV2.out.lt
  have hlow : Hid (∀ b o, a = some ⟨b, o, none⟩ → b < w2.heap.size) := fun b o e => by
    obtain ⟨b', o', e', hlt, _⟩ := rdNd HR2.out (by rw [HN.out]; omega)
    rw [e] at e'; cases e'; exact hlt
  have hws : w.heap.size ≤ w2.heap.size := HB2.out.size
  obtain ⟨U, hUe⟩ : ∃ U, U = w2.heap.size := ⟨_, rfl⟩
  have hA4' : Hid (∀ b o, A4 = some ⟨b, o, none⟩ → z ≠ 0 → U < b) := fun b o e hz0 => by
    rcases hA4 with h | ⟨g, hg1, hg2, e2⟩
    · exact absurd h hz0
    · rw [e2] at e; cases e; rw [World.size_alloc] at hg1; omega
  clear hA4
  rw [← hUe] at hU4 hne hlow hws ⊢
  have HU4 := Lib.hid hU4
  clear ho4 hb3 hb4 hU hU4 hUe
  go_wp2_with fail
  have hU4l : U < w4.heap.size := HU4.out.lt
  have HI0 : ClI U w4 (F 0) [] w4 := ⟨by rw [HF0.out]; exact HU4.out, But3.refl _ _ _, fun D h => (by cases h), List.nodup_nil⟩
  refine wp_loop_ghost_k (fun r act W => ∃ (k : Nat) (Ds : List Nat) (u : Nat → Value), r = z - k ∧ k ≤ z ∧ act = { tmps := #[.slice a n c, .int .i64 v, undef, .pointer (some ⟨Bv, 0, none⟩), .int .u64 0, .int .i64 0, .int .i64 0, .pointer (some ⟨U, 0, none⟩), u 8, u 9, u 10, .slice a n c, .int .i64 v, .slice (some ⟨Bv + 1, 0, none⟩) 1 1, .int .i64 0, .int .i64 0, .bool false, undef, .slice a n c, .slice A4 z c4, .int .i64 z, .int .i64 k, u 22, u 23, u 24, u 25, u 26, u 27, u 28, u 29, u 30, u 31, u 32, u 33, u 34, u 35, u 36, u 37, u 38], defers := dfs Ds } ∧ ClI U w4 (F k) Ds W) z ?start ?round
  case start => exact ⟨0, [], fun _ => undef, rfl, by omega, rfl, HI0⟩
  case round =>
    rintro r act W ⟨k, Ds, u, rfl, hk, rfl, hI⟩ J K hJ hK
    by_cases hlt : k < z
    · obtain ⟨b1, o1, rfl, hb1, hca⟩ := rdI (hI.but.rd HRL.out (fun b o e => by have := hA4'.out b o e (by omega); omega)) (by rw [iN_len, ← HZ.out]; omega)
      have G := hca k (by rw [iN_len, ← HZ.out]; exact hlt)
      rw [iN_get] at G
      have hyn := HLT.out k hlt
      have HSK := Lib.hid (HST.out k hlt)
      have hfk := HLTC.out k
      have h64 : 2 ^ k < 18446744073709551616 := Nat.pow_lt_pow_right (m := k) (n := 64) (by omega) (by omega)
      clear hca
      generalize vA ls k = y at *
      have HI := Lib.hid hI
      clear hI
      go_wp2_with fail
      refine (up_any a n c y _).mono ?_
      rintro e w6 ⟨rfl, rfl⟩
      obtain ⟨H, hH⟩ : ∃ H, H = W.heap.size := ⟨_, rfl⟩
      simp only [World.size_alloc]
      have hbK := ((Blk.new W #[.int .i64 k] 3).alloc (.cells #[.slice a n c] 33)).alloc (.cells #[.int .i64 y] 3)
      have hbT := (Blk.new2 W (.cells #[.int .i64 k] 3) #[.slice a n c] 33).alloc (.cells #[.int .i64 y] 3)
      have hbV := Blk.new ((W.alloc (.cells #[.int .i64 k] 3)).alloc (.cells #[.slice a n c] 33)) #[.int .i64 y] 3
      have hbl6 : Below W.heap.size W (((W.alloc (.cells #[.int .i64 k] 3)).alloc (.cells #[.slice a n c] 33)).alloc (.cells #[.int .i64 y] 3)) := bl_alloc (bl_alloc (bl_alloc (Below.refl _ _) _) _) _
      have hz6 : (((W.alloc (.cells #[.int .i64 k] 3)).alloc (.cells #[.slice a n c] 33)).alloc (.cells #[.int .i64 y] 3)).heap.size = H + 1 + 1 + 1 := by simp only [World.size_alloc, hH]
      simp only [World.size_alloc] at hbV
      obtain ⟨w6, hw6⟩ : ∃ x, x = (((W.alloc (.cells #[.int .i64 k] 3)).alloc (.cells #[.slice a n c] 33)).alloc (.cells #[.int .i64 y] 3)) := ⟨_, rfl⟩
      rw [← hw6] at hbK hbT hbV hbl6 hz6 ⊢
      rw [← hH] at hbK hbT hbV ⊢
      have HH := Lib.hid hH
      have HBK := Lib.hid hbK
      have HBT := Lib.hid hbT
      have HBV6 := Lib.hid hbV
      have HBL6 := Lib.hid hbl6
      have HZ6 := Lib.hid hz6
      have HUH : Hid (U < H) := by show _ < _; have := HI.out.but.size; omega
      have HU6 := Lib.hid (HI.out.cu.below hbl6)
      have HB6v := Lib.hid ((HI.out.but.blk HV4.out (by omega) (by omega)).below hbl6)
      have HR6 := Lib.hid ((HI.out.but.rd HR4.out (fun b o e => by have := hlow.out b o e; omega)).bl hbl6)
      clear hw6 hbK hbT hbV hbl6 hz6 hH G
      go_wp2_with fail
      refine (wpIn_wide (n := 10)).1 ?_
      refine wpIn_range_V rfl (by omega) (gf := 71) (lb := #[.pointer (some ⟨H + 1 + 1, 0, none⟩), .pointer (some ⟨H + 1, 0, none⟩)]) rfl trivial (enters_of Tryd.func71 (by kernel_rfl) rfl)
        (up_gives 9 n (H + 1 + 1) (H + 1) U c y a t w6 HN.out HPP.out HP0.out hyn (by omega) HBV6.out HBT.out HR6.out (by have := HUH.out; omega) (by have := HUH.out; omega) (by omega) (fun b o e => by have := hlow.out b o e; have := HUH.out; omega))
        KpX.trans (fun W l o o' _ h hc => KpX.put W l o o' h hc) (by have := HZ6.out; omega) (fun _ => rfl) (fun pre W' => Blk W' U #[.int .u64 (orK (F k) (2 ^ k) v pre : Nat)] 52 ∧ But3 U (H + 1 + 1) w6 W')
        (fun ys W W' row h hg hr => ⟨h.1.grown hg (fun e => by have := (hr U e.symm).1; have := HZ6.out; have := HUH.out; omega), h.2.grown hg (fun r e => (hr r e).1)⟩)
        (fun pre W' v' h => ⟨h.1.other (by have := HUH.out; omega) _ _, h.2.setV _ _⟩) ⟨by unfold orK; rw [if_neg (by simp)]; exact HU6.out, But3.refl _ _ _⟩
        (fun x => { tmps := #[.slice a n c, .int .i64 v, undef, .pointer (some ⟨Bv, 0, none⟩), .int .u64 0, .int .i64 0, .int .i64 0, .pointer (some ⟨U, 0, none⟩), .pointer (some ⟨H, 0, none⟩), .int .i64 y, .int .i64 (x : Int), .slice a n c, .int .i64 v, .slice (some ⟨Bv + 1, 0, none⟩) 1 1, .int .i64 0, .int .i64 0, .bool false, undef, .slice a n c, .slice (some ⟨b1, o1, none⟩) z c4, .int .i64 z, .int .i64 k, .bool true, .int .i64 k, .pointer (some ⟨b1, o1 + k, none⟩), .int .i64 y, .slice a n c, .int .i64 y, .func (.func 71) #[] #[.pointer (some ⟨H + 1 + 1, 0, none⟩), .pointer (some ⟨H + 1, 0, none⟩)], .int .i64 (x : Int), u 30, u 31, u 32, u 33, u 34, u 35, u 36, u 37, u 38], defers := [] }) ?assign ?body ?done
      case assign =>
        intro l x W' K hK
        gi_wp2
        exact hK
      case body =>
        rintro l pre x W' ⟨h1, h2⟩ _
        have hor := orK_snoc (F k) (2 ^ k) v pre x
        have hlt2 : orK (F k) (2 ^ k) v pre < 18446744073709551616 := by
          unfold orK
          split
          · exact Nat.or_lt_two_pow (n := 64) (by omega) h64
          · omega
        have hUl := HUH.out
        have hz6 := HZ6.out
        have c1 : W'.cell? ⟨Bv, 0, none⟩ = some (.int .i64 v) := (h2.blk HB6v.out (by omega) (by omega)).cell 0
        have c2 : W'.cell? ⟨U, 0, none⟩ = some (.int .u64 (orK (F k) (2 ^ k) v pre : Nat)) := h1.cell 0
        have c3 : W'.cell? ⟨H, 0, none⟩ = some (.int .i64 k) := (h2.blk HBK.out (by omega) (by omega)).cell 0
        have f2 : W'.frozen? ⟨U, 0, none⟩ = false := h1.free 0
        have HOR := Lib.hid hor
        have HB1 := Lib.hid h1
        have HB2 := Lib.hid h2
        clear hor h1 h2
        generalize orK (F k) (2 ^ k) v pre = A at *
        by_cases e : x = v
        · rw [if_pos e] at HOR
          have hbo := bits_or hlt2 h64
          have ew : ((2 : Int) ^ k) = ((2 ^ k : Nat) : Int) := by simp
          have HW : Hid (IntKind.u64.wrap (2 ^ k) = ((2 ^ k : Nat) : Int)) := by show _ = _; rw [ew, w64 _ h64]
          have hAU : ∀ nq, Blk ((W'.drewN nq).setCell ⟨U, 0, none⟩ (.int .u64 ((A ||| 2 ^ k : Nat) : Int))) U #[.int .u64 ((A ||| 2 ^ k : Nat) : Int)] 52 := fun nq => by
            have h := (HB1.out.drewN nq).set 0 (.int .u64 ((A ||| 2 ^ k : Nat) : Int))
            simpa using h
          have hAB : ∀ nq, But3 U (H + 1 + 1) w6 ((W'.drewN nq).setCell ⟨U, 0, none⟩ (.int .u64 ((A ||| 2 ^ k : Nat) : Int))) := fun nq => (HB2.out.drewN nq).setU _ _
          obtain ⟨r, hr⟩ : ∃ r, A ||| 2 ^ k = r := ⟨_, rfl⟩
          rw [hr] at hbo HOR hAU hAB
          obtain ⟨q, hq⟩ : ∃ q, 2 ^ k = q := ⟨_, rfl⟩
          rw [hq] at hbo HW
          have hw := HW.out
          have HAU := Lib.hid hAU
          have HAB := Lib.hid hAB
          have HE2 := Lib.hid e
          have HOX := HOR.out
          subst e
          clear hr hq ew hfk hlt2 hAU hAB HOR h64
          gi_wp2
          have hmo : Tryd.prog.follows .mixedOrders = true := by kernel_rfl
          gi_region_with_o (fail)
          all_goals exact ⟨(keeps_drewN W' 1).trans (KeepsOthers.setCell _ _ _), KpX.set (W'.drewN 1) 0 _, by rw [HOX]; exact HAU.out 1, HAB.out 1⟩
        · rw [if_neg e] at HOR
          have t1 : ((x : Int) == (v : Int)) = false := by simp; omega
          have t2 : decide ((x : Int) = (v : Int)) = false := by simp; omega
          clear e
          gi_wp2
          exact ⟨KeepsOthers.refl _, KpX.refl _ _, by rw [HOR.out]; exact HB1.out, HB2.out⟩
      case done =>
        rintro D W' hD ⟨h1, h2⟩ hKD
        have hNX := HI.out.next hU4l HH.out HBL6.out h2 (by have := HZ6.out; have := HH.out; omega) (by rw [← HSK.out] at h1; exact h1) hD hKD
        clear h1 h2 hKD
        simp only [Exit.inBlock, Exit.then]
        go_wp2_with fail
        exact Handed.intro (z - (k + 1)) (by omega) (hJ _ _ _ ⟨k + 1, D :: Ds, ex_u rfl (by omega) hNX rfl⟩)
    · obtain rfl : k = z := by omega
      have HI := Lib.hid hI
      have c1 : W.cell? ⟨U, 0, none⟩ = some (.int .u64 (F k : Nat)) := hI.cu.cell 0
      clear hI
      go_wp2_with fail
      refine leaves_all Ds _ HI.out.nd (fun D hD => (HI.out.ds D hD).2) fun w' ht => ⟨_, results_tmp2 rfl _ _ _, ?_⟩
      refine ⟨by rw [HFE.out]; rfl, ht.below ?_ fun D hD => by have := (HI.out.ds D hD).1; have := HB4.out.size; omega⟩
      have hb := HI.out.but
      exact ⟨hb.os.trans HB4.out.os, hb.tape.trans HB4.out.tape, hb.output.trans HB4.out.output, Nat.le_trans HB4.out.size hb.size, fun q hq => (hb.block q (by have := HB4.out.size; omega) (by omega) (by omega)).trans (HB4.out.block q hq)⟩
end Go.Proofs.YtjmnakkkimgifaaDoor
namespace Go.Proofs.YtjmnakkkimgifaaDoor
open Go.RowKit Go.Shelf
/-- Compatible sets. -/
def fitB (x y : Nat) : Bool := decide (x &&& y = 0) || decide (x &&& y = x) || decide (x &&& y = y)
theorem in_bits {x k : Nat} (hx : x < 18446744073709551616) : bits .and .u64 ((x : Int) / 2 ^ k) 1 = ((x / 2 ^ k % 2 : Nat) : Int) := by
  have e : ((x : Int) / 2 ^ k) = ((x / 2 ^ k : Nat) : Int) := by simp
  rw [e, show (1 : Int) = ((1 : Nat) : Int) from rfl, bits_and (Nat.lt_of_le_of_lt (Nat.div_le_self _ _) hx) (by omega), Nat.and_one_is_mod]
/-- A set is wide if it has a language from L to 63. -/
theorem wide_bit {x L : Nat} (hx : x < 18446744073709551616) : wide L x = false ↔ ∀ j, L ≤ j → j < 64 → x.testBit j = false := by
  unfold wide
  simp only [Bool.not_eq_false', decide_eq_true_eq]
  constructor
  · intro h j h1 _
    exact Nat.testBit_lt_two_pow (Nat.lt_of_lt_of_le h (Nat.pow_le_pow_right (n := 2) (by omega) h1))
  · intro h
    refine Nat.lt_pow_two_of_testBit x fun j hj => ?_
    by_cases h64 : j < 64
    · exact h j hj h64
    · exact Nat.testBit_lt_two_pow (Nat.lt_of_lt_of_le hx (Nat.pow_le_pow_right (n := 2) (by omega) (show 64 ≤ j by omega)))
theorem any_take {l : List Nat} {p : Nat → Bool} {k : Nat} (h : l.length ≤ k) (hn : NoneBefore p l k) : l.any p = false := hn.any h
theorem any_at {l : List Nat} {p : Nat → Bool} {k : Nat} (h : k < l.length) (hp : p (vA l k) = true) : l.any p = true := by
  rw [List.any_eq_true]
  exact ⟨l[k], List.getElem_mem h, by rw [← vA_get h]; exact hp⟩
end Go.Proofs.YtjmnakkkimgifaaDoor
namespace Go.Proofs.YtjmnakkkimgifaaDoor
open Go Go.RowKit Go.Shelf
theorem bit_of_ne {x : Nat} (h : x ≠ 0) : ∃ k, x.testBit k = true := by
  refine Classical.byContradiction fun hn => h ?_
  apply Nat.eq_of_testBit_eq
  intro k
  rw [Nat.zero_testBit]
  cases hb : x.testBit k with
  | false => rfl
  | true => exact absurd ⟨k, hb⟩ hn
theorem pth_root (t : List Nd) (n v : Nat) : 0 ∈ pthF t n v := by
  obtain ⟨h1, h2⟩ := pthF_pos t n v
  rw [vA_get h1] at h2
  rw [← h2]; exact List.getElem_mem h1
theorem tok_par {t : List Nd} {n : Nat} (hn : t.length = n) (hok : TreeOk t) : ∀ v, 0 < v → v < n → 0 ≤ nP t v ∧ nP t v < v := fun v h1 h2 => tree_par hok v h1 (by rw [hn]; exact h2)
theorem tok_root {t : List Nd} (hok : TreeOk t) : nP t 0 < 0 := (hok.2.2 0 (by have := hok.1; omega)).1
theorem tok_lv {t : List Nd} {n : Nat} (hn : t.length = n) (hok : TreeOk t) : lvT t = lvsL t n := by unfold lvT; rw [if_pos (chkE_good hok), hn]
theorem tok_bit {t : List Nd} {n k v : Nat} (hn : t.length = n) (hok : TreeOk t) (hk : k < (lvT t).length) (hv : v < n) : (cl t v).testBit k = true ↔ v ∈ pthF t n (vA (lvT t) k) := by
  rw [tok_lv hn hok] at hk ⊢
  exact cl_bit hn (tok_par hn hok) (tok_root hok) hk hv
theorem tok_leaf {t : List Nd} {n k : Nat} (hn : t.length = n) (hok : TreeOk t) (hk : k < (lvT t).length) : vA (lvT t) k < n ∧ leafB t (vA (lvT t) k) = true := by
  rw [tok_lv hn hok] at hk ⊢
  exact ⟨(lvs_at t n k hk).1, (lvs_at t n k hk).2.1⟩
theorem tok_lt {t : List Nd} {n v : Nat} (hn : t.length = n) (hok : TreeOk t) (hv : v < n) : cl t v < 2 ^ (lvT t).length := by
  rw [tok_lv hn hok]
  exact cl_lt (n := (lvsL t n).length) (by rw [hn]; exact Nat.le_refl _) v (by rw [hn]; exact hv)
theorem bit_lt {x k m : Nat} (hx : x < 2 ^ m) (h : x.testBit k = true) : k < m := by
  rcases Nat.lt_or_ge k m with q | q
  · exact q
  · have hp : 2 ^ m ≤ 2 ^ k := Nat.pow_le_pow_right (by omega) q
    rw [Nat.testBit_lt_two_pow (by omega)] at h; cases h
/-- What lies below has fewer leaves. -/
theorem cl_sub {t : List Nd} {n u v : Nat} (hn : t.length = n) (hok : TreeOk t) (hv : v < n) (h : u ∈ pthF t n v) : cl t u &&& cl t v = cl t v := by
  have hP := tok_par hn hok
  have hu : u < n := Nat.lt_of_le_of_lt (pth_lt hP v v (Nat.le_refl _) hv u h) hv
  apply Nat.eq_of_testBit_eq
  intro k
  rw [Nat.testBit_and]
  cases hb : (cl t v).testBit k with
  | false => simp
  | true =>
    have hk := bit_lt (tok_lt hn hok hv) hb
    have h1 := (tok_bit hn hok hk hv).1 hb
    have h2 := (pth_prefix hP _ _ (Nat.le_refl _) (tok_leaf hn hok hk).1 h1).subset h
    rw [(tok_bit hn hok hk hu).2 h2]; rfl
theorem sub_bit {a b k : Nat} (h : a &&& b = b) (hb : b.testBit k = true) : a.testBit k = true := by
  have := congrArg (fun y => y.testBit k) h
  simp only [Nat.testBit_and, hb, Bool.and_true] at this
  exact this
/-- Two nodes with a common leaf: the one with the smaller number is above. -/
theorem cl_chain {t : List Nd} {n u v k : Nat} (hn : t.length = n) (hok : TreeOk t) (hu : u < n) (hv : v < n) (h1 : (cl t u).testBit k = true) (h2 : (cl t v).testBit k = true) (huv : u ≤ v) : u ∈ pthF t n v := by
  have hk := bit_lt (tok_lt hn hok hu) h1
  exact pth_chain (tok_par hn hok) _ _ (Nat.le_refl _) (tok_leaf hn hok hk).1 u v ((tok_bit hn hok hk hu).1 h1) ((tok_bit hn hok hk hv).1 h2) huv
theorem and_bit {a b : Nat} (h : a &&& b ≠ 0) : ∃ k, a.testBit k = true ∧ b.testBit k = true := by
  obtain ⟨k, hk⟩ := bit_of_ne h
  rw [Nat.testBit_and, Bool.and_eq_true] at hk
  exact ⟨k, hk⟩
/-- The sets of two nodes fit. -/
theorem cl_fit {t : List Nd} {n u v : Nat} (hn : t.length = n) (hok : TreeOk t) (hu : u < n) (hv : v < n) : fitB (cl t u) (cl t v) = true := by
  unfold fitB
  by_cases h0 : cl t u &&& cl t v = 0
  · rw [decide_eq_true h0]; rfl
  · obtain ⟨k, h1, h2⟩ := and_bit h0
    rcases Nat.le_total u v with q | q
    · have := cl_sub hn hok hv (cl_chain hn hok hu hv h1 h2 q)
      rw [decide_eq_true this]; simp
    · have := cl_sub hn hok hu (cl_chain hn hok hv hu h2 h1 q)
      rw [Nat.and_comm] at this
      rw [decide_eq_true this]; simp
theorem leaf_end {t : List Nd} {n l : Nat} (hn : t.length = n) (hok : TreeOk t) (hl : leafB t l = true) : ∀ k y, y ≤ k → y < n → l ∈ pthF t n y → y = l := by
  have hP := tok_par hn hok
  intro k
  induction k with
  | zero =>
    intro y hy hyn h
    obtain rfl : y = 0 := by omega
    rw [pth_zero, List.mem_singleton] at h; exact h.symm
  | succ k ih =>
    intro y hy hyn h
    by_cases e : y = 0
    · subst e; rw [pth_zero, List.mem_singleton] at h; exact h.symm
    · obtain ⟨h1, h2⟩ := hP y (by omega) hyn
      rw [pth_succ hP (by omega) hyn, List.mem_append] at h
      rcases h with h | h
      · have e2 := ih (nP t y).toNat (by omega) (by omega) h
        have hk : kidB t l y = true := by unfold kidB; rw [decide_eq_true (by omega), decide_eq_true (by omega)]; rfl
        rw [leafB_in] at hl
        have : inB t t.length l = true := List.any_eq_true.2 ⟨y, List.mem_range.2 (by omega), hk⟩
        rw [this] at hl; cases hl
      · rw [List.mem_singleton] at h; exact h.symm
theorem leaf_at {t : List Nd} {n l : Nat} (hn : t.length = n) (hok : TreeOk t) (hl : leafB t l = true) (hln : l < n) : ∃ k, k < (lvT t).length ∧ vA (lvT t) k = l := by
  rw [tok_lv hn hok]
  have hm : l ∈ lvsL t n := List.mem_filter.2 ⟨List.mem_range.2 hln, hl⟩
  obtain ⟨k, hk, e⟩ := List.mem_iff_getElem.1 hm
  exact ⟨k, hk, by rw [vA_get hk]; exact e⟩
/-- Each node has a leaf. -/
theorem cl_ne {t : List Nd} {n : Nat} (hn : t.length = n) (hok : TreeOk t) : ∀ j v, n - v ≤ j → v < n → cl t v ≠ 0 := by
  have hP := tok_par hn hok
  intro j
  induction j with
  | zero => intro v h1 h2; omega
  | succ j ih =>
    intro v h1 hv
    by_cases q : leafB t v = true
    · obtain ⟨k, hk, e⟩ := leaf_at hn hok q hv
      have hb : (cl t v).testBit k = true := (tok_bit hn hok hk hv).2 (by rw [e]; exact pth_self hP hv)
      intro h; rw [h, Nat.zero_testBit] at hb; cases hb
    · rw [leafB_in, hn] at q
      have q2 : inB t n v = true := by cases h : inB t n v <;> simp_all
      obtain ⟨c, hc, hk⟩ := List.any_eq_true.1 q2
      have hcn := List.mem_range.1 hc
      unfold kidB at hk
      rw [Bool.and_eq_true, decide_eq_true_eq, decide_eq_true_eq] at hk
      obtain ⟨hc0, hcp⟩ := hk
      obtain ⟨p0, p1⟩ := hP c hc0 hcn
      have hz := ih c (by omega) hcn
      have hm : v ∈ pthF t n c := by
        rw [pth_succ hP hc0 hcn]
        refine List.mem_append_left _ ?_
        rw [hcp, Int.toNat_natCast]; exact pth_self hP hv
      have hs := cl_sub hn hok hcn hm
      intro h; rw [h, Nat.zero_and] at hs; exact hz hs.symm
theorem u8_inj {a b : Nat} (ha : a < 256) (hb : b < 256) (h : UInt8.ofNat a = UInt8.ofNat b) : a = b := by
  have := congrArg UInt8.toNat h
  rw [UInt8.toNat_ofNat', UInt8.toNat_ofNat'] at this
  omega
theorem nmB_of {s : ByteArray} (h1 : ∀ c ∈ s.data.toList, ltrI c.toNat = true) (h2 : 0 < s.data.toList.length) (h3 : s.data.toList.length ≤ 24) : nmB s = true := by
  have e : s.size = s.data.toList.length := Array.length_toList.symm
  unfold nmB
  rw [List.all_eq_true.2 h1, decide_eq_true (by omega), decide_eq_true (by omega)]; rfl
end Go.Proofs.YtjmnakkkimgifaaDoor
namespace Go.Proofs.YtjmnakkkimgifaaDoor
open Go Go.RowKit Go.Shelf
theorem sortE {α : Type} {R : α → α → Prop} (irr : ∀ x, ¬ R x x) (asy : ∀ x y, R x y → R y x → False) {l m : List α} (hl : l.Pairwise R) (hm : m.Pairwise R) (h : ∀ x, x ∈ l ↔ x ∈ m) : l = m := by
  have nl : l.Nodup := hl.imp (fun {a b} h e => by subst e; exact irr _ h)
  have nm : m.Nodup := hm.imp (fun {a b} h e => by subst e; exact irr _ h)
  exact List.Perm.eq_of_pairwise (fun a b _ _ h1 h2 => (asy a b h1 h2).elim) hl hm ((List.perm_ext_iff_of_nodup nl nm).2 h)
/-- What lies below a node after j steps from the last node on. -/
def agg (t : List Nd) (w : Nat → Nat) : Nat → Nat → Nat
  | 0, v => w v
  | j + 1, v => agg t w j v + if nP t (t.length - 1 - j) = (v : Int) then agg t w j (t.length - 1 - j) else 0
/-- Is v a leaf whose language's kind is not b? -/
def offB (t : List Nd) (x v : Nat) (b : Bool) : Bool := leafB t v && (x.testBit (lvsL t v).length != b)
/-- What kind b costs at node v after j steps; the other kind of a leaf costs I. -/
def upC (I : Nat) (t : List Nd) (x : Nat) : Nat → Nat → Bool → Nat
  | 0, v, b => if offB t x v b then I else 0
  | j + 1, v, b => upC I t x j v b + if nP t (t.length - 1 - j) = (v : Int) then min (upC I t x j (t.length - 1 - j) b) (upC I t x j (t.length - 1 - j) (!b) + 1) else 0
/-- The changes. -/
def chgI (I : Nat) (t : List Nd) (x : Nat) : Nat := min (upC I t x (t.length - 1) 0 false) (upC I t x (t.length - 1) 0 true)
def chg (t : List Nd) (x : Nat) : Nat := chgI 1 t x
def sumF (f : Nat → Nat) : Nat → Nat
  | 0 => 0
  | k + 1 => sumF f k + f k
theorem sumF_congr {f g : Nat → Nat} : ∀ k, (∀ i, i < k → f i = g i) → sumF f k = sumF g k := by
  intro k
  induction k with
  | zero => intro _; rfl
  | succ k ih => intro h; unfold sumF; rw [ih fun i hi => h i (by omega), h k (by omega)]
theorem sumF_add (f g : Nat → Nat) : ∀ k, sumF (fun i => f i + g i) k = sumF f k + sumF g k := by
  intro k
  induction k with
  | zero => rfl
  | succ k ih => unfold sumF; rw [ih]; omega
theorem sumF_one (p : Nat) (a : Nat) : ∀ k, sumF (fun i => if (p : Int) = (i : Int) then a else 0) k = if p < k then a else 0 := by
  intro k
  induction k with
  | zero => rfl
  | succ k ih =>
    unfold sumF
    rw [ih]
    by_cases e : p = k
    · subst e; simp
    · rw [if_neg (show ¬ (p : Int) = (k : Int) by omega)]
      by_cases q : p < k
      · rw [if_pos q, if_pos (show p < k + 1 by omega)]; rfl
      · rw [if_neg q, if_neg (show ¬ p < k + 1 by omega)]
/-- Nothing is lost on the way up. -/
theorem agg_sum {t : List Nd} {n : Nat} (hn : t.length = n) (hP : ∀ v, 0 < v → v < n → 0 ≤ nP t v ∧ nP t v < v) (w : Nat → Nat) : ∀ j, j < n → sumF (agg t w j) (n - j) = sumF w n := by
  intro j
  induction j with
  | zero => intro _; rfl
  | succ j ih =>
    intro hj
    rw [← ih (by omega)]
    have e : n - j = (n - (j + 1)) + 1 := by omega
    have hu : t.length - 1 - j = n - (j + 1) := by omega
    obtain ⟨p0, p1⟩ := hP (n - (j + 1)) (by omega) (by omega)
    obtain ⟨p, hp⟩ : ∃ p : Nat, nP t (n - (j + 1)) = p := ⟨(nP t (n - (j + 1))).toNat, by omega⟩
    have h1 : sumF (agg t w (j + 1)) (n - (j + 1)) = sumF (fun v => agg t w j v + if (p : Int) = (v : Int) then agg t w j (n - (j + 1)) else 0) (n - (j + 1)) := sumF_congr _ fun v _ => by
      show agg t w j v + _ = _
      rw [hu, hp]
    rw [h1, sumF_add, sumF_one, if_pos (by omega), e]
    rfl
theorem agg_root {t : List Nd} {n : Nat} (hn : t.length = n) (h1 : 1 ≤ n) (hP : ∀ v, 0 < v → v < n → 0 ≤ nP t v ∧ nP t v < v) (w : Nat → Nat) : agg t w (n - 1) 0 = sumF w n := by
  have h := agg_sum hn hP w (n - 1) (by omega)
  rw [show n - (n - 1) = 1 by omega] at h
  simpa [sumF] using h
theorem leaf_par {t : List Nd} {v u : Nat} (hl : leafB t v = true) (h0 : 0 < u) (hu : u < t.length) : nP t u ≠ (v : Int) := fun h => by
  rw [leafB_in] at hl
  have : inB t t.length v = true := List.any_eq_true.2 ⟨u, List.mem_range.2 hu, by unfold kidB; rw [decide_eq_true h0, decide_eq_true h]; rfl⟩
  rw [this] at hl; cases hl
theorem upC_leaf {I : Nat} {t : List Nd} {x v : Nat} {b : Bool} (hl : leafB t v = true) : ∀ j, j < t.length → upC I t x j v b = if x.testBit (lvsL t v).length = b then 0 else I := by
  intro j
  induction j with
  | zero =>
    intro _
    show (if offB t x v b then I else 0) = _
    unfold offB
    rw [hl]
    cases hb : x.testBit (lvsL t v).length <;> cases b <;> rfl
  | succ j ih =>
    intro hj
    unfold upC
    rw [if_neg (leaf_par hl (by omega) (by omega)), ih (by omega)]
    rfl
/-- The number of leaves below v that are not of kind b. -/
def opC (t : List Nd) (x : Nat) (b : Bool) : Nat → Nat → Nat := agg t fun v => if offB t x v b then 1 else 0
theorem opC_leaf {t : List Nd} {x v : Nat} {b : Bool} (hl : leafB t v = true) : ∀ j, j < t.length → opC t x b j v = if x.testBit (lvsL t v).length = b then 0 else 1 := by
  intro j
  induction j with
  | zero =>
    intro _
    show (if offB t x v b then 1 else 0) = _
    unfold offB
    rw [hl]
    cases hb : x.testBit (lvsL t v).length <;> cases b <;> rfl
  | succ j ih =>
    intro hj
    show opC t x b j v + _ = _
    rw [if_neg (leaf_par hl (by omega) (by omega)), ih (by omega)]
    rfl
/-- What a child adds. -/
def addC (I : Nat) (t : List Nd) (x j u : Nat) (b : Bool) : Nat := min (upC I t x j u b) (upC I t x j u (!b) + 1)
theorem addC_leaf {I : Nat} (hI : 1 ≤ I) {t : List Nd} {x u j : Nat} {b : Bool} (hl : leafB t u = true) (hj : j < t.length) : addC I t x j u b = if x.testBit (lvsL t u).length = b then 0 else 1 := by
  unfold addC
  rw [upC_leaf hl j hj, upC_leaf hl j hj]
  cases hb : x.testBit (lvsL t u).length <;> cases b <;> simp <;> omega
theorem bound_C {I : Nat} (hI : 1 ≤ I) {t : List Nd} {x : Nat} : ∀ j, j < t.length → (∀ v b, leafB t v = false → upC I t x j v b ≤ opC t x b j v) ∧ ∀ u b, addC I t x j u b ≤ opC t x b j u := by
  intro j
  induction j with
  | zero =>
    intro hj
    have h1 : ∀ v b, leafB t v = false → upC I t x 0 v b ≤ opC t x b 0 v := fun v b hl => by
      show (if offB t x v b then I else 0) ≤ _
      unfold offB
      rw [hl]; exact Nat.zero_le _
    refine ⟨h1, fun u b => ?_⟩
    cases hl : leafB t u with
    | true => rw [addC_leaf hI hl hj, opC_leaf hl 0 hj]; exact Nat.le_refl _
    | false => exact Nat.le_trans (Nat.min_le_left _ _) (h1 u b hl)
  | succ j ih =>
    intro hj
    obtain ⟨i1, i2⟩ := ih (by omega)
    have h1 : ∀ v b, leafB t v = false → upC I t x (j + 1) v b ≤ opC t x b (j + 1) v := fun v b hl => by
      show upC I t x j v b + (if _ then addC I t x j (t.length - 1 - j) b else 0) ≤ opC t x b j v + (if _ then opC t x b j (t.length - 1 - j) else 0)
      have a := i1 v b hl
      have c := i2 (t.length - 1 - j) b
      split <;> omega
    refine ⟨h1, fun u b => ?_⟩
    cases hl : leafB t u with
    | true => rw [addC_leaf hI hl hj, opC_leaf hl _ hj]; exact Nat.le_refl _
    | false => exact Nat.le_trans (Nat.min_le_left _ _) (h1 u b hl)
theorem zero_C {I : Nat} (hI : 1 ≤ I) {t : List Nd} {x : Nat} : ∀ j, j < t.length → (∀ v b, leafB t v = false → upC I t x j v b = 0 → opC t x b j v = 0) ∧ ∀ u b, addC I t x j u b = 0 → opC t x b j u = 0 := by
  intro j
  induction j with
  | zero =>
    intro hj
    have h1 : ∀ v b, leafB t v = false → upC I t x 0 v b = 0 → opC t x b 0 v = 0 := fun v b hl _ => by
      show (if offB t x v b then 1 else 0) = _
      unfold offB
      rw [hl]; rfl
    refine ⟨h1, fun u b h => ?_⟩
    cases hl : leafB t u with
    | true => rw [addC_leaf hI hl hj] at h; rw [opC_leaf hl 0 hj]; exact h
    | false =>
      refine h1 u b hl ?_
      unfold addC at h; omega
  | succ j ih =>
    intro hj
    obtain ⟨i1, i2⟩ := ih (by omega)
    have h1 : ∀ v b, leafB t v = false → upC I t x (j + 1) v b = 0 → opC t x b (j + 1) v = 0 := fun v b hl h => by
      have h' : upC I t x j v b + (if nP t (t.length - 1 - j) = (v : Int) then addC I t x j (t.length - 1 - j) b else 0) = 0 := h
      show opC t x b j v + (if nP t (t.length - 1 - j) = (v : Int) then opC t x b j (t.length - 1 - j) else 0) = 0
      rw [i1 v b hl (by omega)]
      by_cases q : nP t (t.length - 1 - j) = (v : Int)
      · rw [if_pos q] at h' ⊢
        rw [i2 _ b (by omega)]
      · rw [if_neg q]
    refine ⟨h1, fun u b h => ?_⟩
    cases hl : leafB t u with
    | true => rw [addC_leaf hI hl hj] at h; rw [opC_leaf hl _ hj]; exact h
    | false =>
      refine h1 u b hl ?_
      unfold addC at h; omega
/-- It does not matter what the other kind of a leaf costs. -/
theorem same_C {I K : Nat} (hI : 1 ≤ I) (hK : 1 ≤ K) {t : List Nd} {x : Nat} : ∀ j, j < t.length → (∀ v b, leafB t v = false → upC I t x j v b = upC K t x j v b) ∧ ∀ u b, addC I t x j u b = addC K t x j u b := by
  intro j
  induction j with
  | zero =>
    intro hj
    have h1 : ∀ v b, leafB t v = false → upC I t x 0 v b = upC K t x 0 v b := fun v b hl => by
      show (if offB t x v b then I else 0) = (if offB t x v b then K else 0)
      unfold offB
      rw [hl]; rfl
    refine ⟨h1, fun u b => ?_⟩
    cases hl : leafB t u with
    | true => rw [addC_leaf hI hl hj, addC_leaf hK hl hj]
    | false => unfold addC; rw [h1 u b hl, h1 u (!b) hl]
  | succ j ih =>
    intro hj
    obtain ⟨i1, i2⟩ := ih (by omega)
    have h1 : ∀ v b, leafB t v = false → upC I t x (j + 1) v b = upC K t x (j + 1) v b := fun v b hl => by
      show upC I t x j v b + (if _ then addC I t x j (t.length - 1 - j) b else 0) = upC K t x j v b + (if _ then addC K t x j (t.length - 1 - j) b else 0)
      rw [i1 v b hl, i2 (t.length - 1 - j) b]
    refine ⟨h1, fun u b => ?_⟩
    cases hl : leafB t u with
    | true => rw [addC_leaf hI hl hj, addC_leaf hK hl hj]
    | false => unfold addC; rw [h1 u b hl, h1 u (!b) hl]
theorem chgI_eq {I : Nat} (hI : 1 ≤ I) {t : List Nd} (h1 : 1 ≤ t.length) (x : Nat) : chgI I t x = chg t x := by
  unfold chg chgI
  cases hl : leafB t 0 with
  | false => rw [(same_C hI (Nat.le_refl 1) (t.length - 1) (by omega)).1 0 false hl, (same_C hI (Nat.le_refl 1) (t.length - 1) (by omega)).1 0 true hl]
  | true =>
    rw [upC_leaf hl _ (by omega), upC_leaf hl _ (by omega), upC_leaf hl _ (by omega), upC_leaf hl _ (by omega)]
    cases hb : x.testBit (lvsL t 0).length <;> simp
/-- How many of the first k languages are not of kind b. -/
def offK (x : Nat) (b : Bool) : Nat → Nat := sumF fun i => if x.testBit i != b then 1 else 0
theorem off_sum (t : List Nd) (x : Nat) (b : Bool) : ∀ k, sumF (fun v => if offB t x v b then 1 else 0) k = offK x b (lvsL t k).length := by
  intro k
  induction k with
  | zero => rfl
  | succ k ih =>
    unfold sumF
    rw [ih, lvsL_snoc]
    unfold offB
    cases hl : leafB t k with
    | true =>
      rw [if_pos rfl, List.length_append, List.length_singleton]
      show _ = offK x b (lvsL t k).length + _
      rw [Bool.true_and]
    | false => simp
theorem opC_root {t : List Nd} {n : Nat} (hn : t.length = n) (hok : TreeOk t) (x : Nat) (b : Bool) : opC t x b (n - 1) 0 = offK x b (lvT t).length := by
  unfold opC
  rw [agg_root hn (by have := hok.1; omega) (tok_par hn hok), off_sum, tok_lv hn hok]
theorem offK_le (x : Nat) (b : Bool) : ∀ k, offK x b k ≤ k := by
  intro k
  induction k with
  | zero => exact Nat.le_refl _
  | succ k ih =>
    show offK x b k + (if x.testBit k != b then 1 else 0) ≤ _
    split <;> omega
theorem offK_compl (x : Nat) : ∀ k, offK x false k + offK x true k = k := by
  intro k
  induction k with
  | zero => rfl
  | succ k ih =>
    show offK x false k + (if x.testBit k != false then 1 else 0) + (offK x true k + (if x.testBit k != true then 1 else 0)) = _
    cases hb : x.testBit k
    · show offK x false k + 0 + (offK x true k + 1) = _; omega
    · show offK x false k + 1 + (offK x true k + 0) = _; omega
theorem offK_zero {x : Nat} {b : Bool} : ∀ k, offK x b k = 0 ↔ ∀ i, i < k → x.testBit i = b := by
  intro k
  induction k with
  | zero => exact ⟨fun _ i hi => by omega, fun _ => rfl⟩
  | succ k ih =>
    show offK x b k + (if x.testBit k != b then 1 else 0) = 0 ↔ _
    constructor
    · intro h i hi
      by_cases e : i = k
      · subst e
        cases hb : x.testBit i <;> cases b <;> simp_all
      · exact ih.1 (by omega) i (by omega)
    · intro h
      rw [ih.2 fun i hi => h i (by omega), h k (by omega)]
      simp
/-- No more changes than languages of either kind. -/
theorem chg_le {t : List Nd} {n : Nat} (hn : t.length = n) (hok : TreeOk t) (x : Nat) (b : Bool) : chg t x ≤ offK x b (lvT t).length := by
  have h1 : 1 ≤ t.length := hok.1
  rw [← opC_root hn hok, ← hn]
  unfold chg chgI
  have key : ∀ b, leafB t 0 = false → upC 1 t x (t.length - 1) 0 b ≤ opC t x b (t.length - 1) 0 := fun b hl => (bound_C (Nat.le_refl 1) (t.length - 1) (by omega)).1 0 b hl
  cases hl : leafB t 0 with
  | false =>
    have h2 := key false hl
    have h3 := key true hl
    cases b <;> omega
  | true =>
    rw [upC_leaf hl _ (by omega), upC_leaf hl _ (by omega)]
    cases hb : x.testBit (lvsL t 0).length <;> simp
/-- What needs no change is the same everywhere. -/
theorem chg_zero {t : List Nd} {n : Nat} (hn : t.length = n) (hok : TreeOk t) {x : Nat} (h : chg t x = 0) : ∃ b, offK x b (lvT t).length = 0 := by
  have h1 : 1 ≤ t.length := hok.1
  unfold chg chgI at h
  cases hl : leafB t 0 with
  | false =>
    have key : ∀ b, upC 1 t x (t.length - 1) 0 b = 0 → offK x b (lvT t).length = 0 := fun b hb => by
      rw [← opC_root hn hok, ← hn]
      exact (zero_C (Nat.le_refl 1) (t.length - 1) (by omega)).1 0 b hl hb
    by_cases q : upC 1 t x (t.length - 1) 0 false = 0
    · exact ⟨false, key _ q⟩
    · exact ⟨true, key _ (by omega)⟩
  | true =>
    refine ⟨x.testBit (lvsL t 0).length, ?_⟩
    rw [← opC_root hn hok, ← hn, opC_leaf hl _ (by omega), if_pos rfl]
end Go.Proofs.YtjmnakkkimgifaaDoor
namespace Go.Proofs.YtjmnakkkimgifaaDoor
open Go Go.RowKit Go.Shelf
theorem leaf_idx {t : List Nd} {n v : Nat} (hn : t.length = n) (hok : TreeOk t) (hv : v < n) (hl : leafB t v = true) : (lvsL t v).length < (lvT t).length ∧ vA (lvT t) (lvsL t v).length = v := by
  obtain ⟨k, hk, e⟩ := leaf_at hn hok hl hv
  have h3 : (lvsL t v).length = k := by
    rw [tok_lv hn hok] at hk e
    have := (lvs_at t n k hk).2.2
    rw [e] at this; exact this
  rw [h3]; exact ⟨hk, e⟩
/-- The opposite costs as much. -/
theorem upC_opp {t : List Nd} {n x y : Nat} (hn : t.length = n) (hok : TreeOk t) (hxy : ∀ k, k < (lvT t).length → y.testBit k = !x.testBit k) (I : Nat) : ∀ j, j < n → ∀ v, v < n → ∀ b, upC I t y j v b = upC I t x j v (!b) := by
  intro j
  induction j with
  | zero =>
    intro _ v hv b
    show (if offB t y v b then I else 0) = if offB t x v (!b) then I else 0
    have : offB t y v b = offB t x v (!b) := by
      unfold offB
      cases hl : leafB t v with
      | false => rfl
      | true =>
        rw [hxy _ (leaf_idx hn hok hv hl).1]
        cases x.testBit (lvsL t v).length <;> cases b <;> rfl
    rw [this]
  | succ j ih =>
    intro hj v hv b
    have e := ih (by omega)
    unfold upC
    rw [e v hv b, e (t.length - 1 - j) (by omega) b, e (t.length - 1 - j) (by omega) (!b)]
theorem chg_opp {t : List Nd} {n x y : Nat} (hn : t.length = n) (hok : TreeOk t) (hxy : ∀ k, k < (lvT t).length → y.testBit k = !x.testBit k) : chg t y = chg t x := by
  have h1 : 1 ≤ n := by have := hok.1; omega
  unfold chg chgI
  rw [hn, upC_opp hn hok hxy 1 (n - 1) (by omega) 0 (by omega) false, upC_opp hn hok hxy 1 (n - 1) (by omega) 0 (by omega) true]
  simp only [Bool.not_false, Bool.not_true]
  omega
theorem agg_zero {t : List Nd} {n : Nat} (hn : t.length = n) (hP : ∀ v, 0 < v → v < n → 0 ≤ nP t v ∧ nP t v < v) {w : Nat → Nat} : ∀ j, j < n → ∀ v, v < n → (∀ u, u < n → v ∈ pthF t n u → w u = 0) → agg t w j v = 0 := by
  intro j
  induction j with
  | zero => intro _ v hv h; exact h v hv (pth_self hP hv)
  | succ j ih =>
    intro hj v hv h
    show agg t w j v + _ = 0
    rw [ih (by omega) v hv h]
    by_cases e : nP t (t.length - 1 - j) = (v : Int)
    · rw [if_pos e, ih (by omega) (t.length - 1 - j) (by omega) fun u hu hm => h u hu ?_]
      have hc : v ∈ pthF t n (t.length - 1 - j) := by
        rw [pth_succ hP (by omega) (by omega)]
        refine List.mem_append_left _ ?_
        rw [e, Int.toNat_natCast]; exact pth_self hP hv
      exact (pth_prefix hP u u (Nat.le_refl _) hu hm).subset hc
    · rw [if_neg e]
/-- Below node k, the kind of its set costs nothing. -/
theorem in_zero {t : List Nd} {n k : Nat} (hn : t.length = n) (hok : TreeOk t) (hk : k < n) {j v : Nat} (hj : j < n) (hv : v < n) (hm : k ∈ pthF t n v) : upC 1 t (cl t k) j v true = 0 := by
  have hP := tok_par hn hok
  have hz : opC t (cl t k) true j v = 0 := by
    refine agg_zero hn hP j hj v hv fun u hu h => ?_
    unfold offB
    cases hl : leafB t u with
    | false => rfl
    | true =>
      obtain ⟨h1, h2⟩ := leaf_idx hn hok hu hl
      have h3 : (cl t k).testBit (lvsL t u).length = true := (tok_bit hn hok h1 hk).2 (by rw [h2]; exact (pth_prefix hP u u (Nat.le_refl _) hu h).subset hm)
      rw [h3]; rfl
  cases hl : leafB t v with
  | false =>
    have := (bound_C (I := 1) (t := t) (x := cl t k) (Nat.le_refl 1) j (by omega)).1 v true hl
    omega
  | true =>
    rw [opC_leaf hl j (by omega)] at hz
    rw [upC_leaf hl j (by omega)]
    cases hb : (cl t k).testBit (lvsL t v).length with
    | true => rfl
    | false => rw [hb] at hz; simp at hz
/-- Elsewhere, the other kind costs one where k lies below. -/
theorem out_le {t : List Nd} {n k : Nat} (hn : t.length = n) (hok : TreeOk t) (hk : k < n) : ∀ j, j < n → ∀ v, v < n → k ∉ pthF t n v → upC 1 t (cl t k) j v false ≤ agg t (fun u => if u = k then 1 else 0) j v := by
  have hP := tok_par hn hok
  intro j
  induction j with
  | zero =>
    intro hj v hv hm
    show (if offB t (cl t k) v false then 1 else 0) ≤ _
    unfold offB
    cases hl : leafB t v with
    | false => exact Nat.zero_le _
    | true =>
      obtain ⟨h1, h2⟩ := leaf_idx hn hok hv hl
      have h3 : (cl t k).testBit (lvsL t v).length = false := by
        rw [Bool.eq_false_iff]
        intro h
        rw [tok_bit hn hok h1 hk, h2] at h
        exact hm h
      rw [h3]; exact Nat.zero_le _
  | succ j ih =>
    intro hj v hv hm
    show upC 1 t (cl t k) j v false + (if _ then addC 1 t (cl t k) j (t.length - 1 - j) false else 0) ≤ agg t _ j v + _
    have h1 := ih (by omega) v hv hm
    have hu : t.length - 1 - j < n := by omega
    by_cases e : nP t (t.length - 1 - j) = (v : Int)
    · rw [if_pos e, if_pos e]
      have h2 : addC 1 t (cl t k) j (t.length - 1 - j) false ≤ agg t (fun u => if u = k then 1 else 0) j (t.length - 1 - j) := by
        by_cases q : k ∈ pthF t n (t.length - 1 - j)
        · have hz := in_zero hn hok hk (j := j) (by omega) hu q
          have hkk : t.length - 1 - j = k := by
            rw [pth_succ hP (by omega) hu, List.mem_append] at q
            rcases q with q | q
            · rw [e, Int.toNat_natCast] at q; exact absurd q hm
            · rw [List.mem_singleton] at q; exact q.symm
          have h3 : addC 1 t (cl t k) j (t.length - 1 - j) false ≤ 1 := by
            unfold addC
            show min _ (upC 1 t (cl t k) j (t.length - 1 - j) true + 1) ≤ 1
            rw [hz]; exact Nat.min_le_right _ _
          have h4 : 1 ≤ agg t (fun u => if u = k then 1 else 0) j (t.length - 1 - j) := by
            rw [hkk]
            have : ∀ i, 1 ≤ agg t (fun u => if u = k then 1 else 0) i k := by
              intro i
              induction i with
              | zero => show 1 ≤ (if k = k then 1 else 0); rw [if_pos rfl]; exact Nat.le_refl _
              | succ i ih2 => show 1 ≤ agg t _ i k + _; omega
            exact this j
          omega
        · exact Nat.le_trans (Nat.min_le_left _ _) (ih (by omega) _ hu q)
      omega
    · rw [if_neg e, if_neg e]; omega
theorem sumF_is (k : Nat) : ∀ n, sumF (fun u => if u = k then 1 else 0) n = if k < n then 1 else 0 := by
  intro n
  induction n with
  | zero => rfl
  | succ n ih =>
    show sumF _ n + (if n = k then 1 else 0) = _
    rw [ih]
    by_cases e : n = k
    · subst e; simp
    · rw [if_neg e]
      by_cases q : k < n
      · rw [if_pos q, if_pos (by omega)]
      · rw [if_neg q, if_neg (by omega)]
theorem chg_same {t : List Nd} {n x : Nat} (hn : t.length = n) (hok : TreeOk t) {b : Bool} (h : ∀ k, k < (lvT t).length → x.testBit k = b) : chg t x = 0 := by
  have h1 := chg_le hn hok x b
  have h2 := (offK_zero (x := x) (b := b) _).2 h
  omega
/-- The set of a node needs at most one change. -/
theorem chg_node {t : List Nd} {n k : Nat} (hn : t.length = n) (hok : TreeOk t) (hk : k < n) : chg t (cl t k) ≤ 1 := by
  have hP := tok_par hn hok
  have h1 : 1 ≤ n := by have := hok.1; omega
  by_cases e : k = 0
  · subst e
    have : chg t (cl t 0) = 0 := chg_same hn hok (b := true) fun i hi => (tok_bit hn hok hi hk).2 (pth_root t n _)
    omega
  · have h2 := out_le hn hok hk (n - 1) (by omega) 0 (by omega) (by rw [pth_zero]; simp; exact e)
    rw [agg_root hn h1 hP, sumF_is, if_pos hk] at h2
    unfold chg chgI
    rw [hn]; omega
theorem chg_pos {t : List Nd} {n x : Nat} (hn : t.length = n) (hok : TreeOk t) (hx : x < 2 ^ (lvT t).length) (h0 : x ≠ 0) (h1 : x ≠ 2 ^ (lvT t).length - 1) : 1 ≤ chg t x := by
  rcases Nat.eq_zero_or_pos (chg t x) with q | q
  · exfalso
    obtain ⟨b, hb⟩ := chg_zero hn hok q
    have hb := (offK_zero _).1 hb
    cases b with
    | false =>
      apply h0
      apply Nat.eq_of_testBit_eq
      intro i
      rw [Nat.zero_testBit]
      rcases Nat.lt_or_ge i (lvT t).length with q2 | q2
      · exact hb i q2
      · exact Nat.testBit_lt_two_pow (Nat.lt_of_lt_of_le hx (Nat.pow_le_pow_right (by omega) q2))
    | true =>
      apply h1
      apply Nat.eq_of_testBit_eq
      intro i
      rw [Nat.testBit_two_pow_sub_one]
      rcases Nat.lt_or_ge i (lvT t).length with q2 | q2
      · rw [hb i q2, decide_eq_true q2]
      · rw [Nat.testBit_lt_two_pow (Nat.lt_of_lt_of_le hx (Nat.pow_le_pow_right (by omega) q2)), decide_eq_false (by omega)]
  · exact q
theorem chg_none {t : List Nd} {n : Nat} (hn : t.length = n) (hok : TreeOk t) : chg t 0 = 0 := chg_same hn hok (b := false) fun k _ => Nat.zero_testBit k
theorem chg_every {t : List Nd} {n : Nat} (hn : t.length = n) (hok : TreeOk t) : chg t (2 ^ (lvT t).length - 1) = 0 := chg_same hn hok (b := true) fun k hk => by rw [Nat.testBit_two_pow_sub_one, decide_eq_true hk]
end Go.Proofs.YtjmnakkkimgifaaDoor
namespace Go.Proofs.YtjmnakkkimgifaaDoor
open Go.RowKit Go.Shelf
theorem eqI_step (l1 l2 : List Int) (k : Nat) (h : l1.take k = l2.take k) (h1 : k < l1.length) (h2 : k < l2.length) (e0 : iA l1 k = iA l2 k) : l1.take (k + 1) = l2.take (k + 1) := by
  have he : l1[k] = l2[k] := by
    simpa only [iA, List.getD_eq_getElem?_getD, List.getElem?_eq_getElem h1, List.getElem?_eq_getElem h2, Option.getD_some] using e0
  rw [List.take_succ_eq_append_getElem h1, List.take_succ_eq_append_getElem h2, h, he]
theorem neI_iA (l1 l2 : List Int) (k : Nat) (h : iA l1 k ≠ iA l2 k) : l1 ≠ l2 := fun e => h (by rw [e])
theorem Rd.of_blk {w : World} {B : Nat} {cs : List Value} {t : TypeId} (h : Blk w B cs.toArray t) : Rd w (some ⟨B, 0, none⟩) cs := by
  intro h0
  refine ⟨B, 0, rfl, h.lt, fun i hi => ?_⟩
  rw [Nat.zero_add, h.cell i]
  simp [hi]
theorem neqNd (x0 y0 : Int) (x1 y1 : ByteArray) (w : World) : (binOp .neq 41 (.agg #[.int .i64 x0, .string x1]) (.agg #[.int .i64 y0, .string y1])).run Tryd.prog w = .ok (.bool (!(decide (x0 = y0) && decide (x1 = y1)))) w := by
  have u3 := Tryd.underlying3
  have a3 := Tryd.isAgg3
  have z3 := Tryd.sizeOf3
  have u9 := Tryd.underlying9
  have a9 := Tryd.isAgg9
  have z9 := Tryd.sizeOf9
  have hS : Tryd.prog.underlying 41 = some (.struct (Tryd.prog.fieldsOf 41)) := by kernel_rfl
  have hp : Tryd.prog.stoodInHeld 41 = false := by kernel_rfl
  rw [run_neq_struct, show (10000 : Nat) = 9999 + 1 from rfl, run_equalIn_agg w 9999 41 _ _ hS hp]
  simp only [Program.fieldsOf, Tryd.underlying41]
  go_simp
  by_cases h0 : x0 = y0 <;> by_cases h1 : x1 = y1 <;> simp [ba_inj, h0, h1]
theorem guardNd : Tryd.prog.eqGuardType Tryd.prog.depth 41 = false := by kernel_rfl
theorem own_cap {w : World} {base e k n c : Nat} {a : Option Addr} {xs : List Value} (h : w.ownsRow base e k (.slice a n c) n xs) : n ≤ c ∧ c ≤ maxLen := by
  rcases h.2 with ⟨hv, hn⟩ | ⟨g, cap', cur, hv, hg, hh, hn, hm, _⟩
  · cases hv; exact ⟨Nat.le_refl _, by unfold maxLen; omega⟩
  · cases hv; exact ⟨hn, hm⟩
end Go.Proofs.YtjmnakkkimgifaaDoor
namespace Go.Proofs
open Go.Shelf
def Tryd.lays171_ren : Go.Shelf.Ren := ⟨fun | 171 => 31 | 243 => 56 | 246 => 75 | 283 => 91 | 284 => 92 | 285 => 93 | 286 => 94 | 129 => 85 | 317 => 101 | 318 => 102 | 319 => 103 | 320 => 104 | 337 => 106 | 338 => 107 | n => n, fun | 3 => 3 | 9 => 9 | 2 => 2 | 4 => 4 | 171 => 129 | 0 => 0 | 53 => 52 | 37 => 32 | 5 => 5 | 173 => 131 | 212 => 139 | 51 => 125 | 20 => 20 | 213 => 140 | 46 => 90 | 232 => 144 | 233 => 145 | n => n, fun | 17 => 0 | 18 => 1 | 19 => 2 | n => n⟩
theorem Tryd.lays171 : Go.Proofs.Lays.n171 Tryd.prog Tryd.lays171_ren := {
  mixed := by kernel_rfl
  f129 := Tryd.func85.trans (congrArg some (by kernel_rfl))
  f171 := Tryd.func31.trans (congrArg some (by kernel_rfl))
  f243 := Tryd.func56.trans (congrArg some (by kernel_rfl))
  f246 := Tryd.func75.trans (congrArg some (by kernel_rfl))
  f283 := Tryd.func91.trans (congrArg some (by kernel_rfl))
  f284 := Tryd.func92.trans (congrArg some (by kernel_rfl))
  f285 := Tryd.func93.trans (congrArg some (by kernel_rfl))
  f286 := Tryd.func94.trans (congrArg some (by kernel_rfl))
  f317 := Tryd.func101.trans (congrArg some (by kernel_rfl))
  f318 := Tryd.func102.trans (congrArg some (by kernel_rfl))
  f319 := Tryd.func103.trans (congrArg some (by kernel_rfl))
  f320 := Tryd.func104.trans (congrArg some (by kernel_rfl))
  f337 := Tryd.func106.trans (congrArg some (by kernel_rfl))
  f338 := Tryd.func107.trans (congrArg some (by kernel_rfl))
  t0 := Tryd.underlying0
  a0 := Tryd.isAgg0
  z0 := Tryd.sizeOf0
  v0 := Tryd.zeroValue0
  t2 := Tryd.underlying2
  a2 := Tryd.isAgg2
  z2 := Tryd.sizeOf2
  v2 := Tryd.zeroValue2
  t3 := Tryd.underlying3
  a3 := Tryd.isAgg3
  z3 := Tryd.sizeOf3
  v3 := Tryd.zeroValue3
  t4 := Tryd.underlying4
  a4 := Tryd.isAgg4
  z4 := Tryd.sizeOf4
  v4 := Tryd.zeroValue4
  t5 := Tryd.underlying5
  a5 := Tryd.isAgg5
  z5 := Tryd.sizeOf5
  v5 := Tryd.zeroValue5
  t9 := Tryd.underlying9
  a9 := Tryd.isAgg9
  z9 := Tryd.sizeOf9
  v9 := Tryd.zeroValue9
  t20 := Tryd.underlying20
  a20 := Tryd.isAgg20
  z20 := Tryd.sizeOf20
  v20 := Tryd.zeroValue20
  t37 := Tryd.underlying32
  a37 := Tryd.isAgg32
  z37 := Tryd.sizeOf32
  v37 := Tryd.zeroValue32
  t46 := Tryd.underlying90
  a46 := Tryd.isAgg90
  z46 := Tryd.sizeOf90
  v46 := Tryd.zeroValue90
  t51 := Tryd.underlying125
  a51 := Tryd.isAgg125
  z51 := Tryd.sizeOf125
  v51 := Tryd.zeroValue125
  t53 := Tryd.underlying52
  a53 := Tryd.isAgg52
  z53 := Tryd.sizeOf52
  v53 := Tryd.zeroValue52
  t171 := Tryd.underlying129
  a171 := Tryd.isAgg129
  z171 := Tryd.sizeOf129
  v171 := Tryd.zeroValue129
  t173 := Tryd.underlying131
  a173 := Tryd.isAgg131
  z173 := Tryd.sizeOf131
  v173 := Tryd.zeroValue131
  t212 := Tryd.underlying139
  a212 := Tryd.isAgg139
  z212 := Tryd.sizeOf139
  v212 := Tryd.zeroValue139
  t213 := Tryd.underlying140
  a213 := Tryd.isAgg140
  z213 := Tryd.sizeOf140
  t232 := Tryd.underlying144
  a232 := Tryd.isAgg144
  z232 := Tryd.sizeOf144
  v232 := Tryd.zeroValue144
  t233 := Tryd.underlying145
  a233 := Tryd.isAgg145
  z233 := Tryd.sizeOf145
  v233 := Tryd.zeroValue145
  g17 := by kernel_rfl
  g18 := by kernel_rfl
  g19 := by kernel_rfl }
open Go.RowKit Go.Sort Go.Lib in
/-- THE ROAD WITHOUT THE TABLE: 0 <= i < 100: NO PREMISE ON THE WORLD, AND THE WORLD IS AS IT WAS: a row that keeps its argument in that range need list no table ('laid = []'). (LAID: no walk: one application.) -/
theorem Tryd.strconv_Itoa_small (i : Nat) (hi : i < 100) (w : World) :
    Calls Tryd.prog 31 #[.int .i64 i] w fun e w' => e = .returned (.string ⟨(Lib.decDigits i).toArray⟩) ∧ w' = w := Any.strconv_Itoa_small Tryd.lays171 i hi w
def Tryd.lays108_ren : Go.Shelf.Ren := ⟨fun | 108 => 54 | n => n, fun | 28 => 27 | 3 => 3 | 0 => 0 | 4 => 4 | n => n, fun | n => n⟩
theorem Tryd.lays108 : Go.Proofs.Lays.n108 Tryd.prog Tryd.lays108_ren := {
  mixed := by kernel_rfl
  f108 := Tryd.func54.trans (congrArg some (by kernel_rfl))
  t0 := Tryd.underlying0
  a0 := Tryd.isAgg0
  z0 := Tryd.sizeOf0
  v0 := Tryd.zeroValue0
  t3 := Tryd.underlying3
  a3 := Tryd.isAgg3
  z3 := Tryd.sizeOf3
  v3 := Tryd.zeroValue3
  t4 := Tryd.underlying4
  a4 := Tryd.isAgg4
  z4 := Tryd.sizeOf4
  v4 := Tryd.zeroValue4
  t28 := Tryd.underlying27
  a28 := Tryd.isAgg27
  z28 := Tryd.sizeOf27
  v28 := Tryd.zeroValue27 }
open Go.Lib in
/-- slices.Index at []int: "Index returns the index of the first occurrence of v in s, or -1 if not present.": IT RETURNS 'Lib.idxOf (the elements) v'; the world is as it was. 'zs': what the cells behind the slice's address hold (its spare capacity too, if you have it); 'zs.take n': its elements. (LAID: no walk: one application.) -/
theorem Tryd.slices_Index_int (b off n c : Nat) (zs : List Int) (x : Int) (w : World) (hz : n ≤ zs.length) (hbig : n ≤ 9223372036854775807) (hc : ∀ j, j < zs.length → w.cell? ⟨b, off + j, none⟩ = some (.int .i64 (zs.getD j 0))) :
    Calls Tryd.prog 54 #[.slice (some ⟨b, off, none⟩) n c, .int .i64 x] w fun e w' => e = .returned (.int .i64 (Lib.idxOf (zs.take n) x)) ∧ w' = w := Any.slices_Index_int Tryd.lays108 b off n c zs x w hz hbig hc
open Go.Lib in
/-- The same at a slice of length 0, a nil one too: no cell is known, none is asked for. (LAID: no walk: one application.) -/
theorem Tryd.slices_Index_int_empty (a : Option Addr) (c : Nat) (x : Int) (w : World) :
    Calls Tryd.prog 54 #[.slice a 0 c, .int .i64 x] w fun e w' => e = .returned (.int .i64 (Lib.idxOf [] x)) ∧ w' = w := Any.slices_Index_int_empty Tryd.lays108 a c x w
def Tryd.laysNm225_ren : Go.Shelf.Ren := ⟨fun | 25 => 74 | 31 => 89 | 32 => 90 | 37 => 100 | n => n, fun | 22 => 27 | 3 => 3 | 4 => 4 | 40 => 90 | 0 => 0 | n => n, fun | n => n⟩
theorem Tryd.laysNm225 : Go.Proofs.Lays2.n25 Tryd.prog Tryd.laysNm225_ren := {
  mixed := by kernel_rfl
  f25 := Tryd.func74.trans (congrArg some (by kernel_rfl))
  f31 := Tryd.func89.trans (congrArg some (by kernel_rfl))
  f32 := Tryd.func90.trans (congrArg some (by kernel_rfl))
  f37 := Tryd.func100.trans (congrArg some (by kernel_rfl))
  t0 := Tryd.underlying0
  a0 := Tryd.isAgg0
  z0 := Tryd.sizeOf0
  v0 := Tryd.zeroValue0
  t3 := Tryd.underlying3
  a3 := Tryd.isAgg3
  z3 := Tryd.sizeOf3
  v3 := Tryd.zeroValue3
  t4 := Tryd.underlying4
  a4 := Tryd.isAgg4
  z4 := Tryd.sizeOf4
  v4 := Tryd.zeroValue4
  t22 := Tryd.underlying27
  a22 := Tryd.isAgg27
  z22 := Tryd.sizeOf27
  v22 := Tryd.zeroValue27
  t40 := Tryd.underlying90
  a40 := Tryd.isAgg90
  z40 := Tryd.sizeOf90
  v40 := Tryd.zeroValue90 }
open Go.RowKit Go.Lib in
/-- slices.BinarySearch at []int: "BinarySearch searches for target in a sorted slice and returns the earliest position where target is found, or the position where target would appear in the sort order; it also returns a bool saying whether the target is really found in the slice. The slice must be sorted in increasing order.": OF A SORTED SLICE IT RETURNS how many elements are less than the target, and whether the target is among the elements; the world is as it was but for the count of draws. 'zs': what the cells behind the slice's address hold; 'zs.take n': its elements. (Of a slice that is not sorted: no contract here.) (LAID: no walk: one application.) -/
theorem Tryd.slices_BinarySearch_int (b off n c : Nat) (zs : List Int) (x : Int) (w : World) (hz : n ≤ zs.length) (hbig : n < 4611686018427387904) (hc : ∀ j, j < zs.length → w.cell? ⟨b, off + j, none⟩ = some (.int .i64 (zs.getD j 0))) (hs : (zs.take n).Pairwise (· ≤ ·)) :
    Calls Tryd.prog 74 #[.slice (some ⟨b, off, none⟩) n c, .int .i64 x] w fun e w' => e = .returned (.tuple #[.int .i64 ((zs.take n).countP (· < x) : Nat), .bool ((zs.take n).contains x)]) ∧ ∃ q, w' = w.drewN q := Any.slices_BinarySearch_int Tryd.laysNm225 b off n c zs x w hz hbig hc hs
open Go.RowKit Go.Lib in
/-- slices.BinarySearch at []int of no element: position 0, not found; the world is as it was. (LAID: no walk: one application.) -/
theorem Tryd.slices_BinarySearch_int_empty (a : Option Addr) (c : Nat) (x : Int) (w : World) :
    Calls Tryd.prog 74 #[.slice a 0 c, .int .i64 x] w fun e w' => e = .returned (.tuple #[.int .i64 0, .bool false]) ∧ w' = w := Any.slices_BinarySearch_int_empty Tryd.laysNm225 a c x w
def Tryd.sortTrees_ren : Go.Shelf.Ren := ⟨fun | 6 => 32 | 15 => 58 | 14 => 57 | 28 => 84 | 29 => 85 | 20 => 76 | 21 => 77 | 22 => 78 | 23 => 79 | 24 => 80 | 25 => 81 | 26 => 82 | 27 => 83 | 46 => 95 | 47 => 96 | 48 => 97 | 49 => 98 | 50 => 99 | 57 => 105 | n => n, fun | 22 => 23 | 24 => 33 | 25 => 69 | 3 => 3 | 39 => 90 | 0 => 0 | 53 => 125 | 55 => 52 | 4 => 4 | 46 => 119 | 45 => 118 | 50 => 114 | 5 => 5 | 9 => 9 | 66 => 133 | 70 => 136 | 76 => 141 | 77 => 142 | n => n, fun | n => n⟩
theorem Tryd.sortTrees : Go.Proofs.SlLaysF.n6 Tryd.prog Tryd.sortTrees_ren := {
  mixed := by kernel_rfl
  f6 := ⟨Tryd.f32.name, by decide, Tryd.func32.trans (congrArg some (by kernel_rfl))⟩
  f14 := ⟨Tryd.f57.name, by decide, Tryd.func57.trans (congrArg some (by kernel_rfl))⟩
  f15 := Tryd.func58.trans (congrArg some (by kernel_rfl))
  f20 := ⟨Tryd.f76.name, by decide, Tryd.func76.trans (congrArg some (by kernel_rfl))⟩
  f21 := ⟨Tryd.f77.name, by decide, Tryd.func77.trans (congrArg some (by kernel_rfl))⟩
  f22 := ⟨Tryd.f78.name, by decide, Tryd.func78.trans (congrArg some (by kernel_rfl))⟩
  f23 := ⟨Tryd.f79.name, by decide, Tryd.func79.trans (congrArg some (by kernel_rfl))⟩
  f24 := ⟨Tryd.f80.name, by decide, Tryd.func80.trans (congrArg some (by kernel_rfl))⟩
  f25 := ⟨Tryd.f81.name, by decide, Tryd.func81.trans (congrArg some (by kernel_rfl))⟩
  f26 := ⟨Tryd.f82.name, by decide, Tryd.func82.trans (congrArg some (by kernel_rfl))⟩
  f27 := ⟨Tryd.f83.name, by decide, Tryd.func83.trans (congrArg some (by kernel_rfl))⟩
  f28 := Tryd.func84.trans (congrArg some (by kernel_rfl))
  f29 := Tryd.func85.trans (congrArg some (by kernel_rfl))
  f46 := ⟨Tryd.f95.name, by decide, Tryd.func95.trans (congrArg some (by kernel_rfl))⟩
  f47 := Tryd.func96.trans (congrArg some (by kernel_rfl))
  f48 := Tryd.func97.trans (congrArg some (by kernel_rfl))
  f49 := ⟨Tryd.f98.name, by decide, Tryd.func98.trans (congrArg some (by kernel_rfl))⟩
  f50 := ⟨Tryd.f99.name, by decide, Tryd.func99.trans (congrArg some (by kernel_rfl))⟩
  f57 := ⟨Tryd.f105.name, by decide, Tryd.func105.trans (congrArg some (by kernel_rfl))⟩
  t0 := Tryd.underlying0
  a0 := Tryd.isAgg0
  z0 := Tryd.sizeOf0
  v0 := Tryd.zeroValue0
  t3 := Tryd.underlying3
  a3 := Tryd.isAgg3
  z3 := Tryd.sizeOf3
  v3 := Tryd.zeroValue3
  t4 := Tryd.underlying4
  a4 := Tryd.isAgg4
  z4 := Tryd.sizeOf4
  v4 := Tryd.zeroValue4
  t5 := Tryd.underlying5
  a5 := Tryd.isAgg5
  z5 := Tryd.sizeOf5
  v5 := Tryd.zeroValue5
  t9 := Tryd.underlying9
  a9 := Tryd.isAgg9
  z9 := Tryd.sizeOf9
  v9 := Tryd.zeroValue9
  t22 := Tryd.underlying23
  a22 := Tryd.isAgg23
  z22 := Tryd.sizeOf23
  v22 := Tryd.zeroValue23
  a24 := Tryd.isAgg33
  z24 := Tryd.sizeOf33
  t25 := Tryd.underlying69
  a25 := Tryd.isAgg69
  z25 := Tryd.sizeOf69
  v25 := Tryd.zeroValue69
  t39 := Tryd.underlying90
  a39 := Tryd.isAgg90
  z39 := Tryd.sizeOf90
  v39 := Tryd.zeroValue90
  t45 := Tryd.underlying118
  a45 := Tryd.isAgg118
  z45 := Tryd.sizeOf118
  v45 := Tryd.zeroValue118
  t46 := Tryd.underlying119
  a46 := Tryd.isAgg119
  z46 := Tryd.sizeOf119
  v46 := Tryd.zeroValue119
  t50 := Tryd.underlying114
  a50 := Tryd.isAgg114
  z50 := Tryd.sizeOf114
  v50 := Tryd.zeroValue114
  t53 := Tryd.underlying125
  a53 := Tryd.isAgg125
  z53 := Tryd.sizeOf125
  v53 := Tryd.zeroValue125
  t55 := Tryd.underlying52
  a55 := Tryd.isAgg52
  z55 := Tryd.sizeOf52
  v55 := Tryd.zeroValue52
  t66 := Tryd.underlying133
  a66 := Tryd.isAgg133
  z66 := Tryd.sizeOf133
  v66 := Tryd.zeroValue133
  t70 := Tryd.underlying136
  a70 := Tryd.isAgg136
  z70 := Tryd.sizeOf136
  v70 := Tryd.zeroValue136
  t76 := Tryd.underlying141
  a76 := Tryd.isAgg141
  z76 := Tryd.sizeOf141
  v76 := Tryd.zeroValue141
  t77 := Tryd.underlying142
  a77 := Tryd.isAgg142
  z77 := Tryd.sizeOf142
  v77 := Tryd.zeroValue142 }
end Go.Proofs
namespace Go.Proofs.YtjmnakkkimgifaaDoor
open Go.RowKit
theorem info_T : (Tryd.prog.info? 33).map (fun i => (i.zero, i.size, i.bytes)) = some (some (.slice none 0 0), 1, 24) := by kernel_rfl
theorem push_T {w : World} {ops : Array Oper} {rest : List Oper} {o : Oper} {a : Act} {Q : Exit → Act → World → Prop} (hgd : o.guard = none) (s x : Operand) (ho : o.op = .call { callee := .builtin .append, args := #[s, x], argTypes := #[23, 23] })
    (base : Nat) (v : Value) (l : List Rw) (n : Nat) (hn : n = l.length) (hs : a.eval s = v) (hown : w.ownsRow base 33 1 v n (fl encR l)) (B c : Nat) (y : Rw) (hx : a.eval x = .slice (some ⟨B, 0, none⟩) 1 c) (hB : Blk w B (encR y).toArray 33) (hl : n < 4398046511104) (hbase : base ≤ w.heap.size)
    (h : ∀ g cap w', w'.ownsRow base 33 1 (.slice (some ⟨g, 0, none⟩) (n + 1) cap) (n + 1) (fl encR (l ++ [y])) → w.grownBy w' v.ownBlock → (v.ownBlock = some g ∨ g = w.heap.size) → g < w'.heap.size → wpList Tryd.prog ops Q rest (a.put o.dst (.slice (some ⟨g, 0, none⟩) (n + 1) cap)) w') : wpList Tryd.prog ops Q (o :: rest) a w := by
  obtain ⟨i0, hi, hz0, hz1, hz2⟩ := info_parts info_T
  refine wpList_append_lies w hgd s x 23 ho base 33 i0 _ 1 24 Tryd.underlying23 hi hz0 hz1 hz2 rfl (by decide) v n (fl encR l) hs hown ⟨B, 0, none⟩ 1 c (encR y) hx (by simp [encR]) (World.news_of_block (cs := (encR y).toArray) (t := 33) (fr := (0, 0)) hB) (by intro u hu; simp [encR] at hu; first | (subst hu; rfl) | (rcases hu with rfl | rfl <;> rfl)) (by omega) (by unfold maxLen; omega) (by omega) hbase _ rfl ?_
  intro g cap w' h1 h2 h3 h4
  rw [← fl_snoc] at h1
  exact h g cap w' h1 h2 h3 h4
theorem spush_T {w : World} {ops : Array Oper} {o : Oper} {a : Act} {K : Act → World → Prop} {Q : Exit → Act → World → Prop} {E : Prop} (hgd : o.guard = none) (s x : Operand) (ho : o.op = .call { callee := .builtin .append, args := #[s, x], argTypes := #[23, 23] })
    (base : Nat) (v : Value) (l : List Rw) (n : Nat) (hn : n = l.length) (hs : a.eval s = v) (hown : w.ownsRow base 33 1 v n (fl encR l)) (B c : Nat) (y : Rw) (hx : a.eval x = .slice (some ⟨B, 0, none⟩) 1 c) (hB : Blk w B (encR y).toArray 33) (hl : n < 4398046511104) (hbase : base ≤ w.heap.size)
    (h : ∀ g cap w', w'.ownsRow base 33 1 (.slice (some ⟨g, 0, none⟩) (n + 1) cap) (n + 1) (fl encR (l ++ [y])) → w.grownBy w' v.ownBlock → (v.ownBlock = some g ∨ g = w.heap.size) → g < w'.heap.size → K (a.put o.dst (.slice (some ⟨g, 0, none⟩) (n + 1) cap)) w') : if Region.wanted o (yielded ops a.tmps) = true then Oper.wp Tryd.prog o a w K Q else E := by
  obtain ⟨i0, hi, hz0, hz1, hz2⟩ := info_parts info_T
  refine step_append_lies w hgd s x 23 ho base 33 i0 _ 1 24 Tryd.underlying23 hi hz0 hz1 hz2 rfl (by decide) v n (fl encR l) hs hown ⟨B, 0, none⟩ 1 c (encR y) hx (by simp [encR]) (World.news_of_block (cs := (encR y).toArray) (t := 33) (fr := (0, 0)) hB) (by intro u hu; simp [encR] at hu; first | (subst hu; rfl) | (rcases hu with rfl | rfl <;> rfl)) (by omega) (by unfold maxLen; omega) (by omega) hbase _ rfl ?_
  intro g cap w' h1 h2 h3 h4
  rw [← fl_snoc] at h1
  exact h g cap w' h1 h2 h3 h4
/-- The slice v has n rows; row i is the tree T i, in a block of its own. -/
structure TsW (w : World) (base : Nat) (v : Value) (n : Nat) (T : Nat → List Nd) (rs : Nat → Rw) : Prop where
  rows : w.ownsRow base 33 1 v n (fl encR ((List.range n).map rs))
  row : ∀ i, i < n → w.ownsRow base 41 2 (slR (rs i)) (T i).length (fl encNd (T i))
  len : ∀ i, i < n → (rs i).2.1 = (T i).length
  dis : ∀ i j, i < n → j < n → i ≠ j → (slR (rs i)).ownBlock = none ∨ (slR (rs i)).ownBlock ≠ (slR (rs j)).ownBlock
  far : ∀ i, i < n → (slR (rs i)).ownBlock = none ∨ (slR (rs i)).ownBlock ≠ v.ownBlock
section
variable {w w' : World} {base n : Nat} {v : Value} {T : Nat → List Nd} {rs : Nat → Rw}
theorem TsW.zero (w : World) (base : Nat) (T : Nat → List Nd) (rs : Nat → Rw) : TsW w base (.slice none 0 0) 0 T rs :=
  ⟨by simpa [fl] using World.ownsRow_nil _ _ _ _, fun _ h => absurd h (by omega), fun _ h => absurd h (by omega), fun _ _ h => absurd h (by omega), fun _ h => absurd h (by omega)⟩
theorem TsW.bl (h : TsW w base v n T rs) (hb : Below w.heap.size w w') : TsW w' base v n T rs := ⟨owns_below h.rows hb, fun i hi => owns_below (h.row i hi) hb, h.len, h.dis, h.far⟩
theorem TsW.mono {b' : Nat} (h : TsW w base v n T rs) (hb : b' ≤ base) : TsW w b' v n T rs := ⟨owns_mono h.rows hb, fun i hi => owns_mono (h.row i hi) hb, h.len, h.dis, h.far⟩
theorem TsW.congr {T' : Nat → List Nd} (h : TsW w base v n T rs) (e : ∀ i, i < n → T' i = T i) : TsW w base v n T' rs :=
  ⟨h.rows, fun i hi => by rw [e i hi]; exact h.row i hi, fun i hi => by rw [e i hi]; exact h.len i hi, h.dis, h.far⟩
/-- Row i's value, in the cells of v. -/
theorem TsW.cell (h : TsW w base v n T rs) (h0 : 0 < n) : ∃ g cap, v = .slice (some ⟨g, 0, .none⟩) n cap ∧ base ≤ g ∧ g < w.heap.size ∧ ∀ i, i < n → w.cell? ⟨g, i, .none⟩ = some (slR (rs i)) := by
  obtain ⟨a, cap, rfl, h1⟩ := owns_slice h.rows
  obtain ⟨b, o, e, _, hc⟩ := rdR (rd_of_owns h.rows) (by simp; omega)
  rcases h1 with h1 | ⟨g, hg, hg2, e2⟩
  · omega
  · rw [e2] at e
    simp only [Option.some.injEq, Addr.mk.injEq, and_true] at e
    obtain ⟨rfl, rfl⟩ := e
    refine ⟨g, cap, by rw [e2], hg, hg2, fun i hi => ?_⟩
    have := hc i (by simpa using hi)
    rw [Nat.zero_add] at this
    rw [this]
    simp [rA, rN, rC, hi, slR]
theorem TsW.rd (h : TsW w base v n T rs) {i : Nat} (hi : i < n) : ∃ a c, rs i = (a, (T i).length, c) ∧ Rd w a (fl encNd (T i)) := by
  have h1 := h.row i hi
  have h2 := h.len i hi
  obtain ⟨x, hx⟩ : ∃ x, x = rs i := ⟨_, rfl⟩
  rw [← hx] at h1 h2 ⊢
  obtain ⟨A, m, cp⟩ := x
  have h2' : m = (T i).length := h2
  subst h2'
  exact ⟨A, cp, rfl, rd_of_owns h1⟩
/-- One row more. -/
theorem TsW.push (h : TsW w base v n T rs) {v' : Value} {x : Rw} {X : List Nd} (hr : w'.ownsRow base 33 1 v' (n + 1) (fl encR ((List.range n).map rs ++ [x]))) (hg : w.grownBy w' v.ownBlock) (hv : v'.ownBlock = v.ownBlock ∨ v'.ownBlock = some w.heap.size)
    (hx : w.ownsRow base 41 2 (slR x) X.length (fl encNd X)) (hl : x.2.1 = X.length) (hxv : (slR x).ownBlock = .none ∨ (slR x).ownBlock ≠ v.ownBlock) (hxr : ∀ i, i < n → (slR (rs i)).ownBlock = .none ∨ (slR (rs i)).ownBlock ≠ (slR x).ownBlock) :
    TsW w' base v' (n + 1) (fun i => if i = n then X else T i) (fun i => if i = n then x else rs i) := by
  have old : ∀ (u : Rw) (U : List Nd), w.ownsRow base 41 2 (slR u) U.length (fl encNd U) → (slR u).ownBlock = .none ∨ (slR u).ownBlock ≠ v.ownBlock → (w'.ownsRow base 41 2 (slR u) U.length (fl encNd U) ∧ ((slR u).ownBlock = .none ∨ (slR u).ownBlock ≠ v'.ownBlock)) := fun u U hu hf => by
    refine ⟨hu.kept hg hf, ?_⟩
    rcases hf with hf | hf
    · exact .inl hf
    · rcases hv with hv | hv
      · rw [hv]; exact .inr hf
      · rw [hv]
        cases hq : (slR u).ownBlock with
        | none => exact .inl rfl
        | some k =>
          right
          intro e
          have := (hu.lt k hq).2
          have := Option.some.inj e
          omega
  refine ⟨?_, fun i hi => ?_, fun i hi => ?_, fun i j hi hj hij => ?_, fun i hi => ?_⟩
  · rw [List.range_succ, List.map_append]
    have e : (List.range n).map (fun i => if i = n then x else rs i) = (List.range n).map rs := List.map_congr_left fun i hi => by
      have := List.mem_range.1 hi
      rw [if_neg (by omega)]
    rw [e]
    simpa using hr
  · by_cases e : i = n
    · simp only [if_pos e]; exact (old x X hx hxv).1
    · simp only [if_neg e]; exact (old _ _ (h.row i (by omega)) (h.far i (by omega))).1
  · by_cases e : i = n
    · simp only [if_pos e]; exact hl
    · simp only [if_neg e]; exact h.len i (by omega)
  · by_cases e : i = n
    · have e2 : j ≠ n := by omega
      simp only [if_pos e, if_neg e2]
      rcases hxr j (by omega) with h1 | h1
      · cases hq : (slR x).ownBlock with
        | none => exact .inl rfl
        | some k => right; rw [h1]; intro e; cases e
      · exact .inr (Ne.symm h1)
    · by_cases e2 : j = n
      · simp only [if_neg e, if_pos e2]; exact hxr i (by omega)
      · simp only [if_neg e, if_neg e2]; exact h.dis i j (by omega) (by omega) hij
  · by_cases e : i = n
    · simp only [if_pos e]; exact (old x X hx hxv).2
    · simp only [if_neg e]; exact (old _ _ (h.row i (by omega)) (h.far i (by omega))).2
/-- A row that was laid later lies apart. -/
theorem TsW.apart {w0 : World} {k : Nat} {X : List Nd} (h : TsW w0 base v n T rs) {x : Rw} {b : Nat} (hx : w'.ownsRow b 41 2 (slR x) k (fl encNd X)) (hb : w0.heap.size ≤ b) : ((slR x).ownBlock = .none ∨ (slR x).ownBlock ≠ v.ownBlock) ∧ ∀ i, i < n → (slR (rs i)).ownBlock = .none ∨ (slR (rs i)).ownBlock ≠ (slR x).ownBlock := by
  refine ⟨?_, fun i hi => ?_⟩
  · cases hq : (slR x).ownBlock with
    | none => exact .inl rfl
    | some k =>
      right
      intro e
      have := (hx.lt k hq).1
      have := (h.rows.lt k e.symm).2
      omega
  · cases hq : (slR (rs i)).ownBlock with
    | none => exact .inl rfl
    | some k =>
      right
      intro e
      have := (hx.lt k e.symm).1
      have := ((h.row i hi).lt k hq).2
      omega
end
end Go.Proofs.YtjmnakkkimgifaaDoor
