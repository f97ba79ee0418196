/- The document's tree: Check. tree.Leaves; phylo.check. The document's tree: the way from the root. The document's tree: the deepest common node. The document's tree: the set of a node. The document's tree: common nodes and ways, plain. The document's tree: ways are increasing; the node above, plain. The sets of a tree's nodes: plain. The place of a leaf, plain. The set of a node: its leaves are those whose way it lies on. The sets of a tree's nodes fit one another (plain). What an innovation costs on a tree (plain). pars.changes: what an innovation costs on a tree. Binary trees without numbers, and how they are numbered (plain). A region that draws its order, in which each operation leaves a value that is good whatever came before it (no program in sight). A region that draws its order, in which each of the first n operations leaves something good whatever came before it, and the others are forced (no program in sight); a list that is appended to an empty row. -/
import Derived.Test.YtmfomjaomhohkaaDoorZA
import Derived.Deep.AppendSrc
import Derived.Deep.Upon
import Derived.StillTail
namespace Go.Proofs.YtmfomjaomhohkaaDoor
open Go Go.RowKit Go.Shelf
theorem chkE_bad {t : List Nd} (h : ¬ TreeOk t) : chkE t = 16 := if_neg h
theorem chkE_good {t : List Nd} (h : TreeOk t) : chkE t = 0 := if_pos h
theorem seenB_true {t : List Nd} {v u : Nat} (hu : u < v) (e : nS t u = nS t v) : seenB t v (nS t v) = true := by
  unfold seenB
  rw [List.any_eq_true]
  exact ⟨u, List.mem_range.2 hu, by simp [e]⟩
theorem seenB_false {t : List Nd} {v : Nat} (h : ∀ u, u < v → nS t u ≠ nS t v) : seenB t v (nS t v) = false := by
  unfold seenB
  rw [List.any_eq_false]
  intro u hu
  simp [h u (List.mem_range.1 hu)]
end Go.Proofs.YtmfomjaomhohkaaDoor
namespace Go.Proofs.YtmfomjaomhohkaaDoor
open Go.RowKit
/-- Node v is a leaf. -/
def leafB (t : List Nd) (v : Nat) : Bool := (famL t t.length v).isEmpty
def lvsL (t : List Nd) (k : Nat) : List Nat := (List.range k).filter (leafB t)
theorem lvsL_snoc (t : List Nd) (k : Nat) : lvsL t (k + 1) = lvsL t k ++ (if leafB t k then [k] else []) := by
  unfold lvsL
  rw [List.range_succ, List.filter_append]
  congr 1
  by_cases q : leafB t k <;> simp [q]
theorem lvsL_le (t : List Nd) (k : Nat) : (lvsL t k).length ≤ k := by
  have := List.length_filter_le (leafB t) (List.range k)
  simpa [lvsL] using this
theorem leafB_len (t : List Nd) (v : Nat) : leafB t v = decide ((famL t t.length v).length = 0) := by
  unfold leafB
  cases famL t t.length v <;> rfl
/-- The parents of a valid tree. -/
theorem tree_par {t : List Nd} (h : TreeOk t) : ∀ v, 0 < v → v < t.length → 0 ≤ nP t v ∧ nP t v < v := by
  intro v h0 hv
  obtain ⟨h1, h2, _⟩ := h.2.2 v hv
  rw [if_neg (by omega)] at h2
  exact ⟨h2, h1⟩
theorem chk_tree {t : List Nd} (h : chkE t = 0) : TreeOk t := by
  unfold chkE at h
  by_cases q : TreeOk t
  · exact q
  · rw [if_neg q] at h; omega
theorem chk_tree' {t : List Nd} (h : chkE t ≠ 0) : chkE t = 16 ∧ ¬ TreeOk t := by
  unfold chkE at *
  by_cases q : TreeOk t
  · rw [if_pos q] at h; omega
  · rw [if_neg q]; exact ⟨rfl, q⟩
/-- The leaves that tree.Leaves answers. -/
def lvT (t : List Nd) : List Nat := if chkE t = 0 then lvsL t t.length else []
/-- Why a table or a tree is not valid, or both do not fit each other. -/
def chkP (L : Int) (l : List Nat) (t : List Nd) : Int := if chkT L l ≠ 0 then chkT L l else if chkE t ≠ 0 then chkE t else if ((lvT t).length : Int) = L then 0 else 2
/-- No set of a valid table has a language from L on. -/
theorem chk_lt {L : Nat} {l : List Nat} (h : chkT (L : Int) l = 0) : L ≤ 32 ∧ l.length ≤ 64 ∧ ∀ x, x ∈ l → x < 2 ^ L := by
  unfold chkT at h
  by_cases q : (L : Int) < 0 ∨ 32 < (L : Int)
  · rw [if_pos q] at h; omega
  · rw [if_neg q] at h
    by_cases q2 : 64 < l.length
    · rw [if_pos q2] at h; omega
    · rw [if_neg q2] at h
      by_cases q3 : l.any (wide (L : Int).toNat) = true
      · rw [if_pos q3] at h; omega
      · refine ⟨by omega, by omega, fun x hx => ?_⟩
        rw [Int.toNat_natCast] at q3
        have := List.any_eq_false.1 (Bool.eq_false_iff.2 q3) x hx
        unfold wide at this
        simpa using this
theorem chkP_ok {L : Int} {l : List Nat} {t : List Nd} (h : chkP L l t = 0) : chkT L l = 0 ∧ TreeOk t ∧ ((lvT t).length : Int) = L := by
  unfold chkP at h
  by_cases q : chkT L l = 0
  · rw [if_neg (fun h => h q)] at h
    by_cases q2 : chkE t = 0
    · rw [if_neg (fun h => h q2)] at h
      by_cases q3 : ((lvT t).length : Int) = L
      · exact ⟨q, chk_tree q2, q3⟩
      · rw [if_neg q3] at h; omega
    · rw [if_pos q2] at h; exact absurd h q2
  · rw [if_pos q] at h; exact absurd h q
end Go.Proofs.YtmfomjaomhohkaaDoor
namespace Go.Proofs.YtmfomjaomhohkaaDoor
open Go Go.RowKit Go.Shelf
/-- The way from the root to v, by f steps at most. -/
def pthF (t : List Nd) : Nat → Nat → List Nat
  | 0, _ => [0]
  | f + 1, v => if v = 0 then [0] else pthF t f (nP t v).toNat ++ [v]
theorem pthF_le (t : List Nd) : ∀ f v, (pthF t f v).length ≤ f + 1 := by
  intro f
  induction f with
  | zero => intro v; simp [pthF]
  | succ f ih =>
    intro v
    unfold pthF
    split
    · simp
    · rw [List.length_append]; have := ih (nP t v).toNat; simp; omega
theorem pthF_eq {t : List Nd} {n : Nat} (hP : ∀ v, 0 < v → v < n → 0 ≤ nP t v ∧ nP t v < v) : ∀ f g v, v ≤ f → v ≤ g → v < n → pthF t f v = pthF t g v := by
  intro f
  induction f with
  | zero =>
    intro g v hf hg hv
    obtain rfl : v = 0 := by omega
    cases g <;> simp [pthF]
  | succ f ih =>
    intro g v hf hg hv
    by_cases e : v = 0
    · subst e; cases g <;> simp [pthF]
    · cases g with
      | zero => omega
      | succ g =>
        unfold pthF
        rw [if_neg e, if_neg e]
        have := hP v (by omega) hv
        rw [ih g (nP t v).toNat (by omega) (by omega) (by omega)]
end Go.Proofs.YtmfomjaomhohkaaDoor
namespace Go.Proofs.YtmfomjaomhohkaaDoor
open Go Go.RowKit Go.Shelf
/-- How far two lists agree. -/
def preL : List Nat → List Nat → Nat
  | x :: xs, y :: ys => if x = y then preL xs ys + 1 else 0
  | _, _ => 0
theorem preL_eq : ∀ (x y : List Nat) (k : Nat), k ≤ x.length → k ≤ y.length → (∀ i, i < k → vA x i = vA y i) → (k = x.length ∨ k = y.length ∨ vA x k ≠ vA y k) → preL x y = k := by
  intro x
  induction x with
  | nil => intro y k h1 _ _ _; simp at h1; subst h1; cases y <;> rfl
  | cons a x ih =>
    intro y k h1 h2 h3 h4
    cases y with
    | nil => simp at h2; subst h2; rfl
    | cons b y =>
      unfold preL
      cases k with
      | zero =>
        rcases h4 with h4 | h4 | h4
        · simp at h4
        · simp at h4
        · rw [if_neg (by simpa [vA] using h4)]
      | succ k =>
        have e : a = b := by have := h3 0 (by omega); simpa [vA] using this
        rw [if_pos e, ih y k (by simpa using h1) (by simpa using h2) (fun i hi => by have := h3 (i + 1) (by omega); simpa [vA] using this) (by simpa [vA] using h4)]
theorem pthF_pos (t : List Nd) : ∀ f v, 0 < (pthF t f v).length ∧ vA (pthF t f v) 0 = 0 := by
  intro f
  induction f with
  | zero => intro v; exact ⟨by simp [pthF], rfl⟩
  | succ f ih =>
    intro v
    unfold pthF
    split
    · exact ⟨by simp, rfl⟩
    · obtain ⟨h1, h2⟩ := ih (nP t v).toNat
      refine ⟨by rw [List.length_append]; omega, ?_⟩
      have e : vA (pthF t f (nP t v).toNat ++ [v]) 0 = vA (pthF t f (nP t v).toNat) 0 := by
        simp only [vA, List.getD_eq_getElem?_getD]
        rw [List.getElem?_append_left h1]
      rw [e]; exact h2
/-- The deepest common node. -/
def cmN (t : List Nd) (f u v : Nat) : Nat := vA (pthF t f u) (preL (pthF t f u) (pthF t f v) - 1)
end Go.Proofs.YtmfomjaomhohkaaDoor
namespace Go.Proofs.YtmfomjaomhohkaaDoor
open Go Go.RowKit Go.Shelf
/-- The set of v from the first k leaves. -/
def clF (t : List Nd) (n v : Nat) : Nat → Nat
  | 0 => 0
  | k + 1 => if cmN t n (vA (lvT t) k) v = v then clF t n v k ||| 2 ^ k else clF t n v k
theorem clF_lt (t : List Nd) (n v : Nat) : ∀ k, clF t n v k < 2 ^ k := by
  intro k
  induction k with
  | zero => exact Nat.one_pos
  | succ k ih =>
    have h : 2 ^ k < 2 ^ (k + 1) := Nat.pow_lt_pow_right (by omega) (by omega)
    unfold clF
    split
    · exact Nat.or_lt_two_pow (by omega) h
    · omega
end Go.Proofs.YtmfomjaomhohkaaDoor
namespace Go.Proofs.YtmfomjaomhohkaaDoor
open Go Go.RowKit Go.Shelf
theorem pth_succ {t : List Nd} {n : Nat} (hP : ∀ v, 0 < v → v < n → 0 ≤ nP t v ∧ nP t v < v) {x : Nat} (h0 : 0 < x) (hx : x < n) : pthF t n x = pthF t n (nP t x).toNat ++ [x] := by
  obtain ⟨m, rfl⟩ : ∃ m, n = m + 1 := ⟨n - 1, by omega⟩
  have h := hP x h0 hx
  have e : pthF t (m + 1) x = pthF t m (nP t x).toNat ++ [x] := by rw [pthF, if_neg (by omega)]
  rw [e, pthF_eq hP m (m + 1) (nP t x).toNat (by omega) (by omega) (by omega)]
theorem pth_zero (t : List Nd) (n : Nat) : pthF t n 0 = [0] := by cases n <;> simp [pthF]
theorem pth_last {t : List Nd} {n : Nat} (hP : ∀ v, 0 < v → v < n → 0 ≤ nP t v ∧ nP t v < v) {x : Nat} (hx : x < n) : vA (pthF t n x) ((pthF t n x).length - 1) = x := by
  by_cases e : x = 0
  · subst e; rw [pth_zero]; rfl
  · rw [pth_succ hP (by omega) hx]; simp [vA]
theorem pth_prefix {t : List Nd} {n : Nat} (hP : ∀ v, 0 < v → v < n → 0 ≤ nP t v ∧ nP t v < v) {v : Nat} : ∀ k x, x ≤ k → x < n → v ∈ pthF t n x → pthF t n v <+: pthF t n x := by
  intro k
  induction k with
  | zero =>
    intro x hk hx hm
    obtain rfl : x = 0 := by omega
    rw [pth_zero, List.mem_singleton] at hm
    subst hm
    exact List.prefix_refl _
  | succ k ih =>
    intro x hk hx hm
    by_cases e : x = 0
    · subst e
      rw [pth_zero, List.mem_singleton] at hm
      subst hm
      exact List.prefix_refl _
    · have hp := hP x (by omega) hx
      have he := pth_succ hP (show 0 < x by omega) hx
      rw [he, List.mem_append] at hm
      rcases hm with hm | hm
      · rw [he]
        exact (ih (nP t x).toNat (by omega) (by omega) hm).trans (List.prefix_append _ _)
      · rw [List.mem_singleton] at hm
        subst hm
        exact List.prefix_refl _
theorem preL_le : ∀ x y : List Nat, preL x y ≤ x.length := by
  intro x
  induction x with
  | nil => intro y; cases y <;> exact Nat.le_refl _
  | cons a x ih =>
    intro y
    cases y with
    | nil => exact Nat.zero_le _
    | cons b y =>
      unfold preL
      split
      · have := ih y; simp; omega
      · omega
/-- The deepest common node of x and v is v exactly if v lies on the way to x. -/
theorem cmN_iff {t : List Nd} {n : Nat} (hP : ∀ v, 0 < v → v < n → 0 ≤ nP t v ∧ nP t v < v) {x v : Nat} (hx : x < n) (hv : v < n) : cmN t n x v = v ↔ v ∈ pthF t n x := by
  obtain ⟨h1, _⟩ := pthF_pos t n x
  obtain ⟨h3, _⟩ := pthF_pos t n v
  constructor
  · intro h
    unfold cmN at h
    have hj : preL (pthF t n x) (pthF t n v) - 1 < (pthF t n x).length := by
      have := preL_le (pthF t n x) (pthF t n v); omega
    rw [vA_get hj] at h
    rw [← h]; exact List.getElem_mem hj
  · intro hm
    obtain ⟨s, hs⟩ := pth_prefix hP x x (Nat.le_refl _) hx hm
    have hat : ∀ i, i < (pthF t n v).length → vA (pthF t n x) i = vA (pthF t n v) i := fun i hi => by
      rw [← hs]
      simp only [vA, List.getD_eq_getElem?_getD]
      rw [List.getElem?_append_left hi]
    have hpe : preL (pthF t n x) (pthF t n v) = (pthF t n v).length :=
      preL_eq _ _ _ (by rw [← hs, List.length_append]; omega) (Nat.le_refl _) hat (.inr (.inl rfl))
    unfold cmN
    rw [hpe, hat _ (by omega), pth_last hP hv]
end Go.Proofs.YtmfomjaomhohkaaDoor
namespace Go.Proofs.YtmfomjaomhohkaaDoor
open Go Go.RowKit Go.Shelf
theorem pth_lt {t : List Nd} {n : Nat} (hP : ∀ v, 0 < v → v < n → 0 ≤ nP t v ∧ nP t v < v) : ∀ k x, x ≤ k → x < n → ∀ u, u ∈ pthF t n x → u ≤ x := by
  intro k
  induction k with
  | zero =>
    intro x hk hx u hu
    obtain rfl : x = 0 := by omega
    rw [pth_zero, List.mem_singleton] at hu
    omega
  | succ k ih =>
    intro x hk hx u hu
    by_cases e : x = 0
    · subst e
      rw [pth_zero, List.mem_singleton] at hu
      omega
    · have hp := hP x (by omega) hx
      rw [pth_succ hP (by omega) hx, List.mem_append] at hu
      rcases hu with hu | hu
      · have := ih (nP t x).toNat (by omega) (by omega) u hu; omega
      · rw [List.mem_singleton] at hu; omega
theorem pth_self {t : List Nd} {n : Nat} (hP : ∀ v, 0 < v → v < n → 0 ≤ nP t v ∧ nP t v < v) {x : Nat} (hx : x < n) : x ∈ pthF t n x := by
  by_cases e : x = 0
  · subst e; rw [pth_zero]; simp
  · rw [pth_succ hP (by omega) hx]; simp
/-- Two nodes of one way: the lower one's way has the upper one. -/
theorem pth_chain {t : List Nd} {n : Nat} (hP : ∀ v, 0 < v → v < n → 0 ≤ nP t v ∧ nP t v < v) : ∀ k x, x ≤ k → x < n → ∀ u v, u ∈ pthF t n x → v ∈ pthF t n x → u ≤ v → u ∈ pthF t n v := by
  intro k
  induction k with
  | zero =>
    intro x hk hx u v hu hv _
    obtain rfl : x = 0 := by omega
    rw [pth_zero, List.mem_singleton] at hv
    subst hv; exact hu
  | succ k ih =>
    intro x hk hx u v hu hv huv
    by_cases e : x = 0
    · subst e
      rw [pth_zero, List.mem_singleton] at hv
      subst hv; exact hu
    · have hp := hP x (by omega) hx
      have he := pth_succ hP (show 0 < x by omega) hx
      have hv0 := hv
      have hu0 := hu
      rw [he, List.mem_append] at hv hu
      rcases hv with hv | hv
      · have hvl := pth_lt hP (nP t x).toNat _ (Nat.le_refl _) (by omega) v hv
        rcases hu with hu | hu
        · exact ih (nP t x).toNat (by omega) (by omega) u v hu hv huv
        · rw [List.mem_singleton] at hu; omega
      · rw [List.mem_singleton] at hv
        subst hv; exact hu0
/-- If nothing of the way lies between v and c, v is the node above c. -/
theorem pth_above {t : List Nd} {n : Nat} (hP : ∀ v, 0 < v → v < n → 0 ≤ nP t v ∧ nP t v < v) {x v c : Nat} (hx : x < n) (hv : v ∈ pthF t n x) (hc : c ∈ pthF t n x) (hvc : v < c) (hno : ∀ u, u ∈ pthF t n x → v < u → c ≤ u) : nP t c = v := by
  have hcn : c < n := Nat.lt_of_le_of_lt (pth_lt hP x x (Nat.le_refl _) hx c hc) hx
  have hp := hP c (by omega) hcn
  have h1 := pth_chain hP x x (Nat.le_refl _) hx v c hv hc (by omega)
  have he := pth_succ hP (show 0 < c by omega) hcn
  rw [he, List.mem_append] at h1
  have hpm : (nP t c).toNat ∈ pthF t n x := by
    have h2 := pth_prefix hP x x (Nat.le_refl _) hx hc
    refine h2.subset ?_
    rw [he]
    exact List.mem_append_left _ (pth_self hP (by omega))
  rcases h1 with h1 | h1
  · have h3 := pth_lt hP (nP t c).toNat _ (Nat.le_refl _) (by omega) v h1
    rcases Nat.lt_or_ge v (nP t c).toNat with h4 | h4
    · have := hno _ hpm h4; omega
    · omega
  · rw [List.mem_singleton] at h1; omega
end Go.Proofs.YtmfomjaomhohkaaDoor
namespace Go.Proofs.YtmfomjaomhohkaaDoor
open Go.RowKit
/-- Has node v a child among the first k? -/
def inB (t : List Nd) (k v : Nat) : Bool := (List.range k).any (kidB t v)
theorem inB_succ (t : List Nd) (k v : Nat) : inB t (k + 1) v = (inB t k v || kidB t v k) := by
  unfold inB
  rw [List.range_succ, List.any_append]
  simp
theorem leafB_in (t : List Nd) (v : Nat) : leafB t v = !inB t t.length v := by
  unfold leafB inB famL
  rw [Bool.eq_iff_iff]
  simp [List.isEmpty_iff]
/-- What a leaf begins with. -/
def botS (t : List Nd) (v : Nat) : Nat := if leafB t v then 2 ^ (lvsL t v).length else 0
/-- The sets behind j steps upwards. -/
def upS (t : List Nd) : Nat → Nat → Nat
  | 0, v => botS t v
  | j + 1, v => if nP t (t.length - 1 - j) = (v : Int) then upS t j v ||| upS t j (t.length - 1 - j) else upS t j v
/-- The set of a node. -/
def cl (t : List Nd) (v : Nat) : Nat := upS t (t.length - 1) v
theorem lvsL_mono (t : List Nd) {j k : Nat} (h : j ≤ k) : (lvsL t j).length ≤ (lvsL t k).length := by
  induction k with
  | zero => have : j = 0 := by omega
            subst this; exact Nat.le_refl _
  | succ k ih =>
    by_cases e : j = k + 1
    · subst e; exact Nat.le_refl _
    · have := ih (by omega)
      rw [lvsL_snoc, List.length_append]; omega
theorem upS_lt {t : List Nd} {n : Nat} (hL : (lvsL t t.length).length ≤ n) : ∀ j v, v < t.length → upS t j v < 2 ^ n := by
  intro j
  induction j with
  | zero =>
    intro v hv
    unfold upS botS
    by_cases q : leafB t v = true
    · rw [if_pos q]
      refine Nat.pow_lt_pow_right (by omega) ?_
      have h1 := lvsL_snoc t v
      rw [if_pos q] at h1
      have h2 := lvsL_mono t (show v + 1 ≤ t.length from hv)
      rw [h1, List.length_append, List.length_singleton] at h2
      omega
    · rw [if_neg q]; exact Nat.two_pow_pos _
  | succ j ih =>
    intro v hv
    unfold upS
    split
    · exact Nat.or_lt_two_pow (ih v hv) (ih _ (by omega))
    · exact ih v hv
theorem cl_lt {t : List Nd} {n : Nat} (hL : (lvsL t t.length).length ≤ n) (v : Nat) (hv : v < t.length) : cl t v < 2 ^ n := upS_lt hL _ v hv
/-- What the iterator hands out. -/
def ndsL (t : List Nd) (k : Nat) : List (Nat × Nat) := (List.range k).map fun v => (v, cl t v)
theorem ndsL_snoc (t : List Nd) (k : Nat) : ndsL t (k + 1) = ndsL t k ++ [(k, cl t k)] := by simp [ndsL, List.range_succ]
theorem ndsL_len (t : List Nd) (k : Nat) : (ndsL t k).length = k := by simp [ndsL]
end Go.Proofs.YtmfomjaomhohkaaDoor
namespace Go.Proofs.YtmfomjaomhohkaaDoor
open Go Go.RowKit Go.Shelf
theorem lvs_at (t : List Nd) : ∀ n k, k < (lvsL t n).length → vA (lvsL t n) k < n ∧ leafB t (vA (lvsL t n) k) = true ∧ (lvsL t (vA (lvsL t n) k)).length = k := by
  intro n
  induction n with
  | zero => intro k hk; simp [lvsL] at hk
  | succ n ih =>
    intro k hk
    rw [lvsL_snoc] at hk ⊢
    by_cases q : k < (lvsL t n).length
    · have e : ∀ m : List Nat, vA (lvsL t n ++ m) k = vA (lvsL t n) k := fun m => by
        simp only [vA, List.getD_eq_getElem?_getD]; rw [List.getElem?_append_left q]
      rw [e]
      obtain ⟨h1, h2, h3⟩ := ih k q
      exact ⟨by omega, h2, h3⟩
    · by_cases p : leafB t n = true
      · rw [if_pos p] at hk ⊢
        rw [List.length_append, List.length_singleton] at hk
        obtain rfl : k = (lvsL t n).length := by omega
        have e : vA (lvsL t n ++ [n]) (lvsL t n).length = n := by simp [vA]
        rw [e]
        exact ⟨by omega, p, rfl⟩
      · rw [if_neg p, List.append_nil] at hk
        exact absurd hk q
/-- The bits of what a node begins with. -/
theorem botS_bit (t : List Nd) {n k v : Nat} (hk : k < (lvsL t n).length) : (botS t v).testBit k = true ↔ vA (lvsL t n) k = v ∨ (leafB t v = true ∧ (lvsL t v).length = k ∧ vA (lvsL t n) k ≠ v) := by
  obtain ⟨h1, h2, h3⟩ := lvs_at t n k hk
  unfold botS
  by_cases p : leafB t v = true
  · rw [if_pos p, Nat.testBit_two_pow]
    simp only [decide_eq_true_eq]
    constructor
    · intro h
      by_cases e : vA (lvsL t n) k = v
      · exact .inl e
      · exact .inr ⟨p, h, e⟩
    · rintro (h | ⟨_, h, _⟩)
      · rw [← h]; exact h3
      · exact h
  · rw [if_neg p]
    simp only [Nat.zero_testBit]
    constructor
    · intro h; cases h
    · rintro (h | ⟨h, _⟩)
      · rw [h] at h2; exact absurd h2 p
      · exact absurd h p
end Go.Proofs.YtmfomjaomhohkaaDoor
namespace Go.Proofs.YtmfomjaomhohkaaDoor
open Go Go.RowKit Go.Shelf
theorem lvs_inj {t : List Nd} {u v : Nat} (hu : leafB t u = true) (hv : leafB t v = true) (h : (lvsL t u).length = (lvsL t v).length) : u = v := by
  have key : ∀ a b, a < b → leafB t a = true → (lvsL t a).length < (lvsL t b).length := fun a b hab ha => by
    have h1 := lvsL_snoc t a
    rw [if_pos ha] at h1
    have h2 := lvsL_mono t (show a + 1 ≤ b from hab)
    rw [h1, List.length_append, List.length_singleton] at h2
    omega
  rcases Nat.lt_trichotomy u v with q | q | q
  · have := key u v q hu; omega
  · exact q
  · have := key v u q hv; omega
theorem botS_iff (t : List Nd) {n k v : Nat} (hk : k < (lvsL t n).length) : (botS t v).testBit k = true ↔ vA (lvsL t n) k = v := by
  rw [botS_bit t hk]
  obtain ⟨_, h2, h3⟩ := lvs_at t n k hk
  constructor
  · rintro (h | ⟨hl, hlen, hne⟩)
    · exact h
    · exact absurd (lvs_inj h2 hl (by rw [h3, hlen])) hne
  · exact .inl
theorem upS_bit {t : List Nd} {n k : Nat} (hn : t.length = n) (hP : ∀ v, 0 < v → v < n → 0 ≤ nP t v ∧ nP t v < v) (_h0 : nP t 0 < 0) (hk : k < (lvsL t n).length) : ∀ j v, j + 1 ≤ n → v < n →
    ((upS t j v).testBit k = true ↔ v ∈ pthF t n (vA (lvsL t n) k) ∧ ∀ u, u ∈ pthF t n (vA (lvsL t n) k) → v < u → n - j ≤ u) := by
  have hx := (lvs_at t n k hk).1
  have hb : ∀ v, (botS t v).testBit k = true ↔ vA (lvsL t n) k = v := fun v => botS_iff t hk
  generalize vA (lvsL t n) k = x at *
  intro j
  induction j with
  | zero =>
    intro v _ hv
    show (botS t v).testBit k = true ↔ _
    rw [hb]
    constructor
    · rintro rfl
      refine ⟨pth_self hP hx, fun u hu hlt => ?_⟩
      have := pth_lt hP x x (Nat.le_refl _) hx u hu; omega
    · rintro ⟨h1, h2⟩
      have h3 := pth_lt hP x x (Nat.le_refl _) hx v h1
      rcases Nat.lt_or_ge v x with h4 | h4
      · have := h2 x (pth_self hP hx) h4; omega
      · omega
  | succ j ih =>
    intro v hj hv
    obtain ⟨c, hc⟩ : ∃ c, c = n - 1 - j := ⟨_, rfl⟩
    have hc0 : 0 < c := by omega
    have hcn : c < n := by omega
    have hups : upS t (j + 1) v = if nP t c = (v : Int) then upS t j v ||| upS t j c else upS t j v := by rw [upS, hn, hc]
    have ec : n - (j + 1) = c := by omega
    have ej : n - j = c + 1 := by omega
    rw [hups, ec]
    clear hups
    have hv1 := ih v (by omega) hv
    have hc1 := ih c (by omega) hcn
    rw [ej] at hv1 hc1
    by_cases e : nP t c = (v : Int)
    · rw [if_pos e, Nat.testBit_or, Bool.or_eq_true, hv1, hc1]
      have hpc := hP c hc0 hcn
      constructor
      · rintro (⟨h1, h2⟩ | ⟨h1, h2⟩)
        · exact ⟨h1, fun u hu hlt => by have := h2 u hu hlt; omega⟩
        · have hvx : v ∈ pthF t n x := by
            refine (pth_prefix hP x x (Nat.le_refl _) hx h1).subset ?_
            rw [pth_succ hP hc0 hcn, e]
            exact List.mem_append_left _ (by rw [Int.toNat_natCast]; exact pth_self hP hv)
          refine ⟨hvx, fun u hu hlt => ?_⟩
          rcases Nat.lt_or_ge u c with h4 | h4
          · have h5 := pth_chain hP x x (Nat.le_refl _) hx u c hu h1 (by omega)
            rw [pth_succ hP hc0 hcn, e, Int.toNat_natCast, List.mem_append] at h5
            rcases h5 with h5 | h5
            · have := pth_lt hP v v (Nat.le_refl _) hv u h5; omega
            · rw [List.mem_singleton] at h5; omega
          · exact h4
      · rintro ⟨h1, h2⟩
        by_cases hcx : c ∈ pthF t n x
        · exact .inr ⟨hcx, fun u hu hlt => hlt⟩
        · exact .inl ⟨h1, fun u hu hlt => by
            have h3 := h2 u hu hlt
            rcases Nat.lt_or_ge c u with h4 | h4
            · exact h4
            · obtain rfl : u = c := by omega
              exact absurd hu hcx⟩
    · rw [if_neg e, hv1]
      constructor
      · rintro ⟨h1, h2⟩
        exact ⟨h1, fun u hu hlt => by have := h2 u hu hlt; omega⟩
      · rintro ⟨h1, h2⟩
        refine ⟨h1, fun u hu hlt => ?_⟩
        have h3 := h2 u hu hlt
        rcases Nat.lt_or_ge c u with h4 | h4
        · exact h4
        · obtain rfl : u = c := by omega
          exact absurd (pth_above hP hx h1 hu hlt h2) e
theorem cl_bit {t : List Nd} {n k v : Nat} (hn : t.length = n) (hP : ∀ v, 0 < v → v < n → 0 ≤ nP t v ∧ nP t v < v) (h0 : nP t 0 < 0) (hk : k < (lvsL t n).length) (hv : v < n) : (cl t v).testBit k = true ↔ v ∈ pthF t n (vA (lvsL t n) k) := by
  unfold cl
  rw [hn, upS_bit hn hP h0 hk (n - 1) v (by omega) hv]
  exact ⟨fun h => h.1, fun h => ⟨h, fun u _ hlt => by omega⟩⟩
theorem clF_bit (t : List Nd) (n v k : Nat) : ∀ m, (clF t n v m).testBit k = true ↔ k < m ∧ cmN t n (vA (lvT t) k) v = v := by
  intro m
  induction m with
  | zero => simp [clF]
  | succ m ih =>
    unfold clF
    by_cases q : cmN t n (vA (lvT t) m) v = v
    · rw [if_pos q, Nat.testBit_or, Bool.or_eq_true, ih, Nat.testBit_two_pow]
      simp only [decide_eq_true_eq]
      constructor
      · rintro (⟨h1, h2⟩ | h)
        · exact ⟨by omega, h2⟩
        · subst h; exact ⟨by omega, q⟩
      · rintro ⟨h1, h2⟩
        rcases Nat.lt_or_ge k m with h3 | h3
        · exact .inl ⟨h3, h2⟩
        · exact .inr (by omega)
    · rw [if_neg q, ih]
      constructor
      · rintro ⟨h1, h2⟩; exact ⟨by omega, h2⟩
      · rintro ⟨h1, h2⟩
        refine ⟨?_, h2⟩
        rcases Nat.lt_or_ge k m with h3 | h3
        · exact h3
        · obtain rfl : k = m := by omega
          exact absurd h2 q
end Go.Proofs.YtmfomjaomhohkaaDoor
namespace Go.Proofs.YtmfomjaomhohkaaDoor
open Go Go.RowKit Go.Shelf
theorem bit_of_ne {x : Nat} (h : x ≠ 0) : ∃ k, x.testBit k = true := by
  refine Classical.byContradiction fun hn => h ?_
  apply Nat.eq_of_testBit_eq
  intro k
  rw [Nat.zero_testBit]
  cases hb : x.testBit k with
  | false => rfl
  | true => exact absurd ⟨k, hb⟩ hn
theorem pth_root (t : List Nd) (n v : Nat) : 0 ∈ pthF t n v := by
  obtain ⟨h1, h2⟩ := pthF_pos t n v
  rw [vA_get h1] at h2
  rw [← h2]; exact List.getElem_mem h1
theorem tok_par {t : List Nd} {n : Nat} (hn : t.length = n) (hok : TreeOk t) : ∀ v, 0 < v → v < n → 0 ≤ nP t v ∧ nP t v < v := fun v h1 h2 => tree_par hok v h1 (by rw [hn]; exact h2)
theorem tok_root {t : List Nd} (hok : TreeOk t) : nP t 0 < 0 := (hok.2.2 0 (by have := hok.1; omega)).1
theorem tok_lv {t : List Nd} {n : Nat} (hn : t.length = n) (hok : TreeOk t) : lvT t = lvsL t n := by unfold lvT; rw [if_pos (chkE_good hok), hn]
theorem tok_bit {t : List Nd} {n k v : Nat} (hn : t.length = n) (hok : TreeOk t) (hk : k < (lvT t).length) (hv : v < n) : (cl t v).testBit k = true ↔ v ∈ pthF t n (vA (lvT t) k) := by
  rw [tok_lv hn hok] at hk ⊢
  exact cl_bit hn (tok_par hn hok) (tok_root hok) hk hv
theorem tok_leaf {t : List Nd} {n k : Nat} (hn : t.length = n) (hok : TreeOk t) (hk : k < (lvT t).length) : vA (lvT t) k < n ∧ leafB t (vA (lvT t) k) = true := by
  rw [tok_lv hn hok] at hk ⊢
  exact ⟨(lvs_at t n k hk).1, (lvs_at t n k hk).2.1⟩
theorem tok_lt {t : List Nd} {n v : Nat} (hn : t.length = n) (hok : TreeOk t) (hv : v < n) : cl t v < 2 ^ (lvT t).length := by
  rw [tok_lv hn hok]
  exact cl_lt (n := (lvsL t n).length) (by rw [hn]; exact Nat.le_refl _) v (by rw [hn]; exact hv)
theorem bit_lt {x k m : Nat} (hx : x < 2 ^ m) (h : x.testBit k = true) : k < m := by
  rcases Nat.lt_or_ge k m with q | q
  · exact q
  · have hp : 2 ^ m ≤ 2 ^ k := Nat.pow_le_pow_right (by omega) q
    rw [Nat.testBit_lt_two_pow (by omega)] at h; cases h
/-- What lies below has fewer leaves. -/
theorem cl_sub {t : List Nd} {n u v : Nat} (hn : t.length = n) (hok : TreeOk t) (hv : v < n) (h : u ∈ pthF t n v) : cl t u &&& cl t v = cl t v := by
  have hP := tok_par hn hok
  have hu : u < n := Nat.lt_of_le_of_lt (pth_lt hP v v (Nat.le_refl _) hv u h) hv
  apply Nat.eq_of_testBit_eq
  intro k
  rw [Nat.testBit_and]
  cases hb : (cl t v).testBit k with
  | false => simp
  | true =>
    have hk := bit_lt (tok_lt hn hok hv) hb
    have h1 := (tok_bit hn hok hk hv).1 hb
    have h2 := (pth_prefix hP _ _ (Nat.le_refl _) (tok_leaf hn hok hk).1 h1).subset h
    rw [(tok_bit hn hok hk hu).2 h2]; rfl
theorem sub_bit {a b k : Nat} (h : a &&& b = b) (hb : b.testBit k = true) : a.testBit k = true := by
  have := congrArg (fun y => y.testBit k) h
  simp only [Nat.testBit_and, hb, Bool.and_true] at this
  exact this
/-- Two nodes with a common leaf: the one with the smaller number is above. -/
theorem cl_chain {t : List Nd} {n u v k : Nat} (hn : t.length = n) (hok : TreeOk t) (hu : u < n) (hv : v < n) (h1 : (cl t u).testBit k = true) (h2 : (cl t v).testBit k = true) (huv : u ≤ v) : u ∈ pthF t n v := by
  have hk := bit_lt (tok_lt hn hok hu) h1
  exact pth_chain (tok_par hn hok) _ _ (Nat.le_refl _) (tok_leaf hn hok hk).1 u v ((tok_bit hn hok hk hu).1 h1) ((tok_bit hn hok hk hv).1 h2) huv
theorem and_bit {a b : Nat} (h : a &&& b ≠ 0) : ∃ k, a.testBit k = true ∧ b.testBit k = true := by
  obtain ⟨k, hk⟩ := bit_of_ne h
  rw [Nat.testBit_and, Bool.and_eq_true] at hk
  exact ⟨k, hk⟩
/-- The sets of two nodes fit. -/
theorem cl_fit {t : List Nd} {n u v : Nat} (hn : t.length = n) (hok : TreeOk t) (hu : u < n) (hv : v < n) : fitB (cl t u) (cl t v) = true := by
  unfold fitB
  by_cases h0 : cl t u &&& cl t v = 0
  · rw [decide_eq_true h0]; rfl
  · obtain ⟨k, h1, h2⟩ := and_bit h0
    rcases Nat.le_total u v with q | q
    · have := cl_sub hn hok hv (cl_chain hn hok hu hv h1 h2 q)
      rw [decide_eq_true this]; simp
    · have := cl_sub hn hok hu (cl_chain hn hok hv hu h2 h1 q)
      rw [Nat.and_comm] at this
      rw [decide_eq_true this]; simp
theorem leaf_end {t : List Nd} {n l : Nat} (hn : t.length = n) (hok : TreeOk t) (hl : leafB t l = true) : ∀ k y, y ≤ k → y < n → l ∈ pthF t n y → y = l := by
  have hP := tok_par hn hok
  intro k
  induction k with
  | zero =>
    intro y hy hyn h
    obtain rfl : y = 0 := by omega
    rw [pth_zero, List.mem_singleton] at h; exact h.symm
  | succ k ih =>
    intro y hy hyn h
    by_cases e : y = 0
    · subst e; rw [pth_zero, List.mem_singleton] at h; exact h.symm
    · obtain ⟨h1, h2⟩ := hP y (by omega) hyn
      rw [pth_succ hP (by omega) hyn, List.mem_append] at h
      rcases h with h | h
      · have e2 := ih (nP t y).toNat (by omega) (by omega) h
        have hk : kidB t l y = true := by unfold kidB; rw [decide_eq_true (by omega), decide_eq_true (by omega)]; rfl
        rw [leafB_in] at hl
        have : inB t t.length l = true := List.any_eq_true.2 ⟨y, List.mem_range.2 (by omega), hk⟩
        rw [this] at hl; cases hl
      · rw [List.mem_singleton] at h; exact h.symm
theorem leaf_at {t : List Nd} {n l : Nat} (hn : t.length = n) (hok : TreeOk t) (hl : leafB t l = true) (hln : l < n) : ∃ k, k < (lvT t).length ∧ vA (lvT t) k = l := by
  rw [tok_lv hn hok]
  have hm : l ∈ lvsL t n := List.mem_filter.2 ⟨List.mem_range.2 hln, hl⟩
  obtain ⟨k, hk, e⟩ := List.mem_iff_getElem.1 hm
  exact ⟨k, hk, by rw [vA_get hk]; exact e⟩
/-- Each node has a leaf. -/
theorem cl_ne {t : List Nd} {n : Nat} (hn : t.length = n) (hok : TreeOk t) : ∀ j v, n - v ≤ j → v < n → cl t v ≠ 0 := by
  have hP := tok_par hn hok
  intro j
  induction j with
  | zero => intro v h1 h2; omega
  | succ j ih =>
    intro v h1 hv
    by_cases q : leafB t v = true
    · obtain ⟨k, hk, e⟩ := leaf_at hn hok q hv
      have hb : (cl t v).testBit k = true := (tok_bit hn hok hk hv).2 (by rw [e]; exact pth_self hP hv)
      intro h; rw [h, Nat.zero_testBit] at hb; cases hb
    · rw [leafB_in, hn] at q
      have q2 : inB t n v = true := by cases h : inB t n v <;> simp_all
      obtain ⟨c, hc, hk⟩ := List.any_eq_true.1 q2
      have hcn := List.mem_range.1 hc
      unfold kidB at hk
      rw [Bool.and_eq_true, decide_eq_true_eq, decide_eq_true_eq] at hk
      obtain ⟨hc0, hcp⟩ := hk
      obtain ⟨p0, p1⟩ := hP c hc0 hcn
      have hz := ih c (by omega) hcn
      have hm : v ∈ pthF t n c := by
        rw [pth_succ hP hc0 hcn]
        refine List.mem_append_left _ ?_
        rw [hcp, Int.toNat_natCast]; exact pth_self hP hv
      have hs := cl_sub hn hok hcn hm
      intro h; rw [h, Nat.zero_and] at hs; exact hz hs.symm
theorem u8_inj {a b : Nat} (ha : a < 256) (hb : b < 256) (h : UInt8.ofNat a = UInt8.ofNat b) : a = b := by
  have := congrArg UInt8.toNat h
  rw [UInt8.toNat_ofNat', UInt8.toNat_ofNat'] at this
  omega
theorem nmB_of {s : ByteArray} (h1 : ∀ c ∈ s.data.toList, ltrI c.toNat = true) (h2 : 0 < s.data.toList.length) (h3 : s.data.toList.length ≤ 24) : nmB s = true := by
  have e : s.size = s.data.toList.length := Array.length_toList.symm
  unfold nmB
  rw [List.all_eq_true.2 h1, decide_eq_true (by omega), decide_eq_true (by omega)]; rfl
end Go.Proofs.YtmfomjaomhohkaaDoor
namespace Go.Proofs.YtmfomjaomhohkaaDoor
open Go Go.RowKit Go.Shelf
theorem sortE {α : Type} {R : α → α → Prop} (irr : ∀ x, ¬ R x x) (asy : ∀ x y, R x y → R y x → False) {l m : List α} (hl : l.Pairwise R) (hm : m.Pairwise R) (h : ∀ x, x ∈ l ↔ x ∈ m) : l = m := by
  have nl : l.Nodup := hl.imp (fun {a b} h e => by subst e; exact irr _ h)
  have nm : m.Nodup := hm.imp (fun {a b} h e => by subst e; exact irr _ h)
  exact List.Perm.eq_of_pairwise (fun a b _ _ h1 h2 => (asy a b h1 h2).elim) hl hm ((List.perm_ext_iff_of_nodup nl nm).2 h)
/-- What lies below a node after j steps from the last node on. -/
def agg (t : List Nd) (w : Nat → Nat) : Nat → Nat → Nat
  | 0, v => w v
  | j + 1, v => agg t w j v + if nP t (t.length - 1 - j) = (v : Int) then agg t w j (t.length - 1 - j) else 0
/-- Is v a leaf whose language's kind is not b? -/
def offB (t : List Nd) (x v : Nat) (b : Bool) : Bool := leafB t v && (x.testBit (lvsL t v).length != b)
/-- What kind b costs at node v after j steps; the other kind of a leaf costs I. -/
def upC (I : Nat) (t : List Nd) (x : Nat) : Nat → Nat → Bool → Nat
  | 0, v, b => if offB t x v b then I else 0
  | j + 1, v, b => upC I t x j v b + if nP t (t.length - 1 - j) = (v : Int) then min (upC I t x j (t.length - 1 - j) b) (upC I t x j (t.length - 1 - j) (!b) + 1) else 0
/-- The changes. -/
def chgI (I : Nat) (t : List Nd) (x : Nat) : Nat := min (upC I t x (t.length - 1) 0 false) (upC I t x (t.length - 1) 0 true)
def chg (t : List Nd) (x : Nat) : Nat := chgI 1 t x
def sumF (f : Nat → Nat) : Nat → Nat
  | 0 => 0
  | k + 1 => sumF f k + f k
theorem sumF_congr {f g : Nat → Nat} : ∀ k, (∀ i, i < k → f i = g i) → sumF f k = sumF g k := by
  intro k
  induction k with
  | zero => intro _; rfl
  | succ k ih => intro h; unfold sumF; rw [ih fun i hi => h i (by omega), h k (by omega)]
theorem sumF_add (f g : Nat → Nat) : ∀ k, sumF (fun i => f i + g i) k = sumF f k + sumF g k := by
  intro k
  induction k with
  | zero => rfl
  | succ k ih => unfold sumF; rw [ih]; omega
theorem sumF_one (p : Nat) (a : Nat) : ∀ k, sumF (fun i => if (p : Int) = (i : Int) then a else 0) k = if p < k then a else 0 := by
  intro k
  induction k with
  | zero => rfl
  | succ k ih =>
    unfold sumF
    rw [ih]
    by_cases e : p = k
    · subst e; simp
    · rw [if_neg (show ¬ (p : Int) = (k : Int) by omega)]
      by_cases q : p < k
      · rw [if_pos q, if_pos (show p < k + 1 by omega)]; rfl
      · rw [if_neg q, if_neg (show ¬ p < k + 1 by omega)]
/-- Nothing is lost on the way up. -/
theorem agg_sum {t : List Nd} {n : Nat} (hn : t.length = n) (hP : ∀ v, 0 < v → v < n → 0 ≤ nP t v ∧ nP t v < v) (w : Nat → Nat) : ∀ j, j < n → sumF (agg t w j) (n - j) = sumF w n := by
  intro j
  induction j with
  | zero => intro _; rfl
  | succ j ih =>
    intro hj
    rw [← ih (by omega)]
    have e : n - j = (n - (j + 1)) + 1 := by omega
    have hu : t.length - 1 - j = n - (j + 1) := by omega
    obtain ⟨p0, p1⟩ := hP (n - (j + 1)) (by omega) (by omega)
    obtain ⟨p, hp⟩ : ∃ p : Nat, nP t (n - (j + 1)) = p := ⟨(nP t (n - (j + 1))).toNat, by omega⟩
    have h1 : sumF (agg t w (j + 1)) (n - (j + 1)) = sumF (fun v => agg t w j v + if (p : Int) = (v : Int) then agg t w j (n - (j + 1)) else 0) (n - (j + 1)) := sumF_congr _ fun v _ => by
      show agg t w j v + _ = _
      rw [hu, hp]
    rw [h1, sumF_add, sumF_one, if_pos (by omega), e]
    rfl
theorem agg_root {t : List Nd} {n : Nat} (hn : t.length = n) (h1 : 1 ≤ n) (hP : ∀ v, 0 < v → v < n → 0 ≤ nP t v ∧ nP t v < v) (w : Nat → Nat) : agg t w (n - 1) 0 = sumF w n := by
  have h := agg_sum hn hP w (n - 1) (by omega)
  rw [show n - (n - 1) = 1 by omega] at h
  simpa [sumF] using h
theorem leaf_par {t : List Nd} {v u : Nat} (hl : leafB t v = true) (h0 : 0 < u) (hu : u < t.length) : nP t u ≠ (v : Int) := fun h => by
  rw [leafB_in] at hl
  have : inB t t.length v = true := List.any_eq_true.2 ⟨u, List.mem_range.2 hu, by unfold kidB; rw [decide_eq_true h0, decide_eq_true h]; rfl⟩
  rw [this] at hl; cases hl
theorem upC_leaf {I : Nat} {t : List Nd} {x v : Nat} {b : Bool} (hl : leafB t v = true) : ∀ j, j < t.length → upC I t x j v b = if x.testBit (lvsL t v).length = b then 0 else I := by
  intro j
  induction j with
  | zero =>
    intro _
    show (if offB t x v b then I else 0) = _
    unfold offB
    rw [hl]
    cases hb : x.testBit (lvsL t v).length <;> cases b <;> rfl
  | succ j ih =>
    intro hj
    unfold upC
    rw [if_neg (leaf_par hl (by omega) (by omega)), ih (by omega)]
    rfl
/-- The number of leaves below v that are not of kind b. -/
def opC (t : List Nd) (x : Nat) (b : Bool) : Nat → Nat → Nat := agg t fun v => if offB t x v b then 1 else 0
theorem opC_leaf {t : List Nd} {x v : Nat} {b : Bool} (hl : leafB t v = true) : ∀ j, j < t.length → opC t x b j v = if x.testBit (lvsL t v).length = b then 0 else 1 := by
  intro j
  induction j with
  | zero =>
    intro _
    show (if offB t x v b then 1 else 0) = _
    unfold offB
    rw [hl]
    cases hb : x.testBit (lvsL t v).length <;> cases b <;> rfl
  | succ j ih =>
    intro hj
    show opC t x b j v + _ = _
    rw [if_neg (leaf_par hl (by omega) (by omega)), ih (by omega)]
    rfl
/-- What a child adds. -/
def addC (I : Nat) (t : List Nd) (x j u : Nat) (b : Bool) : Nat := min (upC I t x j u b) (upC I t x j u (!b) + 1)
theorem addC_leaf {I : Nat} (hI : 1 ≤ I) {t : List Nd} {x u j : Nat} {b : Bool} (hl : leafB t u = true) (hj : j < t.length) : addC I t x j u b = if x.testBit (lvsL t u).length = b then 0 else 1 := by
  unfold addC
  rw [upC_leaf hl j hj, upC_leaf hl j hj]
  cases hb : x.testBit (lvsL t u).length <;> cases b <;> simp <;> omega
theorem bound_C {I : Nat} (hI : 1 ≤ I) {t : List Nd} {x : Nat} : ∀ j, j < t.length → (∀ v b, leafB t v = false → upC I t x j v b ≤ opC t x b j v) ∧ ∀ u b, addC I t x j u b ≤ opC t x b j u := by
  intro j
  induction j with
  | zero =>
    intro hj
    have h1 : ∀ v b, leafB t v = false → upC I t x 0 v b ≤ opC t x b 0 v := fun v b hl => by
      show (if offB t x v b then I else 0) ≤ _
      unfold offB
      rw [hl]; exact Nat.zero_le _
    refine ⟨h1, fun u b => ?_⟩
    cases hl : leafB t u with
    | true => rw [addC_leaf hI hl hj, opC_leaf hl 0 hj]; exact Nat.le_refl _
    | false => exact Nat.le_trans (Nat.min_le_left _ _) (h1 u b hl)
  | succ j ih =>
    intro hj
    obtain ⟨i1, i2⟩ := ih (by omega)
    have h1 : ∀ v b, leafB t v = false → upC I t x (j + 1) v b ≤ opC t x b (j + 1) v := fun v b hl => by
      show upC I t x j v b + (if _ then addC I t x j (t.length - 1 - j) b else 0) ≤ opC t x b j v + (if _ then opC t x b j (t.length - 1 - j) else 0)
      have a := i1 v b hl
      have c := i2 (t.length - 1 - j) b
      split <;> omega
    refine ⟨h1, fun u b => ?_⟩
    cases hl : leafB t u with
    | true => rw [addC_leaf hI hl hj, opC_leaf hl _ hj]; exact Nat.le_refl _
    | false => exact Nat.le_trans (Nat.min_le_left _ _) (h1 u b hl)
theorem zero_C {I : Nat} (hI : 1 ≤ I) {t : List Nd} {x : Nat} : ∀ j, j < t.length → (∀ v b, leafB t v = false → upC I t x j v b = 0 → opC t x b j v = 0) ∧ ∀ u b, addC I t x j u b = 0 → opC t x b j u = 0 := by
  intro j
  induction j with
  | zero =>
    intro hj
    have h1 : ∀ v b, leafB t v = false → upC I t x 0 v b = 0 → opC t x b 0 v = 0 := fun v b hl _ => by
      show (if offB t x v b then 1 else 0) = _
      unfold offB
      rw [hl]; rfl
    refine ⟨h1, fun u b h => ?_⟩
    cases hl : leafB t u with
    | true => rw [addC_leaf hI hl hj] at h; rw [opC_leaf hl 0 hj]; exact h
    | false =>
      refine h1 u b hl ?_
      unfold addC at h; omega
  | succ j ih =>
    intro hj
    obtain ⟨i1, i2⟩ := ih (by omega)
    have h1 : ∀ v b, leafB t v = false → upC I t x (j + 1) v b = 0 → opC t x b (j + 1) v = 0 := fun v b hl h => by
      have h' : upC I t x j v b + (if nP t (t.length - 1 - j) = (v : Int) then addC I t x j (t.length - 1 - j) b else 0) = 0 := h
      show opC t x b j v + (if nP t (t.length - 1 - j) = (v : Int) then opC t x b j (t.length - 1 - j) else 0) = 0
      rw [i1 v b hl (by omega)]
      by_cases q : nP t (t.length - 1 - j) = (v : Int)
      · rw [if_pos q] at h' ⊢
        rw [i2 _ b (by omega)]
      · rw [if_neg q]
    refine ⟨h1, fun u b h => ?_⟩
    cases hl : leafB t u with
    | true => rw [addC_leaf hI hl hj] at h; rw [opC_leaf hl _ hj]; exact h
    | false =>
      refine h1 u b hl ?_
      unfold addC at h; omega
/-- It does not matter what the other kind of a leaf costs. -/
theorem same_C {I K : Nat} (hI : 1 ≤ I) (hK : 1 ≤ K) {t : List Nd} {x : Nat} : ∀ j, j < t.length → (∀ v b, leafB t v = false → upC I t x j v b = upC K t x j v b) ∧ ∀ u b, addC I t x j u b = addC K t x j u b := by
  intro j
  induction j with
  | zero =>
    intro hj
    have h1 : ∀ v b, leafB t v = false → upC I t x 0 v b = upC K t x 0 v b := fun v b hl => by
      show (if offB t x v b then I else 0) = (if offB t x v b then K else 0)
      unfold offB
      rw [hl]; rfl
    refine ⟨h1, fun u b => ?_⟩
    cases hl : leafB t u with
    | true => rw [addC_leaf hI hl hj, addC_leaf hK hl hj]
    | false => unfold addC; rw [h1 u b hl, h1 u (!b) hl]
  | succ j ih =>
    intro hj
    obtain ⟨i1, i2⟩ := ih (by omega)
    have h1 : ∀ v b, leafB t v = false → upC I t x (j + 1) v b = upC K t x (j + 1) v b := fun v b hl => by
      show upC I t x j v b + (if _ then addC I t x j (t.length - 1 - j) b else 0) = upC K t x j v b + (if _ then addC K t x j (t.length - 1 - j) b else 0)
      rw [i1 v b hl, i2 (t.length - 1 - j) b]
    refine ⟨h1, fun u b => ?_⟩
    cases hl : leafB t u with
    | true => rw [addC_leaf hI hl hj, addC_leaf hK hl hj]
    | false => unfold addC; rw [h1 u b hl, h1 u (!b) hl]
theorem chgI_eq {I : Nat} (hI : 1 ≤ I) {t : List Nd} (h1 : 1 ≤ t.length) (x : Nat) : chgI I t x = chg t x := by
  unfold chg chgI
  cases hl : leafB t 0 with
  | false => rw [(same_C hI (Nat.le_refl 1) (t.length - 1) (by omega)).1 0 false hl, (same_C hI (Nat.le_refl 1) (t.length - 1) (by omega)).1 0 true hl]
  | true =>
    rw [upC_leaf hl _ (by omega), upC_leaf hl _ (by omega), upC_leaf hl _ (by omega), upC_leaf hl _ (by omega)]
    cases hb : x.testBit (lvsL t 0).length <;> simp
/-- How many of the first k languages are not of kind b. -/
def offK (x : Nat) (b : Bool) : Nat → Nat := sumF fun i => if x.testBit i != b then 1 else 0
theorem off_sum (t : List Nd) (x : Nat) (b : Bool) : ∀ k, sumF (fun v => if offB t x v b then 1 else 0) k = offK x b (lvsL t k).length := by
  intro k
  induction k with
  | zero => rfl
  | succ k ih =>
    unfold sumF
    rw [ih, lvsL_snoc]
    unfold offB
    cases hl : leafB t k with
    | true =>
      rw [if_pos rfl, List.length_append, List.length_singleton]
      show _ = offK x b (lvsL t k).length + _
      rw [Bool.true_and]
    | false => simp
theorem opC_root {t : List Nd} {n : Nat} (hn : t.length = n) (hok : TreeOk t) (x : Nat) (b : Bool) : opC t x b (n - 1) 0 = offK x b (lvT t).length := by
  unfold opC
  rw [agg_root hn (by have := hok.1; omega) (tok_par hn hok), off_sum, tok_lv hn hok]
theorem offK_le (x : Nat) (b : Bool) : ∀ k, offK x b k ≤ k := by
  intro k
  induction k with
  | zero => exact Nat.le_refl _
  | succ k ih =>
    show offK x b k + (if x.testBit k != b then 1 else 0) ≤ _
    split <;> omega
theorem offK_compl (x : Nat) : ∀ k, offK x false k + offK x true k = k := by
  intro k
  induction k with
  | zero => rfl
  | succ k ih =>
    show offK x false k + (if x.testBit k != false then 1 else 0) + (offK x true k + (if x.testBit k != true then 1 else 0)) = _
    cases hb : x.testBit k
    · show offK x false k + 0 + (offK x true k + 1) = _; omega
    · show offK x false k + 1 + (offK x true k + 0) = _; omega
theorem offK_zero {x : Nat} {b : Bool} : ∀ k, offK x b k = 0 ↔ ∀ i, i < k → x.testBit i = b := by
  intro k
  induction k with
  | zero => exact ⟨fun _ i hi => by omega, fun _ => rfl⟩
  | succ k ih =>
    show offK x b k + (if x.testBit k != b then 1 else 0) = 0 ↔ _
    constructor
    · intro h i hi
      by_cases e : i = k
      · subst e
        cases hb : x.testBit i <;> cases b <;> simp_all
      · exact ih.1 (by omega) i (by omega)
    · intro h
      rw [ih.2 fun i hi => h i (by omega), h k (by omega)]
      simp
/-- No more changes than languages of either kind. -/
theorem chg_le {t : List Nd} {n : Nat} (hn : t.length = n) (hok : TreeOk t) (x : Nat) (b : Bool) : chg t x ≤ offK x b (lvT t).length := by
  have h1 : 1 ≤ t.length := hok.1
  rw [← opC_root hn hok, ← hn]
  unfold chg chgI
  have key : ∀ b, leafB t 0 = false → upC 1 t x (t.length - 1) 0 b ≤ opC t x b (t.length - 1) 0 := fun b hl => (bound_C (Nat.le_refl 1) (t.length - 1) (by omega)).1 0 b hl
  cases hl : leafB t 0 with
  | false =>
    have h2 := key false hl
    have h3 := key true hl
    cases b <;> omega
  | true =>
    rw [upC_leaf hl _ (by omega), upC_leaf hl _ (by omega)]
    cases hb : x.testBit (lvsL t 0).length <;> simp
/-- What needs no change is the same everywhere. -/
theorem chg_zero {t : List Nd} {n : Nat} (hn : t.length = n) (hok : TreeOk t) {x : Nat} (h : chg t x = 0) : ∃ b, offK x b (lvT t).length = 0 := by
  have h1 : 1 ≤ t.length := hok.1
  unfold chg chgI at h
  cases hl : leafB t 0 with
  | false =>
    have key : ∀ b, upC 1 t x (t.length - 1) 0 b = 0 → offK x b (lvT t).length = 0 := fun b hb => by
      rw [← opC_root hn hok, ← hn]
      exact (zero_C (Nat.le_refl 1) (t.length - 1) (by omega)).1 0 b hl hb
    by_cases q : upC 1 t x (t.length - 1) 0 false = 0
    · exact ⟨false, key _ q⟩
    · exact ⟨true, key _ (by omega)⟩
  | true =>
    refine ⟨x.testBit (lvsL t 0).length, ?_⟩
    rw [← opC_root hn hok, ← hn, opC_leaf hl _ (by omega), if_pos rfl]
end Go.Proofs.YtmfomjaomhohkaaDoor
namespace Go.Proofs.YtmfomjaomhohkaaDoor
open Go Go.RowKit Go.Shelf
theorem sumF_le {f : Nat → Nat} {i : Nat} : ∀ k, i < k → f i ≤ sumF f k := by
  intro k
  induction k with
  | zero => intro h; omega
  | succ k ih =>
    intro h
    show f i ≤ sumF f k + f k
    by_cases e : i = k
    · subst e; omega
    · have := ih (by omega); omega
theorem sumF_cnt {f : Nat → Nat} (h : ∀ i, f i ≤ 1) : ∀ k, sumF f k ≤ k := by
  intro k
  induction k with
  | zero => exact Nat.le_refl _
  | succ k ih => have := h k; show sumF f k + f k ≤ k + 1; omega
theorem up_le {t : List Nd} {n I x j v : Nat} {b : Bool} (hI : 1 ≤ I) (hn : t.length = n) (hP : ∀ v, 0 < v → v < n → 0 ≤ nP t v ∧ nP t v < v) (hj : j < n) (hv : v < n - j) : upC I t x j v b ≤ I + n := by
  cases hl : leafB t v with
  | true =>
    rw [upC_leaf hl j (by omega)]
    split <;> omega
  | false =>
    have h1 : upC I t x j v b ≤ opC t x b j v := (bound_C hI j (by omega)).1 v b hl
    have h2 : opC t x b j v ≤ n := by
      unfold opC
      refine Nat.le_trans (sumF_le (f := agg t (fun v => if offB t x v b then 1 else 0) j) (n - j) hv) ?_
      rw [agg_sum hn hP _ j hj]
      exact sumF_cnt (fun i => by split <;> omega) n
    omega
/-- The costs, a cell a node and kind. -/
def cC (t : List Nd) (x j i : Nat) : Nat := upC 1048576 t x j (i / 2) (i % 2 == 1)
/-- The costs when k leaves are done. -/
def c0 (t : List Nd) (x k i : Nat) : Nat := if (leafB t (i / 2) && decide ((lvsL t (i / 2)).length < k)) && (x.testBit (lvsL t (i / 2)).length != (i % 2 == 1)) then 1048576 else 0
theorem c0_zero (t : List Nd) (x i : Nat) : c0 t x 0 i = 0 := by unfold c0; simp
theorem lv_idx_lt {t : List Nd} {n v : Nat} (hl : leafB t v = true) (hv : v < n) : (lvsL t v).length < (lvsL t n).length := by
  have h := lvsL_mono t (show v + 1 ≤ n from hv)
  rw [lvsL_snoc, hl, List.length_append] at h
  simp at h; omega
theorem lv_idx_inj {t : List Nd} {u v : Nat} (hu : leafB t u = true) (hv : leafB t v = true) (h : (lvsL t u).length = (lvsL t v).length) : u = v := by
  rcases Nat.lt_trichotomy u v with q | q | q
  · have := lv_idx_lt hu q; omega
  · exact q
  · have := lv_idx_lt hv q; omega
theorem c0_all {t : List Nd} {n x i : Nat} (hi : i < 2 * n) : c0 t x (lvsL t n).length i = cC t x 0 i := by
  unfold c0 cC
  show _ = if offB t x (i / 2) (i % 2 == 1) then 1048576 else 0
  unfold offB
  cases hl : leafB t (i / 2) with
  | false => simp
  | true => rw [decide_eq_true (lv_idx_lt hl (by omega))]; simp
theorem c0_succ {t : List Nd} {n x k i : Nat} (hk : k < (lvsL t n).length) : c0 t x (k + 1) i = if i = 2 * vA (lvsL t n) k + (1 - (if x.testBit k then 1 else 0)) then 1048576 else c0 t x k i := by
  obtain ⟨h1, h2, h3⟩ := lvs_at t n k hk
  generalize vA (lvsL t n) k = v at *
  unfold c0
  by_cases e : i / 2 = v
  · rw [e, h2, h3, decide_eq_true (show k < k + 1 by omega), decide_eq_false (Nat.lt_irrefl k)]
    simp only [Bool.true_and, Bool.and_true, Bool.and_false, Bool.false_and]
    cases hb : x.testBit k with
    | true =>
      rcases Nat.mod_two_eq_zero_or_one i with q | q
      · rw [if_pos (show i = _ by simp; omega), q]; rfl
      · rw [if_neg (show ¬ i = _ by simp; omega), q]; rfl
    | false =>
      rcases Nat.mod_two_eq_zero_or_one i with q | q
      · rw [if_neg (show ¬ i = _ by simp; omega), q]; rfl
      · rw [if_pos (show i = _ by simp; omega), q]; rfl
  · rw [if_neg (show ¬ i = _ by split <;> omega)]
    cases hl : leafB t (i / 2) with
    | false => simp
    | true =>
      have : (lvsL t (i / 2)).length ≠ k := fun h => e (lv_idx_inj hl h2 (by rw [h, h3]))
      have e2 : decide ((lvsL t (i / 2)).length < k + 1) = decide ((lvsL t (i / 2)).length < k) := by rw [decide_eq_decide]; omega
      rw [e2]
theorem cC_succ (t : List Nd) (x j i : Nat) : cC t x (j + 1) i = cC t x j i + if nP t (t.length - 1 - j) = ((i / 2 : Nat) : Int) then min (cC t x j (2 * (t.length - 1 - j) + i % 2)) (cC t x j (2 * (t.length - 1 - j) + (1 - i % 2)) + 1) else 0 := by
  unfold cC
  show upC _ _ _ _ _ _ + _ = _
  have h1 : (2 * (t.length - 1 - j) + i % 2) / 2 = t.length - 1 - j := by omega
  have h2 : (2 * (t.length - 1 - j) + (1 - i % 2)) / 2 = t.length - 1 - j := by omega
  rw [h1, h2]
  rcases Nat.mod_two_eq_zero_or_one i with q | q
  · have h3 : (2 * (t.length - 1 - j) + i % 2) % 2 = 0 := by omega
    have h4 : (2 * (t.length - 1 - j) + (1 - i % 2)) % 2 = 1 := by omega
    rw [h3, h4, q]; rfl
  · have h3 : (2 * (t.length - 1 - j) + i % 2) % 2 = 1 := by omega
    have h4 : (2 * (t.length - 1 - j) + (1 - i % 2)) % 2 = 0 := by omega
    rw [h3, h4, q]; rfl
theorem cC_le {t : List Nd} {n x j i : Nat} (hn : t.length = n) (hP : ∀ v, 0 < v → v < n → 0 ≤ nP t v ∧ nP t v < v) (hj : j < n) (hi : i < 2 * (n - j)) : cC t x j i ≤ 1048576 + n := up_le (by omega) hn hP hj (by omega)
theorem cC_end {t : List Nd} {n x : Nat} (hn : t.length = n) (h1 : 1 ≤ n) : min (cC t x (n - 1) 0) (cC t x (n - 1) 1) = chg t x := by
  rw [← chgI_eq (I := 1048576) (by omega) (by omega) x]
  unfold chgI cC
  rw [hn]; rfl
/-- The costs while node p takes over what its child costs: kinds below q are done. -/
def cM (t : List Nd) (x j p q i : Nat) : Nat := if i / 2 = p ∧ i % 2 < q then cC t x (j + 1) i else cC t x j i
theorem cM_zero (t : List Nd) (x j p i : Nat) : cM t x j p 0 i = cC t x j i := if_neg (by omega)
theorem bit_and {x : Nat} (hx : x < 18446744073709551616) (k : Nat) : bits .and .u64 ((x : Int) / 2 ^ k) 1 = if x.testBit k then 1 else 0 := by
  have e : ((x : Int) / 2 ^ k) = ((x / 2 ^ k : Nat) : Int) := by simp
  have h2 : x / 2 ^ k < 18446744073709551616 := Nat.lt_of_le_of_lt (Nat.div_le_self _ _) hx
  have h3 := bits_and h2 (show 1 < 18446744073709551616 by omega)
  rw [Nat.and_one_is_mod] at h3
  rw [e]
  refine h3.trans ?_
  rw [Nat.testBit_eq_decide_div_mod_eq]
  rcases Nat.mod_two_eq_zero_or_one (x / 2 ^ k) with q | q <;> rw [q] <;> rfl
theorem info_P2 : (Tryd.prog.info? 43).map (fun i => (i.zero, i.size, i.bytes)) = some (some (.agg #[.int .i64 0, .int .i64 0]), 2, 16) := by kernel_rfl
theorem p2_made (n : Nat) : madeCells #[Value.int .i64 0, .int .i64 0] (n * 2) = ofF (n * 2) (fun _ => .int .i64 0) := by
  apply Array.ext
  · simp [madeCells, ofF]
  · intro i h1 h2
    have : i % 2 = 0 ∨ i % 2 = 1 := by omega
    rcases this with q | q <;> simp [madeCells, ofF, q]
end Go.Proofs.YtmfomjaomhohkaaDoor
namespace Go.Proofs.YtmfomjaomhohkaaDoor
open Go Go.RowKit Go.Shelf
/-- A binary tree: its nodes, and what is below two children. -/
inductive Sh where
  | lf (v : Nat)
  | nd (v : Nat) (a b : Sh)
namespace Sh
def top : Sh → Nat
  | lf v => v
  | nd v _ _ => v
def least : Sh → Nat
  | lf v => v
  | nd _ a b => min a.least b.least
def inn : Sh → Nat
  | lf _ => 0
  | nd _ a b => a.inn + b.inn + 1
def lvs : Sh → List Nat
  | lf v => [v]
  | nd _ a b => a.lvs ++ b.lvs
def all : Sh → List Nat
  | lf v => [v]
  | nd v a b => v :: (a.all ++ b.all)
/-- The child with the smaller leaf first. -/
def srt : Sh → Sh
  | lf v => lf v
  | nd v a b => if b.least < a.least then nd v b.srt a.srt else nd v a.srt b.srt
/-- The inner nodes as they are met, with their parents' numbers. -/
def ni : Sh → Int → Nat → List (Int × Nat)
  | lf _, _, _ => []
  | nd v a b, p, k => (p, v) :: (a.ni k (k + 1) ++ b.ni k (k + 1 + a.inn))
/-- The leaves with their parents' numbers. -/
def pl : Sh → Int → Nat → List (Nat × Int)
  | lf v, p, _ => [(v, p)]
  | nd _ a b, _, k => a.pl k (k + 1) ++ b.pl k (k + 1 + a.inn)
def map (f : Nat → Nat) : Sh → Sh
  | lf v => lf (f v)
  | nd v a b => nd (f v) (a.map f) (b.map f)
theorem srt_nd (v : Nat) (a b : Sh) : (nd v a b).srt = if b.least < a.least then nd v b.srt a.srt else nd v a.srt b.srt := rfl
theorem ni_len : ∀ (s : Sh) (p : Int) (k : Nat), (s.ni p k).length = s.inn
  | lf _, _, _ => rfl
  | nd v a b, p, k => by simp [ni, inn, ni_len a, ni_len b]
theorem pl_fst : ∀ (s : Sh) (p : Int) (k : Nat), (s.pl p k).map (·.1) = s.lvs
  | lf _, _, _ => rfl
  | nd v a b, p, k => by simp [pl, lvs, pl_fst a, pl_fst b]
theorem lvs_pos : ∀ s : Sh, 1 ≤ s.lvs.length
  | lf _ => Nat.le_refl _
  | nd _ a b => by have := lvs_pos a; simp [lvs]; omega
theorem lvs_inn : ∀ s : Sh, s.lvs.length = s.inn + 1
  | lf _ => rfl
  | nd _ a b => by simp [lvs, inn, lvs_inn a, lvs_inn b]; omega
theorem all_len : ∀ s : Sh, s.all.length = 2 * s.inn + 1
  | lf _ => rfl
  | nd _ a b => by simp [all, inn, all_len a, all_len b]; omega
theorem lvs_sub : ∀ (s : Sh) (v : Nat), v ∈ s.lvs → v ∈ s.all
  | lf _, v, h => h
  | nd u a b, v, h => by
    rcases List.mem_append.1 h with h | h
    · exact List.mem_cons_of_mem _ (List.mem_append_left _ (lvs_sub a v h))
    · exact List.mem_cons_of_mem _ (List.mem_append_right _ (lvs_sub b v h))
theorem top_mem : ∀ s : Sh, s.top ∈ s.all
  | lf _ => List.mem_singleton.2 rfl
  | nd _ _ _ => List.mem_cons_self
theorem least_mem : ∀ s : Sh, s.least ∈ s.lvs
  | lf _ => List.mem_singleton.2 rfl
  | nd _ a b => by
    show min a.least b.least ∈ a.lvs ++ b.lvs
    rcases Nat.le_total a.least b.least with h | h
    · rw [Nat.min_eq_left h]; exact List.mem_append_left _ (least_mem a)
    · rw [Nat.min_eq_right h]; exact List.mem_append_right _ (least_mem b)
theorem least_le : ∀ (s : Sh) (v : Nat), v ∈ s.lvs → s.least ≤ v
  | lf _, v, h => by rw [List.mem_singleton.1 h]; exact Nat.le_refl _
  | nd _ a b, v, h => by
    show min a.least b.least ≤ v
    rcases List.mem_append.1 h with h | h
    · exact Nat.le_trans (Nat.min_le_left _ _) (least_le a v h)
    · exact Nat.le_trans (Nat.min_le_right _ _) (least_le b v h)
theorem srt_least : ∀ s : Sh, s.srt.least = s.least
  | lf _ => rfl
  | nd v a b => by
    unfold srt
    split
    · show min b.srt.least a.srt.least = min a.least b.least
      rw [srt_least a, srt_least b, Nat.min_comm]
    · show min a.srt.least b.srt.least = min a.least b.least
      rw [srt_least a, srt_least b]
theorem srt_top : ∀ s : Sh, s.srt.top = s.top
  | lf _ => rfl
  | nd v a b => by unfold srt; split <;> rfl
theorem srt_inn : ∀ s : Sh, s.srt.inn = s.inn
  | lf _ => rfl
  | nd v a b => by
    unfold srt
    split
    · show b.srt.inn + a.srt.inn + 1 = a.inn + b.inn + 1
      rw [srt_inn a, srt_inn b]; omega
    · show a.srt.inn + b.srt.inn + 1 = a.inn + b.inn + 1
      rw [srt_inn a, srt_inn b]
theorem srt_lvs : ∀ s : Sh, s.srt.lvs.Perm s.lvs
  | lf _ => List.Perm.refl _
  | nd v a b => by
    unfold srt
    split
    · show (b.srt.lvs ++ a.srt.lvs).Perm (a.lvs ++ b.lvs)
      exact (List.perm_append_comm).trans ((srt_lvs a).append (srt_lvs b))
    · exact (srt_lvs a).append (srt_lvs b)
theorem srt_all : ∀ s : Sh, s.srt.all.Perm s.all
  | lf _ => List.Perm.refl _
  | nd v a b => by
    unfold srt
    split
    · show (v :: (b.srt.all ++ a.srt.all)).Perm (v :: (a.all ++ b.all))
      exact ((List.perm_append_comm).trans ((srt_all a).append (srt_all b))).cons v
    · exact ((srt_all a).append (srt_all b)).cons v
theorem srt_srt : ∀ s : Sh, s.srt.srt = s.srt
  | lf _ => rfl
  | nd v a b => by
    rw [srt_nd]
    by_cases h : b.least < a.least
    · rw [if_pos h]
      rw [srt_nd, srt_least, srt_least, if_neg (by omega), srt_srt a, srt_srt b]
    · rw [if_neg h]
      rw [srt_nd, srt_least, srt_least, if_neg h, srt_srt a, srt_srt b]
/-- The same tree, children in any order. -/
inductive Sw : Sh → Sh → Prop
  | lf (v : Nat) : Sw (.lf v) (.lf v)
  | nd (v : Nat) {a b a' b' : Sh} : Sw a a' → Sw b b' → Sw (.nd v a b) (.nd v a' b')
  | sw (v : Nat) {a b a' b' : Sh} : Sw a a' → Sw b b' → Sw (.nd v a b) (.nd v b' a')
theorem Sw.refl : ∀ s : Sh, Sw s s
  | .lf v => .lf v
  | .nd v a b => .nd v (Sw.refl a) (Sw.refl b)
theorem Sw.least {s s' : Sh} (h : Sw s s') : s.least = s'.least := by
  induction h with
  | lf v => rfl
  | nd v _ _ h1 h2 => show min _ _ = min _ _; rw [h1, h2]
  | sw v _ _ h1 h2 => show min _ _ = min _ _; rw [h1, h2, Nat.min_comm]
theorem Sw.inn {s s' : Sh} (h : Sw s s') : s.inn = s'.inn := by
  induction h with
  | lf v => rfl
  | nd v _ _ h1 h2 => show _ + _ + 1 = _ + _ + 1; rw [h1, h2]
  | sw v _ _ h1 h2 => show _ + _ + 1 = _ + _ + 1; rw [h1, h2]; omega
theorem Sw.top {s s' : Sh} (h : Sw s s') : s.top = s'.top := by cases h <;> rfl
theorem Sw.all {s s' : Sh} (h : Sw s s') : s.all.Perm s'.all := by
  induction h with
  | lf v => exact List.Perm.refl _
  | nd v _ _ h1 h2 => exact (h1.append h2).cons v
  | sw v _ _ h1 h2 => exact ((h1.append h2).trans List.perm_append_comm).cons v
theorem Sw.lvs {s s' : Sh} (h : Sw s s') : s.lvs.Perm s'.lvs := by
  induction h with
  | lf v => exact List.Perm.refl _
  | nd v _ _ h1 h2 => exact h1.append h2
  | sw v _ _ h1 h2 => exact (h1.append h2).trans List.perm_append_comm
theorem Sw.symm {s s' : Sh} (h : Sw s s') : Sw s' s := by
  induction h with
  | lf v => exact .lf v
  | nd v _ _ h1 h2 => exact .nd v h1 h2
  | sw v _ _ h1 h2 => exact .sw v h2 h1
theorem Sw.srtS : ∀ s : Sh, Sw s s.srt
  | .lf v => .lf v
  | .nd v a b => by
    unfold Sh.srt
    split
    · exact .sw v (Sw.srtS a) (Sw.srtS b)
    · exact .nd v (Sw.srtS a) (Sw.srtS b)
theorem Sw.map (f : Nat → Nat) {s s' : Sh} (h : Sw s s') : Sw (s.map f) (s'.map f) := by
  induction h with
  | lf v => exact .lf _
  | nd v _ _ h1 h2 => exact .nd _ h1 h2
  | sw v _ _ h1 h2 => exact .sw _ h1 h2
/-- The order in which it is numbered does not depend on the children's order. -/
theorem Sw.srt {s s' : Sh} (h : Sw s s') (hn : s.lvs.Nodup) : s.srt = s'.srt := by
  induction h with
  | lf v => rfl
  | nd v ha hb h1 h2 =>
    have hn1 := (List.nodup_append.1 hn).1
    have hn2 := (List.nodup_append.1 hn).2.1
    unfold Sh.srt
    rw [ha.least, hb.least, h1 hn1, h2 hn2]
  | @sw v a b a' b' ha hb h1 h2 =>
    obtain ⟨hn1, hn2, hn3⟩ := List.nodup_append.1 hn
    have hne : a.least ≠ b.least := fun e => hn3 _ (least_mem a) _ (least_mem b) e
    unfold Sh.srt
    rw [h1 hn1, h2 hn2]
    rw [ha.least, hb.least] at *
    rcases Nat.lt_or_ge b'.least a'.least with q | q
    · rw [if_pos q, if_neg (by omega)]
    · rw [if_neg (by omega), if_pos (by omega)]
theorem Sw.trans {s s' s'' : Sh} (h : Sw s s') (k : Sw s' s'') : Sw s s'' := by
  induction h generalizing s'' with
  | lf v => exact k
  | nd v _ _ h1 h2 =>
    cases k with
    | nd _ k1 k2 => exact .nd v (h1 k1) (h2 k2)
    | sw _ k1 k2 => exact .sw v (h1 k1) (h2 k2)
  | sw v _ _ h1 h2 =>
    cases k with
    | nd _ k1 k2 => exact .sw v (h1 k2) (h2 k1)
    | sw _ k1 k2 => exact .nd v (h1 k2) (h2 k1)
theorem map_lvs (f : Nat → Nat) : ∀ s : Sh, (s.map f).lvs = s.lvs.map f
  | lf _ => rfl
  | nd _ a b => by simp [map, lvs, map_lvs f a, map_lvs f b]
theorem map_all (f : Nat → Nat) : ∀ s : Sh, (s.map f).all = s.all.map f
  | lf _ => rfl
  | nd _ a b => by simp [map, all, map_all f a, map_all f b]
theorem map_inn (f : Nat → Nat) : ∀ s : Sh, (s.map f).inn = s.inn
  | lf _ => rfl
  | nd _ a b => by simp [map, inn, map_inn f a, map_inn f b]
theorem map_ni (f : Nat → Nat) : ∀ (s : Sh) (p : Int) (k : Nat), (s.map f).ni p k = (s.ni p k).map fun x => (x.1, f x.2)
  | lf _, _, _ => rfl
  | nd _ a b, p, k => by simp [map, ni, map_ni f a, map_ni f b, map_inn]
theorem map_pl (f : Nat → Nat) : ∀ (s : Sh) (p : Int) (k : Nat), (s.map f).pl p k = (s.pl p k).map fun x => (f x.1, x.2)
  | lf _, _, _ => rfl
  | nd _ a b, p, k => by simp [map, pl, map_pl f a, map_pl f b, map_inn]
theorem map_least (f : Nat → Nat) : ∀ s : Sh, (∀ u v, u ∈ s.lvs → v ∈ s.lvs → u < v → f u < f v) → (s.map f).least = f s.least
  | lf _, _ => rfl
  | nd _ a b, h => by
    have ha := map_least f a fun u v hu hv => h u v (List.mem_append_left _ hu) (List.mem_append_left _ hv)
    have hb := map_least f b fun u v hu hv => h u v (List.mem_append_right _ hu) (List.mem_append_right _ hv)
    show min (a.map f).least (b.map f).least = f (min a.least b.least)
    rw [ha, hb]
    have ma := List.mem_append_left b.lvs (least_mem a)
    have mb := List.mem_append_right a.lvs (least_mem b)
    rcases Nat.lt_trichotomy a.least b.least with q | q | q
    · have := h _ _ ma mb q
      rw [Nat.min_eq_left (by omega), Nat.min_eq_left (by omega)]
    · rw [q, Nat.min_self, Nat.min_self]
    · have := h _ _ mb ma q
      rw [Nat.min_eq_right (by omega), Nat.min_eq_right (by omega)]
theorem map_srt (f : Nat → Nat) : ∀ s : Sh, (∀ u v, u ∈ s.lvs → v ∈ s.lvs → u < v → f u < f v) → (s.map f).srt = s.srt.map f
  | lf _, _ => rfl
  | nd v a b, h => by
    have ha' : ∀ u v, u ∈ a.lvs → v ∈ a.lvs → u < v → f u < f v := fun u v hu hv => h u v (List.mem_append_left _ hu) (List.mem_append_left _ hv)
    have hb' : ∀ u v, u ∈ b.lvs → v ∈ b.lvs → u < v → f u < f v := fun u v hu hv => h u v (List.mem_append_right _ hu) (List.mem_append_right _ hv)
    have ma := List.mem_append_left b.lvs (least_mem a)
    have mb := List.mem_append_right a.lvs (least_mem b)
    show (nd (f v) (a.map f) (b.map f)).srt = _
    rw [srt_nd, srt_nd, map_least f a ha', map_least f b hb', map_srt f a ha', map_srt f b hb']
    rcases Nat.lt_trichotomy a.least b.least with q | q | q
    · have := h _ _ ma mb q
      rw [if_neg (by omega), if_neg (by omega)]; rfl
    · rw [q, if_neg (by omega), if_neg (by omega)]; rfl
    · have := h _ _ mb ma q
      rw [if_pos this, if_pos q]; rfl
end Sh
/-- A look-up of a leaf's parent. -/
def lkp (l : List (Nat × Int)) (v : Nat) : Int := ((l.find? fun x => decide (x.1 = v)).map (·.2)).getD 0
/-- The numbered tree: the inner nodes as they are met, then the leaves L. -/
def numS (t : List Nd) (L : List Nat) (s : Sh) : List Nd := (s.ni (-1) 0).map (fun x => (x.1, nS t x.2)) ++ L.map fun v => (lkp (s.pl (-1) 0) v, nS t v)
def numL (t : List Nd) (L : List Nat) (s : Sh) : List Nd := numS t L s.srt
theorem lkp_map {f : Nat → Nat} {v : Nat} : ∀ {l : List (Nat × Int)}, (∀ x, x ∈ l.map (·.1) → f x = f v → x = v) → lkp (l.map fun x => (f x.1, x.2)) (f v) = lkp l v := by
  intro l
  induction l with
  | nil => intro _; rfl
  | cons a l ih =>
    intro h
    unfold lkp
    rw [List.map_cons, List.find?_cons, List.find?_cons]
    by_cases e : a.1 = v
    · rw [decide_eq_true e, decide_eq_true (by rw [e])]; rfl
    · have e2 : ¬ f a.1 = f v := fun e3 => e (h a.1 (by simp) e3)
      rw [decide_eq_false e, decide_eq_false e2]
      exact ih fun x hx => h x (List.mem_cons_of_mem _ hx)
/-- Numbering depends on the names, and on the order of the leaves. -/
theorem numL_map {t t' : List Nd} {L : List Nat} {s : Sh} {f : Nat → Nat} (hf : ∀ u v, u ∈ s.lvs → v ∈ s.lvs → u < v → f u < f v) (hL : ∀ v, v ∈ L → v ∈ s.lvs) (hn : ∀ v, v ∈ s.all → nS t' (f v) = nS t v) :
    numL t' (L.map f) (s.map f) = numL t L s := by
  unfold numL numS
  rw [Sh.map_srt f s hf, Sh.map_ni, Sh.map_pl]
  have hinj : ∀ u v, u ∈ s.lvs → v ∈ s.lvs → f u = f v → u = v := fun u v hu hv e => by
    rcases Nat.lt_trichotomy u v with q | q | q
    · have := hf u v hu hv q; omega
    · exact q
    · have := hf v u hv hu q; omega
  congr 1
  · rw [List.map_map]
    refine List.map_congr_left fun x hx => ?_
    have key : ∀ (s : Sh) p k, ∀ x ∈ s.ni p k, x.2 ∈ s.all := by
      intro s
      induction s with
      | lf v => intro p k x hx; cases hx
      | nd v a b iha ihb =>
        intro p k x hx
        rcases List.mem_cons.1 hx with rfl | hx
        · exact List.mem_cons_self
        · rcases List.mem_append.1 hx with hx | hx
          · exact List.mem_cons_of_mem _ (List.mem_append_left _ (iha _ _ x hx))
          · exact List.mem_cons_of_mem _ (List.mem_append_right _ (ihb _ _ x hx))
    show (x.1, nS t' (f x.2)) = (x.1, nS t x.2)
    rw [hn x.2 ((Sh.srt_all s).mem_iff.1 (key _ _ _ x hx))]
  · rw [List.map_map]
    refine List.map_congr_left fun v hv => ?_
    show (lkp _ (f v), nS t' (f v)) = _
    rw [hn v (Sh.lvs_sub s v (hL v hv)), lkp_map fun x hx e => ?_]
    rw [Sh.pl_fst] at hx
    exact hinj x v ((Sh.srt_lvs s).mem_iff.1 hx) (hL v hv) e
theorem numL_sw {t : List Nd} {L : List Nat} {s s' : Sh} (h : Sh.Sw s s') (hn : s.lvs.Nodup) : numL t L s = numL t L s' := by
  unfold numL
  rw [h.srt hn]
end Go.Proofs.YtmfomjaomhohkaaDoor
namespace Go.Proofs.YtmfomjaomhohkaaDoor
open Go Go.RowKit Go.Shelf
def updV (u : Nat → Value) (d : Nat) (v : Value) : Nat → Value := fun i => if i = d then v else u i
/-- The frame in which the slots ds hold u. -/
def frmV (a : Act) (u : Nat → Value) : List Nat → Act
  | [] => a
  | d :: ds => (frmV a u ds).put (some d) (u d)
theorem frmV_size (a : Act) (u : Nat → Value) : ∀ ds, (frmV a u ds).tmps.size = a.tmps.size
  | [] => rfl
  | d :: ds => by
    show ((frmV a u ds).tmps.setIfInBounds d (u d)).size = _
    rw [Array.size_setIfInBounds, frmV_size a u ds]
theorem frmV_get {a : Act} {u : Nat → Value} {t : Nat} (ht : t < a.tmps.size) : ∀ ds, (frmV a u ds).tmps.getD t undef = if t ∈ ds then u t else a.tmps.getD t undef
  | [] => rfl
  | d :: ds => by
    have ih := frmV_get (u := u) ht ds
    have hs := frmV_size a u ds
    show ((frmV a u ds).tmps.setIfInBounds d (u d)).getD t undef = _
    by_cases e : d = t
    · subst e
      rw [if_pos (List.mem_cons_self ..)]
      simp [Array.getD_eq_getD_getElem?, hs, ht]
    · have h1 : ((frmV a u ds).tmps.setIfInBounds d (u d)).getD t undef = (frmV a u ds).tmps.getD t undef := by
        simp [Array.getD_eq_getD_getElem?, e]
      rw [h1, ih]
      by_cases q : t ∈ ds
      · rw [if_pos q, if_pos (List.mem_cons_of_mem _ q)]
      · rw [if_neg q, if_neg (fun h => by
          rcases List.mem_cons.1 h with h | h
          · exact e h.symm
          · exact q h)]
theorem frmV_def (a : Act) (u : Nat → Value) : ∀ ds, (frmV a u ds).defers = a.defers
  | [] => rfl
  | _ :: ds => frmV_def a u ds
theorem act_ext {a b : Act} (hd : a.defers = b.defers) (hs : a.tmps.size = b.tmps.size) (h : ∀ t, t < a.tmps.size → a.tmps.getD t undef = b.tmps.getD t undef) : a = b := by
  cases a; cases b
  congr
  apply Array.ext hs
  intro i h1 h2
  have h3 := h i h1
  simpa [Array.getD_eq_getD_getElem?, h1, h2] using h3
/-- A slot of ds is laid anew. -/
theorem frmV_put {a : Act} {u : Nat → Value} {ds : List Nat} {d : Nat} (hd : d ∈ ds) (v : Value) : (frmV a u ds).put (some d) v = frmV a (updV u d v) ds := by
  have hs := frmV_size a u ds
  have hs2 := frmV_size a (updV u d v) ds
  refine act_ext ?_ ?_ ?_
  · rw [frmV_def]; exact frmV_def a u ds
  · show ((frmV a u ds).tmps.setIfInBounds d v).size = _
    rw [Array.size_setIfInBounds, hs, hs2]
  · intro t ht
    have ht' : t < a.tmps.size := by
      have : ((frmV a u ds).tmps.setIfInBounds d v).size = a.tmps.size := by rw [Array.size_setIfInBounds, hs]
      have ht2 : t < ((frmV a u ds).tmps.setIfInBounds d v).size := ht
      omega
    rw [frmV_get ht']
    show ((frmV a u ds).tmps.setIfInBounds d v).getD t undef = _
    by_cases e : d = t
    · subst e
      rw [if_pos hd]
      simp [Array.getD_eq_getD_getElem?, hs, ht', updV]
    · have h1 : ((frmV a u ds).tmps.setIfInBounds d v).getD t undef = (frmV a u ds).tmps.getD t undef := by
        simp [Array.getD_eq_getD_getElem?, e]
      rw [h1, frmV_get ht']
      by_cases q : t ∈ ds
      · rw [if_pos q, if_pos q]; unfold updV; rw [if_neg (fun h => e h.symm)]
      · rw [if_neg q, if_neg q]
theorem frmV_self (a : Act) (ds : List Nat) : a = frmV a (fun t => a.tmps.getD t undef) ds := by
  refine act_ext (frmV_def a _ ds).symm (frmV_size a _ ds).symm fun t ht => ?_
  rw [frmV_get ht]
  by_cases q : t ∈ ds
  · rw [if_pos q]
  · rw [if_neg q]
theorem getD_set_ne {l : Array Bool} {i k : Nat} (h : i ≠ k) : (l.setIfInBounds i true).getD k true = l.getD k true := by
  simp [Array.getD_eq_getD_getElem?, h]
section
variable {P : Program} {ops : Array Oper} {Q : Exit → Act → World → Prop} {md : Region.Mode}
/-- Each operation waits for earlier ones alone. -/
def backB (l : List Oper) : Bool := (List.range l.length).all fun k => match l[k]? with
  | some o => o.after.all fun e => decide (e.on < k)
  | none => true
theorem ready_all {ops : Array Oper} {listed : Array Bool} (hs : listed.size = ops.size) (hb : ∀ (k : Nat) (o : Oper), ops[k]? = some o → ∀ e ∈ o.after, e.on < k) (hr : Region.ready md ops listed = []) : ∀ k, k < ops.size → listed.getD k true = true := by
  intro k
  induction k using Nat.strongRecOn with
  | ind k ih =>
    intro hk
    by_cases q : listed.getD k true = true
    · exact q
    · exfalso
      have q' : listed.getD k true = false := by simpa using q
      have hm : k ∈ Region.ready md ops listed := by
        unfold Region.ready
        rw [List.mem_filter]
        refine ⟨List.mem_range.2 hk, ?_⟩
        rw [q', Array.getElem?_eq_getElem hk]
        simp only [Bool.not_false, Bool.true_and, Option.map_some, Option.getD_some]
        rw [Array.all_eq_true']
        intro e he
        have h1 := hb k _ (Array.getElem?_eq_getElem hk) e he
        have h2 := ih e.on h1 (by omega)
        have h3 : listed.getD e.on false = true := by
          have : e.on < listed.size := by omega
          simpa [Array.getD_eq_getD_getElem?, this] using h2
        rw [h3, Bool.or_true]
      rw [hr] at hm
      cases hm
theorem wpAny_good {ops : Array Oper} (F : (Nat → Value) → Act) (dst : Nat → Nat) (Good : Nat → Value → World → Prop) (R : World → World → Prop) (w0 : World)
    (hb : ∀ (k : Nat) (o : Oper), ops[k]? = some o → ∀ e ∈ o.after, e.on < k)
    (hinj : ∀ j k, j < ops.size → k < ops.size → dst j = dst k → j = k)
    (hR : ∀ a b c, R a b → R b c → R a c) (hmono : ∀ k v w w', Good k v w → R w w' → Good k v w')
    (hstep : ∀ (k : Nat) (o : Oper), ops[k]? = some o → ∀ u w, R w0 w → (∀ e ∈ o.after, Region.binds md e = true → Good e.on (u (dst e.on)) w) →
      wpOp P ops Q k (fun a' w' => ∃ v, a' = F (updV u (dst k) v) ∧ Good k v w' ∧ R w w') (F u) w)
    (hend : ∀ u w, R w0 w → (∀ k, k < ops.size → Good k (u (dst k)) w) → Q .normal (F u) w) :
    ∀ (f : Nat) (listed : Array Bool) (u : Nat → Value) (w : World), listed.size = ops.size → R w0 w → (∀ k, k < ops.size → listed.getD k true = true → Good k (u (dst k)) w) →
      ((List.range ops.size).filter fun k => !listed.getD k true).length ≤ f → wpAny P md ops Q f listed (F u) w := by
  have fin : ∀ (listed : Array Bool) (u : Nat → Value) (w : World), listed.size = ops.size → R w0 w → (∀ k, k < ops.size → listed.getD k true = true → Good k (u (dst k)) w) → Region.ready md ops listed = [] → Q .normal (F u) w := fun listed u w hs hw hg hr =>
    hend u w hw fun k hk => hg k hk (ready_all hs hb hr k hk)
  intro f
  induction f with
  | zero =>
    intro listed u w hs hw hg hf
    have hr : Region.ready md ops listed = [] := by
      have h0 : ((List.range ops.size).filter fun k => !listed.getD k true) = [] := List.eq_nil_of_length_eq_zero (by omega)
      rw [List.filter_eq_nil_iff] at h0
      unfold Region.ready
      rw [List.filter_eq_nil_iff]
      intro i hi
      have := h0 i hi
      simp only [Bool.not_eq_true'] at this
      simp only [Bool.and_eq_true, Bool.not_eq_true']
      exact fun h => this h.1
    exact ⟨hr, fin listed u w hs hw hg hr⟩
  | succ f ih =>
    intro listed u w hs hw hg hf
    refine ⟨fin listed u w hs hw hg, fun i hi => ?_⟩
    have hi2 := hi
    unfold Region.ready at hi2
    rw [List.mem_filter, List.mem_range, Bool.and_eq_true] at hi2
    obtain ⟨hin, hnl, haf⟩ := hi2
    have hnl' : listed.getD i true = false := by simpa using hnl
    rw [Array.getElem?_eq_getElem hin] at haf
    simp only [Option.map_some, Option.getD_some] at haf
    rw [Array.all_eq_true'] at haf
    refine wpOp_mono ?_ (hstep i _ (Array.getElem?_eq_getElem hin) u w hw fun e he hbi => ?_)
    · rintro a' w' ⟨v, rfl, hgv, hr⟩
      refine ih _ _ _ (by rw [Array.size_setIfInBounds, hs]) (hR _ _ _ hw hr) (fun k hk hl => ?_) ?_
      · by_cases e : k = i
        · subst e
          unfold updV
          rw [if_pos rfl]; exact hgv
        · have hl' : listed.getD k true = true := by
            rw [← getD_set_ne (fun h => e h.symm)]; exact hl
          have hne : dst k ≠ dst i := fun h => e (hinj k i hk hin h)
          unfold updV
          rw [if_neg hne]
          exact hmono _ _ _ _ (hg k hk hl') hr
      · have hlt : ((List.range ops.size).filter fun k => !(listed.setIfInBounds i true).getD k true).length < ((List.range ops.size).filter fun k => !listed.getD k true).length := by
          have he : ((List.range ops.size).filter fun k => !(listed.setIfInBounds i true).getD k true) = (((List.range ops.size).filter fun k => !listed.getD k true).filter fun k => decide (k ≠ i)) := by
            rw [List.filter_filter]
            refine List.filter_congr fun k hk => ?_
            by_cases e : k = i
            · subst e
              have : k < listed.size := by omega
              simp [Array.getD_eq_getD_getElem?, this]
            · rw [getD_set_ne (fun h => e h.symm), decide_eq_true e, Bool.true_and]
          rw [he]
          refine List.length_filter_lt_length_iff_exists.2 ⟨i, List.mem_filter.2 ⟨List.mem_range.2 hin, by rw [hnl']; rfl⟩, by simp⟩
        omega
    · have h1 := haf e he
      rw [hbi] at h1
      have h3 : listed.getD e.on false = true := by simpa using h1
      have hlt := hb i _ (Array.getElem?_eq_getElem hin) e he
      refine hg e.on (by omega) ?_
      have : e.on < listed.size := by omega
      simpa [Array.getD_eq_getD_getElem?, this] using h3
/-- What an operation waits for. -/
def depsL (o : Oper) : List Nat := (o.after.toList.filter fun e => Region.binds .any e).map (·.on)
/-- Each operation of the list, run where what it waits for is good, leaves something good. -/
def StepsG (P : Program) (ops : Array Oper) (Q : Exit → Act → World → Prop) (a : Act) (ds : List Nat) (Good : Nat → Value → World → Prop) (R : World → World → Prop) (w0 : World) : List Oper → Nat → Prop
  | [], _ => True
  | o :: r, k => (∀ u w, R w0 w → (∀ j ∈ depsL o, Good j (u (ds.getD j 0)) w) → wpOp P ops Q k (fun a' w' => ∃ v, a' = frmV a (updV u (ds.getD k 0) v) ds ∧ Good k v w' ∧ R w w') (frmV a u ds) w) ∧ StepsG P ops Q a ds Good R w0 r (k + 1)
theorem stepsG_at {ops : Array Oper} {a : Act} {ds : List Nat} {Good : Nat → Value → World → Prop} {R : World → World → Prop} {w0 : World} (l : List Oper) : ∀ (k0 : Nat), StepsG P ops Q a ds Good R w0 l k0 → ∀ k (o : Oper), l[k]? = some o →
    ∀ u w, R w0 w → (∀ j ∈ depsL o, Good j (u (ds.getD j 0)) w) → wpOp P ops Q (k0 + k) (fun a' w' => ∃ v, a' = frmV a (updV u (ds.getD (k0 + k) 0) v) ds ∧ Good (k0 + k) v w' ∧ R w w') (frmV a u ds) w := by
  induction l with
  | nil => intro k0 _ k o ho; simp at ho
  | cons o r ih =>
    intro k0 h k o' ho u w hw hg
    cases k with
    | zero =>
      obtain rfl : o = o' := by simpa using ho
      exact h.1 u w hw hg
    | succ k =>
      have h1 := ih (k0 + 1) h.2 k o' (by simpa using ho) u w hw hg
      rw [show k0 + 1 + k = k0 + (k + 1) by omega] at h1
      exact h1
/-- The closed facts that the law wants. -/
def goodB (l : List Oper) (ds : List Nat) : Bool := backB l && decide (ds.length = l.length) && decide ds.Nodup
/-- The region: in whatever order, what is left is good. -/
theorem wp_region_good {id : Nat} {a : Act} {w : World} {l : List Oper} (ds : List Nat) (Good : Nat → Value → World → Prop) (R : World → World → Prop) (hm : P.follows .mixedOrders = true) (hB : goodB l ds = true)
    (h0 : R w.drew w.drew) (hR : ∀ a b c, R a b → R b c → R a c) (hmono : ∀ k v w w', Good k v w → R w w' → Good k v w')
    (hs : ∀ (a0 : Act) (ops0 : Array Oper), a0 = a → ops0 = l.toArray → StepsG P ops0 Q a0 ds Good R w.drew l 0)
    (hend : ∀ u w', R w.drew w' → (∀ k, k < l.length → Good k (u (ds.getD k 0)) w') → Q .normal (frmV a u ds) w') : (Code.region id l.toArray true).wp P Q a w := by
  unfold goodB at hB
  rw [Bool.and_eq_true, Bool.and_eq_true, decide_eq_true_eq, decide_eq_true_eq] at hB
  obtain ⟨⟨hb, hl⟩, hnd⟩ := hB
  refine wp_region_any hm ?_
  have hself := frmV_self a ds
  have hgo := wpAny_good (P := P) (ops := l.toArray) (Q := Q) (md := .any) (fun u => frmV a u ds) (fun k => ds.getD k 0) Good R w.drew
    (fun k o ho e he => by
      unfold backB at hb
      rw [List.all_eq_true] at hb
      have hk : k < l.length := by
        have := (Array.getElem?_eq_some_iff.1 ho).1
        simpa using this
      have h1 := hb k (List.mem_range.2 hk)
      have ho' : l[k]? = some o := by simpa using ho
      rw [ho'] at h1
      have h2 : (o.after.all fun e => decide (e.on < k)) = true := h1
      rw [Array.all_eq_true'] at h2
      simpa using h2 e he)
    (fun j k hj hk e => by
      have hj' : j < ds.length := by rw [hl]; simpa using hj
      have hk' : k < ds.length := by rw [hl]; simpa using hk
      have e' : ds[j] = ds[k] := by
        simpa [List.getD_eq_getElem?_getD, hj', hk'] using e
      exact (List.getElem_inj hnd).1 e')
    hR hmono
    (fun k o ho u w' hw hg => by
      have ho' : l[k]? = some o := by simpa using ho
      have h1 := stepsG_at l 0 (hs a l.toArray rfl rfl) k o ho' u w' hw (fun j hj => by
        unfold depsL at hj
        rw [List.mem_map] at hj
        obtain ⟨e, he, rfl⟩ := hj
        rw [List.mem_filter] at he
        exact hg e (by simpa using he.1) he.2)
      rw [Nat.zero_add] at h1
      exact h1)
    (fun u w' hw hg => hend u w' hw (fun k hk => hg k (by simpa using hk)))
    l.toArray.size (Array.replicate l.toArray.size false) (fun t => a.tmps.getD t undef) w.drew (by simp) h0
    (fun k hk hl => by
      have : k < (Array.replicate l.toArray.size false).size := by simpa using hk
      rw [getD_in this (getD_replicate_false _ _)] at hl
      cases hl)
    (Nat.le_trans (List.length_filter_le _ _) (by simp))
  have hself2 : frmV a (fun t => a.tmps.getD t undef) ds = a := hself.symm
  simp only [hself2] at hgo
  exact hgo
theorem frmV_in {a : Act} {u : Nat → Value} {ds : List Nat} {t : Nat} (ht : t < a.tmps.size) (h : ds.contains t = true) : (frmV a u ds).eval (.tmp t) = u t := by
  have := frmV_get (u := u) ht ds
  rw [if_pos (by simpa using h)] at this
  exact this
theorem frmV_out {a : Act} {u : Nat → Value} {ds : List Nat} {t : Nat} (ht : t < a.tmps.size) (h : ds.contains t = false) : (frmV a u ds).eval (.tmp t) = a.tmps.getD t undef := by
  have := frmV_get (u := u) ht ds
  rw [if_neg (by simpa using h)] at this
  exact this
/-- A step that yields a value. -/
theorem good_run {ops : Array Oper} {a : Act} {ds : List Nat} {Good : Nat → Value → World → Prop} {R : World → World → Prop} {k d : Nat} {o : Oper} {u : Nat → Value} {w w' : World} {v : Value} (ho : ops[k]? = some o) (hg : o.guard = none) (hd : o.dst = some d) (hk : ds.getD k 0 = d) (hin : ds.contains d = true)
    (hrun : (execOp (frmV a u ds).eval o).run P w = .ok (.value v) w') (h : Good k v w' ∧ R w w') : wpOp P ops Q k (fun a' w' => ∃ v, a' = frmV a (updV u (ds.getD k 0) v) ds ∧ Good k v w' ∧ R w w') (frmV a u ds) w := by
  unfold wpOp
  simp only [ho]
  have hw : Region.wanted o (yielded ops (frmV a u ds).tmps) = true := by unfold Region.wanted; rw [hg]
  rw [if_pos hw]
  refine .inl ?_
  unfold Oper.wp
  rw [hrun]
  show ∃ v', (frmV a u ds).put o.dst v = _ ∧ _
  refine ⟨v, ?_, h⟩
  rw [hd, hk]
  exact frmV_put (by simpa using hin) v
/-- A step that calls. -/
theorem good_call {ops : Array Oper} {a : Act} {ds : List Nat} {Good : Nat → Value → World → Prop} {R : World → World → Prop} {k d f : Nat} {o : Oper} {u : Nat → Value} {w : World} {args : Array Value} (ho : ops[k]? = some o) (hg : o.guard = none) (hd : o.dst = some d) (hk : ds.getD k 0 = d) (hin : ds.contains d = true)
    (hrun : (execOp (frmV a u ds).eval o).run P w = .ok (.enter f args) w) (h : Calls P f args w fun e w' => ∃ v, e = .returned v ∧ Good k v w' ∧ R w w') : wpOp P ops Q k (fun a' w' => ∃ v, a' = frmV a (updV u (ds.getD k 0) v) ds ∧ Good k v w' ∧ R w w') (frmV a u ds) w := by
  unfold wpOp
  simp only [ho]
  have hw : Region.wanted o (yielded ops (frmV a u ds).tmps) = true := by unfold Region.wanted; rw [hg]
  rw [if_pos hw]
  refine .inl ?_
  unfold Oper.wp
  rw [hrun]
  refine Calls.mono h ?_
  rintro e w' ⟨v, rfl, hg2⟩
  show ∃ v', (frmV a u ds).put o.dst v = _ ∧ _
  refine ⟨v, ?_, hg2⟩
  rw [hd, hk]
  exact frmV_put (by simpa using hin) v
end
end Go.Proofs.YtmfomjaomhohkaaDoor
namespace Go.Proofs.YtmfomjaomhohkaaDoor
open Go Go.RowKit Go.Shelf
section
variable {P : Program} {ops : Array Oper} {Q : Exit → Act → World → Prop} {md : Region.Mode}
/-- The listing in which just the first n are listed. -/
def fullA (n m : Nat) : Array Bool := ((List.replicate n true) ++ (List.replicate (m - n) false)).toArray
theorem full_of {n : Nat} {listed : Array Bool} (hn : n ≤ ops.size) (inv : HeadInv md ops n listed) (h : ∀ k, k < n → listed.getD k true = true) : listed = fullA n ops.size := by
  have hs := inv.size
  apply Array.ext
  · simp [fullA, hs]; omega
  · intro i h1 h2
    have hi : i < ops.size := by omega
    have e1 : listed[i] = listed.getD i true := by simp [Array.getD_eq_getD_getElem?, h1]
    rw [e1]
    simp only [fullA, List.getElem_toArray]
    by_cases q : i < n
    · rw [h i q, List.getElem_append_left (by simpa using q)]; simp
    · rw [inv.tail i (by omega) hi, List.getElem_append_right (by simpa using q)]; simp
def unlC (n : Nat) (listed : Array Bool) : Nat := ((List.range n).filter fun k => !listed.getD k true).length
theorem wpAny_goodT {n : Nat} (F : (Nat → Value) → Act) (dst : Nat → Nat) (Good : Nat → Value → World → Prop) (R : World → World → Prop) (w0 : World) (l : List Oper) (hl : l.toArray = ops)
    (hb : ∀ (k : Nat) (o : Oper), ops[k]? = some o → ∀ e ∈ o.after, e.on < k)
    (hs : Region.sinkB md ops n = true) (hc : Region.chainB md ops n = true) (hn : n < ops.size) (hseq : Region.seqB md ops (ops.size - n) n (fullA n ops.size) = true)
    (hinj : ∀ j k, j < n → k < n → dst j = dst k → j = k)
    (hR : ∀ a b c, R a b → R b c → R a c) (hmono : ∀ k v w w', Good k v w → R w w' → Good k v w')
    (hstep : ∀ (k : Nat) (o : Oper), k < n → ops[k]? = some o → ∀ u w, R w0 w → (∀ e ∈ o.after, Region.binds md e = true → Good e.on (u (dst e.on)) w) →
      wpOp P ops Q k (fun a' w' => ∃ v, a' = F (updV u (dst k) v) ∧ Good k v w' ∧ R w w') (F u) w)
    (hend : ∀ u w, R w0 w → (∀ k, k < n → Good k (u (dst k)) w) → wpList P ops Q (l.drop n) (F u) w) :
    ∀ (f : Nat) (listed : Array Bool) (u : Nat → Value) (w : World), HeadInv md ops n listed → R w0 w → (∀ k, k < n → listed.getD k true = true → Good k (u (dst k)) w) →
      unlC n listed = f → wpAny P md ops Q (f + (ops.size - n)) listed (F u) w := by
  have hsz : l.length = ops.size := by rw [← hl]; simp
  intro f
  induction f with
  | zero =>
    intro listed u w inv hw hg hf
    have hall : ∀ k, k < n → listed.getD k true = true := fun k hk => by
      have h0 : ((List.range n).filter fun k => !listed.getD k true) = [] := List.eq_nil_of_length_eq_zero hf
      rw [List.filter_eq_nil_iff] at h0
      have := h0 k (List.mem_range.2 hk)
      simpa using this
    have e := full_of (by omega) inv hall
    have h1 := wpAny_of_seq (md := md) (Q' := Q) (P := P) (ops := ops) (l.drop n) n listed (F u) w (fun j => by rw [← hl]; simp [List.getElem?_drop]) (by
      rw [List.length_drop, hsz, e]; exact hseq) (hend u w hw fun k hk => hg k hk (hall k hk))
    rw [List.length_drop, hsz] at h1
    rw [Nat.zero_add]; exact h1
  | succ f ih =>
    intro listed u w inv hw hg hf
    have hex : ∃ i0, i0 < n ∧ listed.getD i0 true = false := by
      have h0 : 0 < ((List.range n).filter fun k => !listed.getD k true).length := by unfold unlC at hf; omega
      obtain ⟨i0, hi0⟩ := List.exists_mem_of_length_pos h0
      rw [List.mem_filter, List.mem_range] at hi0
      exact ⟨i0, hi0.1, by simpa using hi0.2⟩
    obtain ⟨i0, hi0, hu0⟩ := hex
    rw [show f + 1 + (ops.size - n) = (f + (ops.size - n)) + 1 by omega]
    refine ⟨fun hr => ?_, fun i hi => ?_⟩
    · have := ready_all inv.size hb hr i0 (by omega)
      rw [this] at hu0; cases hu0
    have hin : i < n := by
      rcases Nat.lt_or_ge i n with h | h
      · exact h
      · exact absurd hi (tail_waits hs hc hn inv _ i0 rfl hi0 hu0 i h)
    obtain ⟨hnl, oi, hoi, hall⟩ := mem_ready.1 hi
    refine wpOp_mono ?_ (hstep i oi hin hoi u w hw fun e he hbi => ?_)
    · rintro a' w' ⟨v, rfl, hgv, hr⟩
      refine ih _ _ _ (inv.set hi hin) (hR _ _ _ hw hr) (fun k hk hl2 => ?_) ?_
      · by_cases e : k = i
        · subst e
          unfold updV
          rw [if_pos rfl]; exact hgv
        · have hl' : listed.getD k true = true := by
            rw [← getD_set_ne (fun h => e h.symm)]; exact hl2
          have hne : dst k ≠ dst i := fun h => e (hinj k i hk hin h)
          unfold updV
          rw [if_neg hne]
          exact hmono _ _ _ _ (hg k hk hl') hr
      · have key : ∀ m, i < m → ((List.range m).filter fun k => !(listed.setIfInBounds i true).getD k true).length + 1 = ((List.range m).filter fun k => !listed.getD k true).length := by
          intro m
          induction m with
          | zero => intro h; omega
          | succ m ihm =>
            intro h
            rw [List.range_succ, List.filter_append, List.filter_append, List.length_append, List.length_append]
            by_cases e : m = i
            · subst e
              have e1 : ((List.range m).filter fun k => !(listed.setIfInBounds m true).getD k true) = ((List.range m).filter fun k => !listed.getD k true) := List.filter_congr fun k hk => by
                have := List.mem_range.1 hk
                rw [getD_set_ne (by omega)]
              have hlt : m < listed.size := by have := inv.size; omega
              have e2 : (listed.setIfInBounds m true).getD m true = true := by simp [Array.getD_eq_getD_getElem?, hlt]
              have e3 : (List.filter (fun k => !listed.getD k true) [m]) = [m] := by rw [List.filter_cons, if_pos (by rw [hnl]; rfl)]; rfl
              have e4 : (List.filter (fun k => !(listed.setIfInBounds m true).getD k true) [m]) = [] := by rw [List.filter_cons, if_neg (by rw [e2]; simp)]; rfl
              rw [e1, e3, e4]; rfl
            · have e2 : (listed.setIfInBounds i true).getD m true = listed.getD m true := getD_set_ne (fun h => e h.symm)
              have h3 := ihm (by omega)
              have e3 : (List.filter (fun k => !(listed.setIfInBounds i true).getD k true) [m]).length = (List.filter (fun k => !listed.getD k true) [m]).length := by
                simp only [List.filter_cons, e2, List.filter_nil]
              rw [e3]; omega
        have h4 := key n hin
        unfold unlC at hf ⊢
        omega
    · have h3 := hall e he hbi
      have hlt := hb i _ hoi e he
      refine hg e.on (by omega) ?_
      have : e.on < listed.size := by have := inv.size; omega
      simpa [Array.getD_eq_getD_getElem?, this] using h3
/-- The closed facts that the law wants. -/
def goodTB (l : List Oper) (n : Nat) (ds : List Nat) : Bool := backB l && decide (ds.length = n) && decide ds.Nodup && Region.sinkB .any l.toArray n && Region.chainB .any l.toArray n && decide (n < l.length) && Region.seqB .any l.toArray (l.length - n) n (fullA n l.length)
/-- The region: in whatever order the first n come, what is left is good; then the others. -/
theorem wp_region_goodT {id : Nat} {a : Act} {w : World} {l : List Oper} (n : Nat) (ds : List Nat) (Good : Nat → Value → World → Prop) (R : World → World → Prop) (hm : P.follows .mixedOrders = true) (hB : goodTB l n ds = true)
    (h0 : R w.drew w.drew) (hR : ∀ a b c, R a b → R b c → R a c) (hmono : ∀ k v w w', Good k v w → R w w' → Good k v w')
    (hs : ∀ (a0 : Act) (ops0 : Array Oper), a0 = a → ops0 = l.toArray → StepsG P ops0 (NoPanic Q) a0 ds Good R w.drew (l.take n) 0)
    (hend : ∀ u w', R w.drew w' → (∀ k, k < n → Good k (u (ds.getD k 0)) w') → wpList P l.toArray (NoPanic Q) (l.drop n) (frmV a u ds) w') : (Code.region id l.toArray true).wp P Q a w := by
  unfold goodTB at hB
  simp only [Bool.and_eq_true, decide_eq_true_eq] at hB
  obtain ⟨⟨⟨⟨⟨⟨hb, hl⟩, hnd⟩, hsk⟩, hch⟩, hn⟩, hsq⟩ := hB
  refine wp_region_noPanic (wp_region_any hm ?_)
  have hself := frmV_self a ds
  have hsz : l.toArray.size = l.length := by simp
  have inv0 : HeadInv .any l.toArray n (Array.replicate l.toArray.size false) :=
    ⟨by simp, fun j oj _ hl => (by rw [getD_replicate_false] at hl; cases hl), fun t _ ht => getD_in (by simpa using ht) (getD_replicate_false _ _)⟩
  have hgo := wpAny_goodT (P := P) (ops := l.toArray) (Q := NoPanic Q) (md := .any) (n := n) (fun u => frmV a u ds) (fun k => ds.getD k 0) Good R w.drew l rfl
    (fun k o ho e he => by
      unfold backB at hb
      rw [List.all_eq_true] at hb
      have hk : k < l.length := by
        have := (Array.getElem?_eq_some_iff.1 ho).1
        simpa using this
      have h1 := hb k (List.mem_range.2 hk)
      have ho' : l[k]? = some o := by simpa using ho
      rw [ho'] at h1
      have h2 : (o.after.all fun e => decide (e.on < k)) = true := h1
      rw [Array.all_eq_true'] at h2
      simpa using h2 e he)
    hsk hch (by rw [hsz]; exact hn) (by rw [hsz]; exact hsq)
    (fun j k hj hk e => by
      have hj' : j < ds.length := by omega
      have hk' : k < ds.length := by omega
      have e' : ds[j] = ds[k] := by
        simpa [List.getD_eq_getElem?_getD, hj', hk'] using e
      exact (List.getElem_inj hnd).1 e')
    hR hmono
    (fun k o hk ho u w' hw hg => by
      have ho' : (l.take n)[k]? = some o := by rw [List.getElem?_take, if_pos hk]; simpa using ho
      have h1 := stepsG_at (l.take n) 0 (hs a l.toArray rfl rfl) k o ho' u w' hw (fun j hj => by
        unfold depsL at hj
        rw [List.mem_map] at hj
        obtain ⟨e, he, rfl⟩ := hj
        rw [List.mem_filter] at he
        exact hg e (by simpa using he.1) he.2)
      rw [Nat.zero_add] at h1
      exact h1)
    hend
    (unlC n (Array.replicate l.toArray.size false)) (Array.replicate l.toArray.size false) (fun t => a.tmps.getD t undef) w.drew inv0 h0
    (fun k hk hl => by
      have : k < (Array.replicate l.toArray.size false).size := by simp; omega
      rw [getD_in this (getD_replicate_false _ _)] at hl
      cases hl)
    rfl
  have hself2 : frmV a (fun t => a.tmps.getD t undef) ds = a := hself.symm
  simp only [hself2] at hgo
  have hcnt : unlC n (Array.replicate l.toArray.size false) = n := by
    unfold unlC
    have : ((List.range n).filter fun k => !(Array.replicate l.toArray.size false).getD k true) = List.range n := List.filter_eq_self.2 fun k hk => by
      have := List.mem_range.1 hk
      rw [getD_in (by simp; omega) (getD_replicate_false _ _)]; rfl
    rw [this, List.length_range]
  rw [hcnt, hsz, show n + (l.length - n) = l.length by omega] at hgo
  rw [hsz]
  exact hgo
end
section
variable {α : Type} {enc : α → List Value}
/-- A list is appended to an empty row: nothing that lay there changes. -/
theorem run_pushs0 {w : World} {k bytes : Nat} (hk : ∀ x, (enc x).length = k) (hk0 : 0 < k) (h1 : ∀ x, ∀ u ∈ enc x, u.oneCell' = true) {base : Nat} {t ty e : TypeId} {z : Value} (ht : Tryd.prog.underlying t = some (.slice e))
    (hinfo : (Tryd.prog.info? e).map (fun i => (i.zero, i.size, i.bytes)) = some (some z, k, bytes)) (hzs : z.cells.size = k) (D : Nat) (hown : w.ownsRow base e k (.slice (some ⟨D, 0, none⟩) 0 0) 0 [])
    (A : Option Addr) (m c : Nat) (l2 : List α) (hm : m = l2.length) (hA : Rd w A (fl enc l2)) (hA0 : A = none → m = 0) (hlen : m < 1048576) (hbytes : bytes ≤ 1048576) (hbase : base ≤ w.heap.size) :
    ∃ v' w', (Builtin.append_ #[t, t] ty #[.slice (some ⟨D, 0, none⟩) 0 0, .slice A m c]).run Tryd.prog w = .ok v' w' ∧ w'.ownsRow base e k v' m (fl enc l2) ∧ Below w.heap.size w w' := by
  obtain ⟨v', w', hrun, h2, h3, _⟩ := run_pushs (ty := ty) hk hk0 h1 ht hinfo hzs (.slice (some ⟨D, 0, none⟩) 0 0) ([] : List α) 0 rfl hown A m c l2 hm hA hA0 (by omega) hbytes hbase
  rw [Nat.zero_add, List.nil_append] at h2
  refine ⟨v', w', hrun, h2, ?_⟩
  obtain ⟨i0, hi, hz0, hz1, hz2⟩ := info_parts hinfo
  rcases Nat.eq_zero_or_pos m with h0 | h0
  · subst h0
    have e : l2 = [] := List.eq_nil_of_length_eq_zero hm.symm
    subst e
    have hsrc : Src Tryd.prog i0.size t (.slice A 0 c) 0 [] w := by
      cases A with
      | none => exact Src.ofNil w ht c
      | some ad => exact Src.ofSlice w ht ad 0 c [] (by simp) (fun j u h => by simp at h) (fun u h => by cases h)
    have hr := run_append_nothing w t t ty e i0 ht hi (some ⟨D, 0, none⟩) 0 0 (Nat.le_refl _) (.slice A 0 c) hsrc
    rw [hrun] at hr
    injection hr with e1 e2
    rw [e2]; exact Below.refl _ _
  · obtain ⟨b, o, rfl, hb, hc⟩ := hA (by rw [fl_length hk, ← hm]; exact Nat.mul_pos h0 hk0)
    have hcells : ∀ j u, (fl enc l2)[j]? = some u → w.cell? (Addr.add ⟨b, o, none⟩ j) = some u := by
      intro j u hu
      have hj : j < (fl enc l2).length := by
        rcases Nat.lt_or_ge j (fl enc l2).length with h | h
        · exact h
        · rw [List.getElem?_eq_none h] at hu; cases hu
      have h7 := hc j hj
      rw [List.getD_eq_getElem?_getD, hu] at h7
      by_cases ej : j = 0
      · subst ej; simpa [Addr.add] using h7
      · simpa [Addr.add, ej] using h7
    have hsrc : Src Tryd.prog i0.size t (.slice (some ⟨b, o, none⟩) m c) m (fl enc l2) w :=
      Src.ofSlice w ht ⟨b, o, none⟩ m c (fl enc l2) (by rw [fl_length hk, hm, hz1]) hcells (fun u hu => by
        obtain ⟨x, _, hx⟩ := List.mem_flatMap.1 hu
        exact h1 x u hx)
    have hmul : m * bytes ≤ 1048576 * 1048576 := Nat.mul_le_mul (Nat.le_of_lt hlen) hbytes
    have hr := run_append_grow_src w t t ty e i0 z ht hi hz0 (some ⟨D, 0, none⟩) 0 0 [] (run_firstCells_some w.drew i0.size 0 ⟨D, 0, none⟩ 0 0 [] (by simp) (fun j u h => by simp at h)) (.slice (some ⟨b, o, none⟩) m c) m (fl enc l2) hsrc (by omega) (by omega) (by
      have : Builtin.nextslicecap (0 + m) 0 = m := by
        unfold Builtin.nextslicecap
        simp [h0]
      rw [this, hz2]; omega)
    rw [hrun] at hr
    injection hr with e1 e2
    rw [e2]
    exact bl_alloc (bl_drewN (Below.refl _ w) 1) _
end
end Go.Proofs.YtmfomjaomhohkaaDoor
namespace Go.Proofs.YtmfomjaomhohkaaDoor
open Go Go.RowKit Go.Shelf
section
variable {α : Type} {enc : α → List Value}
theorem good_pushs0 {ops : Array Oper} {a : Act} {ds : List Nat} {Good : Nat → Value → World → Prop} {R : World → World → Prop} {Q : Exit → Act → World → Prop} {j d : Nat} {o : Oper} {u : Nat → Value} {w : World} (ho : ops[j]? = some o) (hg : o.guard = none) (hd : o.dst = some d) (hj : ds.getD j 0 = d) (hin : ds.contains d = true)
    {k bytes : Nat} (hk : ∀ x, (enc x).length = k) (hk0 : 0 < k) (h1 : ∀ x, ∀ u ∈ enc x, u.oneCell' = true) {base : Nat} {t e : TypeId} {z : Value} (ht : Tryd.prog.underlying t = some (.slice e))
    (hinfo : (Tryd.prog.info? e).map (fun i => (i.zero, i.size, i.bytes)) = some (some z, k, bytes)) (hzs : z.cells.size = k) (s x : Operand) (hop : o.op = .call { callee := .builtin .append, args := #[s, x], argTypes := #[t, t] }) (D : Nat)
    (hs : (frmV a u ds).eval s = .slice (some ⟨D, 0, none⟩) 0 0) (hown : w.ownsRow base e k (.slice (some ⟨D, 0, none⟩) 0 0) 0 [])
    (A : Option Addr) (m c : Nat) (l2 : List α) (hm : m = l2.length) (hx : (frmV a u ds).eval x = .slice A m c) (hA : Rd w A (fl enc l2)) (hA0 : A = none → m = 0) (hlen : m < 1048576) (hbytes : bytes ≤ 1048576) (hbase : base ≤ w.heap.size)
    (h : ∀ v' w', w'.ownsRow base e k v' m (fl enc l2) → Below w.heap.size w w' → Good j v' w' ∧ R w w') : wpOp Tryd.prog ops Q j (fun a' w' => ∃ v, a' = frmV a (updV u (ds.getD j 0) v) ds ∧ Good j v w' ∧ R w w') (frmV a u ds) w := by
  obtain ⟨v', w', hrun, h2, h3⟩ := run_pushs0 (ty := o.type) hk hk0 h1 ht hinfo hzs D hown A m c l2 hm hA hA0 hlen hbytes hbase
  refine good_run ho hg hd hj hin (v := v') (w' := w') ?_ (h v' w' h2 h3)
  unfold execOp
  simp only [hop, resolve, invoke, builtin, Sem.run_bind, Sem.run_pure, Result.andThen_ok, List.map_toArray, List.map_cons, List.map_nil, hs, hx, hrun]
end
end Go.Proofs.YtmfomjaomhohkaaDoor
