/- Plain: the names of the languages, the tree of a clustering is valid, and the sets of its clusters. -/
import Derived.Test.YtahgffjkkdbjeaaDoorLA
import Derived.Test.YtahgffjkkdbjeaaDoorTA
namespace Go.Proofs.YtahgffjkkdbjeaaDoor
open Go.RowKit
def nmA (a : Nat) : ByteArray := ⟨#[76, UInt8.ofNat (97 + a)]⟩
def nmsL (n : Nat) : List ByteArray := (List.range n).map nmA
theorem nmsL_len (n : Nat) : (nmsL n).length = n := by simp [nmsL]
theorem nmsL_at {n a : Nat} (h : a < n) : sA (nmsL n) a = nmA a := by simp [sA, nmsL, h]
theorem nmsL_next (n : Nat) : nmsL n ++ [nmA n] = nmsL (n + 1) := by simp [nmsL, List.range_succ]
def inT (i : Nat) : ByteArray := if i < 10 then ⟨#[109, UInt8.ofNat (48 + i)]⟩ else ⟨#[109, UInt8.ofNat (48 + i / 10), UInt8.ofNat (48 + i % 10)]⟩
theorem innS_tab {i : Nat} (h : i < 100) : innS i = inT i := by
  unfold inT
  by_cases e : i < 10
  · rw [if_pos e, innS_low e]
  · rw [if_neg e, innS_high e h]
theorem nmA_inj : ∀ a, a < 24 → ∀ b, b < 24 → (nmA a).data.toList = (nmA b).data.toList → a = b := by decide
theorem inT_inj : ∀ a, a < 23 → ∀ b, b < 23 → (inT a).data.toList = (inT b).data.toList → a = b := by decide
theorem nm_cross : ∀ a, a < 24 → ∀ b, b < 23 → (nmA a).data.toList ≠ (inT b).data.toList := by decide
theorem nmB_nmA : ∀ a, a < 24 → nmB (nmA a) = true := by decide
theorem nmB_inT : ∀ a, a < 23 → nmB (inT a) = true := by decide
theorem nm_ok {n K : Nat} (hn : n ≤ 24) (hK : K ≤ 23) : NmOk n K (sA (nmsL n)) := by
  refine ⟨fun a b ha hb e => ?_, fun i j hi hj e => ?_, fun a j ha hj e => ?_⟩
  · rw [nmsL_at ha, nmsL_at hb] at e
    exact nmA_inj a (by omega) b (by omega) (by rw [e])
  · rw [innS_tab (by omega), innS_tab (by omega)] at e
    exact inT_inj i (by omega) j (by omega) (by rw [e])
  · rw [nmsL_at ha, innS_tab (by omega)] at e
    exact nm_cross a (by omega) j (by omega) (by rw [e])
theorem leaves_E {n : Nat} {l : List Mg} (h1 : 1 ≤ n) (hn : n ≤ 24) (hok : StepsOk n l) : treeE n (nmsL n) l = 0 := by
  have hl := hok.1
  have hnm := nm_ok (n := n) (K := l.length) hn (by omega)
  unfold treeE
  rw [if_neg (by omega), if_neg, if_neg, if_neg]
  · intro h
    apply h
    rw [have_iff]
    intro i hi
    rw [nmsL_len] at hi
    refine ⟨fun k hk e => ?_, fun k hk e => ?_⟩
    · have := hnm.inj i k hi (by omega) e; omega
    · exact hnm.cross i k hi hk e
  · intro h
    apply h
    intro i hi
    rw [nmsL_len] at hi
    rw [nmsL_at hi]
    exact nmB_nmA i (by omega)
  · intro h
    exact h ⟨by rw [nmsL_len], by simpa using hok⟩
/-- A valid tree. -/
theorem pt_tree {n k a : Nat} {l : List Mg} {t : List Nd} (hn : n ≤ 24) (hk : k ≤ 23) (hs : stS n l k a ≤ 24) (h : PtOk n (sA (nmsL n)) l k a t) : TreeOk t := by
  have hl := h.len
  have hp := h.par.pos
  refine ⟨hp, by omega, fun v hv => ⟨?_, ?_, ?_, ?_⟩⟩
  · by_cases e : v = 0
    · rw [e, h.par.root]; omega
    · exact (h.par.par v (by omega) hv).2
  · by_cases e : v = 0
    · rw [e, h.par.root]; simp
    · rw [if_neg e]; exact (h.par.par v (by omega) hv).1
  · rcases h.node v hv with ⟨b, b1, _, b3, _⟩ | ⟨j, b1, _, b3, _⟩
    · rw [b3, nmsL_at b1]; exact nmB_nmA b (by omega)
    · rw [b3, innS_tab (by omega)]; exact nmB_inT j (by omega)
  · unfold seenB
    rw [List.any_eq_false]
    intro u hu
    have := h.dst u v (List.mem_range.1 hu) hv
    simpa using this
/-- What a name's place reads as when the first v nodes are laid. -/
def plF (t : List Nd) : Nat → ByteArray → Int
  | 0 => fun _ => 0
  | v + 1 => updS (plF t v) (nS t v) v
theorem plF_at {t : List Nd} (h : ∀ u v, u < v → v < t.length → nS t u ≠ nS t v) : ∀ k, k ≤ t.length → ∀ u, u < k → plF t k (nS t u) = u
  | 0, _, u, hu => by omega
  | k + 1, hk, u, hu => by
    show updS (plF t k) (nS t k) k (nS t u) = u
    unfold updS
    by_cases e : u = k
    · rw [e, if_pos rfl]
    · rw [if_neg (h u k (by omega) (by omega))]
      exact plF_at h k (by omega) u (by omega)
theorem plF_bd (t : List Nd) : ∀ k s, 0 ≤ plF t k s ∧ plF t k s ≤ k
  | 0, s => by simp [plF]
  | k + 1, s => by
    have := plF_bd t k s
    show 0 ≤ updS (plF t k) (nS t k) k s ∧ updS (plF t k) (nS t k) k s ≤ ((k + 1 : Nat) : Int)
    unfold updS
    split <;> omega
theorem seenB_at {t : List Nd} {k u : Nat} (hu : u < k) : seenB t k (nS t u) = true := by
  unfold seenB
  rw [List.any_eq_true]
  exact ⟨u, List.mem_range.2 hu, by simp⟩
/-- The languages of each cluster, as lists. -/
def setK (l : List Mg) : Nat → Nat → List Nat
  | 0 => fun a => [a]
  | k + 1 => fun a => if a = aN l k then setK l k (aN l k) ++ setK l k (bN l k) else setK l k a
theorem setK_mem {n : Nat} {l : List Mg} : ∀ k, (∀ i, i < k → StepOk n l i) → ∀ a, a < n → 0 < stS n l k a → ∀ b, b < n → (b ∈ setK l k a ↔ lsK l k b = a)
  | 0, _, a, ha, _, b, hb => by simp [setK, lsK]
  | k + 1, hok, a, ha, hs, b, hb => by
    obtain ⟨p1, p2, p3, p4⟩ := (hok k (by omega)).nat
    have ih := setK_mem k (fun i hi => hok i (by omega))
    have es : stS n l (k + 1) a = if a = bN l k then 0 else if a = aN l k then stS n l k (aN l k) + stS n l k (bN l k) else stS n l k a := joinS_at p1 a
    have el : lsK l (k + 1) b = if lsK l k b = bN l k then aN l k else lsK l k b := rfl
    have e2 : setK l (k + 1) a = if a = aN l k then setK l k (aN l k) ++ setK l k (bN l k) else setK l k a := rfl
    rw [es] at hs
    have eb : a ≠ bN l k := fun h => by rw [if_pos h] at hs; omega
    rw [el, e2]
    by_cases e : a = aN l k
    · rw [if_pos e, List.mem_append, ih _ (by omega) p3 b hb, ih _ p2 p4 b hb]
      split <;> omega
    · rw [if_neg eb, if_neg e] at hs
      rw [if_neg e, ih a ha hs b hb]
      split <;> omega
theorem setK_len {n : Nat} {l : List Mg} : ∀ k, (∀ i, i < k → StepOk n l i) → ∀ a, a < n → 0 < stS n l k a → (setK l k a).length = stS n l k a
  | 0, _, a, ha, _ => by show 1 = aloneS n a; rw [show aloneS n a = 1 from if_pos ha]
  | k + 1, hok, a, ha, hs => by
    obtain ⟨p1, p2, p3, p4⟩ := (hok k (by omega)).nat
    have ih := setK_len k (fun i hi => hok i (by omega))
    have es : stS n l (k + 1) a = if a = bN l k then 0 else if a = aN l k then stS n l k (aN l k) + stS n l k (bN l k) else stS n l k a := joinS_at p1 a
    have e2 : setK l (k + 1) a = if a = aN l k then setK l k (aN l k) ++ setK l k (bN l k) else setK l k a := rfl
    rw [es] at hs ⊢
    have eb : a ≠ bN l k := fun h => by rw [if_pos h] at hs; omega
    rw [if_neg eb] at hs ⊢
    rw [e2]
    by_cases e : a = aN l k
    · rw [if_pos e, if_pos e, List.length_append, ih _ (by omega) p3, ih _ p2 p4]
    · rw [if_neg e] at hs
      rw [if_neg e, if_neg e, ih a ha hs]
/-- All sets are short. -/
theorem setK_bd (l : List Mg) : ∀ k a, (setK l k a).length ≤ 2 ^ k
  | 0, a => Nat.le_refl _
  | k + 1, a => by
    have h1 := setK_bd l k (aN l k)
    have h2 := setK_bd l k (bN l k)
    have h3 := setK_bd l k a
    show (if a = aN l k then setK l k (aN l k) ++ setK l k (bN l k) else setK l k a).length ≤ 2 ^ (k + 1)
    rw [Nat.pow_succ]
    split
    · rw [List.length_append]; omega
    · omega
end Go.Proofs.YtahgffjkkdbjeaaDoor
