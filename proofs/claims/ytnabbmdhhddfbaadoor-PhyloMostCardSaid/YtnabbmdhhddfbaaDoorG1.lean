/- The longest lists without a conflict: plain facts for PhyloMost. -/
import Derived.Test.YtnabbmdhhddfbaaDoorB1
import Derived.Test.YtnabbmdhhddfbaaDoorA17
namespace Go.Proofs.YtnabbmdhhddfbaaDoor
open Go.RowKit Go.Shelf
theorem bigLen : ∀ (l : List Nat) (n : Nat), l.Pairwise (· < ·) → (∀ k, k ∈ l → k < n) → l.length ≤ n := by
  intro l n h1 h2
  have h3 : ∀ j, ∀ h : j < l.length, j ≤ l[j] := by
    intro j
    induction j with
    | zero => intro _; omega
    | succ j ih =>
      intro h
      have := ih (by omega)
      have := List.pairwise_iff_getElem.1 h1 j (j + 1) (by omega) h (by omega)
      omega
  rcases Nat.lt_or_ge n l.length with h | h
  · have := h3 n h
    have := h2 _ (List.getElem_mem h)
    omega
  · exact h
def Fits (has : List Nat) (l : List Nat) : Prop := l.Pairwise fun a b => fitB (vA has a) (vA has b) = true
theorem fitB_self (x : Nat) : fitB x x = true := by unfold fitB; simp [Nat.and_self]
theorem okL_iff {has l : List Nat} {i : Nat} : okL has l i = true ↔ ∀ k, k ∈ l → fitB (vA has k) (vA has i) = true := by
  unfold okL; rw [List.all_eq_true]
theorem fits_snoc {has l : List Nat} {i : Nat} (h : Fits has l) (ho : okL has l i = true) : Fits has (l ++ [i]) := by
  unfold Fits
  rw [List.pairwise_append]
  exact ⟨h, List.pairwise_singleton _ _, fun a ha b hb => by rw [List.mem_singleton.1 hb]; exact okL_iff.1 ho a ha⟩
/-- Every list of the search is increasing and has no conflict. -/
theorem dsc_sound (has : List Nat) : ∀ r l x, r ≤ has.length → x ∈ dsc has r l → l.Pairwise (· < ·) → (∀ k, k ∈ l → k < has.length - r) → Fits has l → x.Pairwise (· < ·) ∧ (∀ k, k ∈ x → k < has.length) ∧ Fits has x := by
  intro r
  induction r with
  | zero =>
    intro l x _ hx h1 h2 h3
    rw [dsc, List.mem_singleton] at hx
    subst hx
    exact ⟨h1, fun k hk => by have := h2 k hk; omega, h3⟩
  | succ r ih =>
    intro l x hr hx h1 h2 h3
    rw [dsc, List.mem_append] at hx
    rcases hx with hx | hx
    · by_cases q : okL has l (has.length - (r + 1)) = true
      · rw [if_pos q] at hx
        refine ih _ x (by omega) hx ?_ ?_ (fits_snoc h3 q)
        · rw [List.pairwise_append]
          exact ⟨h1, List.pairwise_singleton _ _, fun a ha b hb => by rw [List.mem_singleton.1 hb]; exact h2 a ha⟩
        · intro k hk
          rcases List.mem_append.1 hk with hk | hk
          · have := h2 k hk; omega
          · rw [List.mem_singleton.1 hk]; omega
      · rw [if_neg q] at hx; cases hx
    · exact ih l x (by omega) hx h1 (fun k hk => by have := h2 k hk; omega) h3
/-- Every set of numbers without a conflict is among them. -/
theorem dsc_all (has : List Nat) (p : Nat → Bool) (hp : ∀ a b, p a = true → p b = true → fitB (vA has a) (vA has b) = true) : ∀ r l, r ≤ has.length → (∀ k, k ∈ l → p k = true) → l ++ (List.range' (has.length - r) r).filter p ∈ dsc has r l := by
  intro r
  induction r with
  | zero => intro l _ _; simp [dsc]
  | succ r ih =>
    intro l hr hl
    have e : List.range' (has.length - (r + 1)) (r + 1) = (has.length - (r + 1)) :: List.range' (has.length - r) r := by
      rw [List.range'_succ]; congr 2; omega
    rw [e, dsc, List.mem_append]
    by_cases q : p (has.length - (r + 1)) = true
    · rw [List.filter_cons_of_pos q]
      refine .inl ?_
      rw [if_pos (okL_iff.2 fun k hk => hp k _ (hl k hk) q)]
      have := ih (l ++ [has.length - (r + 1)]) (by omega) (fun k hk => by
        rcases List.mem_append.1 hk with hk | hk
        · exact hl k hk
        · rw [List.mem_singleton.1 hk]; exact q)
      rw [List.append_assoc] at this
      exact this
    · rw [List.filter_cons_of_neg q]
      exact .inr (ih l (by omega) hl)
theorem filter_le (p : Nat → Bool) (i : Nat) : ∀ l : List Nat, (l.filter p).length ≤ (l.filter (fun a => p a || decide (a = i))).length := by
  intro l
  induction l with
  | nil => simp
  | cons a l ih =>
    by_cases q : p a = true
    · rw [List.filter_cons_of_pos q, List.filter_cons_of_pos (by simp [q])]; simp only [List.length_cons]; omega
    · rw [List.filter_cons_of_neg q]
      refine Nat.le_trans ih ?_
      rw [List.filter_cons]
      split
      · simp only [List.length_cons]; omega
      · exact Nat.le_refl _
theorem filter_more (p : Nat → Bool) (i : Nat) (hp : p i = false) : ∀ l : List Nat, i ∈ l → (l.filter p).length + 1 ≤ (l.filter (fun a => p a || decide (a = i))).length := by
  intro l
  induction l with
  | nil => intro h; cases h
  | cons a l ih =>
    intro h
    by_cases e : a = i
    · subst e
      rw [List.filter_cons_of_neg (by simp [hp]), List.filter_cons_of_pos (by simp)]
      have := filter_le p a l
      simp only [List.length_cons]; omega
    · have hi : i ∈ l := by
        rcases List.mem_cons.1 h with h | h
        · exact absurd h.symm e
        · exact h
      have := ih hi
      by_cases q : p a = true
      · rw [List.filter_cons_of_pos q, List.filter_cons_of_pos (by simp [q])]; simp only [List.length_cons]; omega
      · rw [List.filter_cons_of_neg q, List.filter_cons_of_neg (by simp [q, e])]; exact this
theorem big_mem (has : List Nat) : bigL has ∈ dsc has has.length [] := by
  rw [bigL_dsc]
  rcases fold_mem (dsc has has.length []) [] with h | h
  · rw [h]; exact dsc_self has _ _
  · exact h
theorem big_sound (has : List Nat) : (bigL has).Pairwise (· < ·) ∧ (∀ k, k ∈ bigL has → k < has.length) ∧ Fits has (bigL has) :=
  dsc_sound has has.length [] _ (Nat.le_refl _) (big_mem has) List.Pairwise.nil (fun k hk => by cases hk) List.Pairwise.nil
/-- One more number has a conflict with some of the longest list. -/
theorem big_max {has : List Nat} {i : Nat} (hi : i < has.length) (hn : i ∉ bigL has) : ∃ k, k ∈ bigL has ∧ fitB (vA has k) (vA has i) = false := by
  obtain ⟨h1, h2, h3⟩ := big_sound has
  by_cases q : ∃ k, k ∈ bigL has ∧ fitB (vA has k) (vA has i) = false
  · exact q
  · exfalso
    have hq : ∀ k, k ∈ bigL has → fitB (vA has k) (vA has i) = true := fun k hk => by
      cases hf : fitB (vA has k) (vA has i) with
      | true => rfl
      | false => exact absurd ⟨k, hk, hf⟩ q
    have hfit : ∀ a b, a ∈ bigL has → b ∈ bigL has → fitB (vA has a) (vA has b) = true := by
      intro a b ha hb
      obtain ⟨x, hx, rfl⟩ := List.mem_iff_getElem.1 ha
      obtain ⟨y, hy, rfl⟩ := List.mem_iff_getElem.1 hb
      have hp := List.pairwise_iff_getElem.1 h3
      rcases Nat.lt_trichotomy x y with h | h | h
      · exact hp x y hx hy h
      · subst h; exact fitB_self _
      · rw [fitB_symm]; exact hp y x hy hx h
    have hall := dsc_all has (fun a => decide (a ∈ bigL has) || decide (a = i)) (by
      intro a b ha hb
      simp only [Bool.or_eq_true, decide_eq_true_eq] at ha hb
      rcases ha with ha | rfl
      · rcases hb with hb | rfl
        · exact hfit a b ha hb
        · exact hq a ha
      · rcases hb with hb | rfl
        · rw [fitB_symm]; exact hq b hb
        · exact fitB_self _) has.length [] (Nat.le_refl _) (fun k hk => by cases hk)
    have hge := (fold_ge (dsc has has.length []) []).2 _ hall
    rw [← bigL_dsc, List.nil_append, Nat.sub_self] at hge
    have hm := filter_more (fun a => decide (a ∈ bigL has)) i (by simp [hn]) (List.range' 0 has.length) (by rw [List.mem_range'_1]; omega)
    have hsub : (bigL has).length ≤ ((List.range' 0 has.length).filter fun a => decide (a ∈ bigL has)).length := by
      have hb : bigL has = (List.range' 0 has.length).filter fun a => decide (a ∈ bigL has) := by
        refine sorted_ext (R := fun a b : Nat => a < b) (fun x => Nat.lt_irrefl x) (fun x y h1 h2 => by omega) h1 ?_ fun x => ?_
        · exact List.Pairwise.filter _ List.pairwise_lt_range'
        · rw [List.mem_filter, List.mem_range'_1]
          constructor
          · intro hx; exact ⟨by have := h2 x hx; omega, by simp [hx]⟩
          · rintro ⟨_, hx⟩; simpa using hx
      rw [← hb]; exact Nat.le_refl _
    omega
/-- No conflict: all fit. -/
theorem conf_fits {l : List Nat} (h : confE l = none) {i j : Nat} (hij : i < j) (hj : j < l.length) : fitB (vA l i) (vA l j) = true := by
  cases hf : fitB (vA l i) (vA l j) with
  | true => rfl
  | false =>
    exfalso
    have hr : ∀ k, (∃ m, m < l.length ∧ cfR l k m = true) → ((List.range l.length).find? (cfR l k)).isSome = true := fun k ⟨m, hm, hc⟩ => by
      rw [List.find?_isSome]
      exact ⟨m, List.mem_range.2 hm, hc⟩
    have h1 : cfRow l i = true := by
      unfold cfRow
      rw [List.any_eq_true]
      exact ⟨j, List.mem_range.2 hj, by unfold cfR; rw [hf]; simp [hij]⟩
    have h2 : ((List.range l.length).find? (cfRow l)).isSome = true := by
      rw [List.find?_isSome]
      exact ⟨i, List.mem_range.2 (by omega), h1⟩
    obtain ⟨k, hk⟩ := Option.isSome_iff_exists.1 h2
    have h3 := List.find?_some hk
    unfold cfRow at h3
    rw [List.any_eq_true] at h3
    obtain ⟨m, hm, hc⟩ := h3
    obtain ⟨q, hq⟩ := Option.isSome_iff_exists.1 (hr k ⟨m, List.mem_range.1 hm, hc⟩)
    unfold confE at h
    rw [hk] at h
    simp only [Option.bind_some] at h
    rw [hq] at h
    cases h
def someL (has : List Nat) : List Nat := (bigL has).map (vA has)
theorem someL_len (has : List Nat) : (someL has).length = (bigL has).length := by simp [someL]
theorem someL_at (has : List Nat) {j : Nat} (h : j < (bigL has).length) : vA (someL has) j = vA has (vA (bigL has) j) := by
  simp [vA, someL, h]
theorem someL_conf (has : List Nat) : confE (someL has) = none := by
  refine conf_no fun i hi => cfRow_no fun j hij hj => ?_
  rw [someL_len] at hi hj
  rw [someL_at has hi, someL_at has hj, vA_get hi, vA_get hj]
  exact List.pairwise_iff_getElem.1 (big_sound has).2.2 i j hi hj hij
theorem moreL_conf {has : List Nat} {i : Nat} (hi : i < has.length) (hn : i ∉ bigL has) : confE (someL has ++ [vA has i]) ≠ none := by
  intro h
  obtain ⟨k, hk, hf⟩ := big_max hi hn
  obtain ⟨x, hx, rfl⟩ := List.mem_iff_getElem.1 hk
  have h1 := conf_fits h (i := x) (j := (bigL has).length) hx (by rw [List.length_append, someL_len]; simp)
  have e1 : vA (someL has ++ [vA has i]) x = vA has (bigL has)[x] := by
    rw [← vA_get hx, ← someL_at has hx]
    simp [vA, List.getElem?_append_left (show x < (someL has).length by rw [someL_len]; exact hx)]
  have e2 : vA (someL has ++ [vA has i]) (bigL has).length = vA has i := by
    simp [vA, List.getElem?_append_right (show (someL has).length ≤ (bigL has).length by rw [someL_len]; exact Nat.le_refl _), someL_len]
  rw [e1, e2, hf] at h1
  cases h1
theorem big_nd {has : List Nat} {j k : Nat} (hj : j < (bigL has).length) (hk : k < j) : vA (bigL has) k < vA (bigL has) j := by
  rw [vA_get (by omega), vA_get hj]
  exact List.pairwise_iff_getElem.1 (big_sound has).1 k j (by omega) hj hk
theorem big_lt {has : List Nat} {j : Nat} (hj : j < (bigL has).length) : vA (bigL has) j < has.length := by
  rw [vA_get hj]; exact (big_sound has).2.1 _ (List.getElem_mem hj)
theorem big_le (has : List Nat) : (bigL has).length ≤ has.length := by
  have h := bigLen (bigL has) has.length (big_sound has).1 (big_sound has).2.1
  exact h
theorem chk_sub {L : Int} {has l : List Nat} (h : chkT L has = 0) (hl : l.length ≤ 64) (hs : ∀ x, x ∈ l → x ∈ has) : chkT L l = 0 := by
  unfold chkT at h ⊢
  by_cases q : L < 0 ∨ 32 < L
  · rw [if_pos q] at h; omega
  · rw [if_neg q] at h ⊢
    by_cases q2 : 64 < has.length
    · rw [if_pos q2] at h; omega
    · rw [if_neg q2] at h
      by_cases q3 : has.any (wide L.toNat) = true
      · rw [if_pos q3] at h; omega
      · rw [if_neg (by omega), if_neg ?_]
        intro h4
        obtain ⟨x, hx, hw⟩ := List.any_eq_true.1 h4
        exact q3 (List.any_eq_true.2 ⟨x, hs x hx, hw⟩)
theorem someL_sub (has : List Nat) : ∀ x, x ∈ someL has → x ∈ has := by
  intro x hx
  obtain ⟨k, hk, rfl⟩ := List.mem_map.1 hx
  have h := (big_sound has).2.1 k hk
  rw [vA_get h]; exact List.getElem_mem h
end Go.Proofs.YtnabbmdhhddfbaaDoor
