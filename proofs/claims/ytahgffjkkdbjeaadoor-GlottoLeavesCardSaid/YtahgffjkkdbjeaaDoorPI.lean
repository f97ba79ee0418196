/- Plain: when languages are joined is as the steps say, and is ultrametric. -/
import Derived.Test.YtahgffjkkdbjeaaDoorPH
namespace Go.Proofs.YtahgffjkkdbjeaaDoor
open Go.RowKit
def ltF (x y : Fr) : Prop := x.1 * y.2 < y.1 * x.2
instance (x y : Fr) : Decidable (ltF x y) := by unfold ltF; infer_instance
theorem ltF_irrefl (x : Fr) : ¬ ltF x x := fun h => Int.lt_irrefl _ h
/-- Each language's cluster is there; a cluster's least language stands for it. -/
structure LsI (n : Nat) (l : List Mg) (k : Nat) : Prop where
  live : ∀ a, a < n → 0 < stS n l k (lsK l k a)
  own : ∀ a, a < n → 0 < stS n l k a → lsK l k a = a
  lt : ∀ a, a < n → lsK l k a < n
theorem StepOk.nat {n k : Nat} {l : List Mg} (h : StepOk n l k) : aN l k < bN l k ∧ bN l k < n ∧ 0 < stS n l k (aN l k) ∧ 0 < stS n l k (bN l k) := by
  obtain ⟨h1, h2, h3, h4, h5, _⟩ := h
  unfold aN bN
  exact ⟨by omega, by omega, Nat.pos_of_ne_zero h4, Nat.pos_of_ne_zero h5⟩
theorem joinS_at {s : Nat → Nat} {A B : Nat} (hAB : A < B) (x : Nat) : joinS s A B x = if x = B then 0 else if x = A then s A + s B else s x := by
  unfold joinS updN
  rfl
theorem lsI {n : Nat} {l : List Mg} : ∀ k, (∀ i, i < k → StepOk n l i) → LsI n l k
  | 0, _ => ⟨fun a ha => by show 0 < aloneS n a; unfold aloneS; rw [if_pos ha]; omega, fun _ _ _ => rfl, fun a ha => ha⟩
  | k + 1, hok => by
    have ih := lsI k (fun i hi => hok i (by omega))
    obtain ⟨p1, p2, p3, p4⟩ := (hok k (by omega)).nat
    have es : ∀ x, stS n l (k + 1) x = if x = bN l k then 0 else if x = aN l k then stS n l k (aN l k) + stS n l k (bN l k) else stS n l k x := fun x => joinS_at p1 x
    have el : ∀ a, lsK l (k + 1) a = if lsK l k a = bN l k then aN l k else lsK l k a := fun a => rfl
    refine ⟨fun a ha => ?_, fun a ha h => ?_, fun a ha => ?_⟩
    · rw [el]
      by_cases e : lsK l k a = bN l k
      · rw [if_pos e, es, if_neg (by omega), if_pos rfl]; omega
      · rw [if_neg e, es, if_neg e]
        split
        · omega
        · exact ih.live a ha
    · rw [es] at h
      split at h
      · omega
      · rename_i e
        have h2 : 0 < stS n l k a := by
          split at h
          · rename_i e2; rw [e2]; exact p3
          · exact h
        rw [el, ih.own a ha h2, if_neg e]
    · rw [el]
      split
      · omega
      · exact ih.lt a ha
/-- Language 0 stands for its cluster at all times. -/
theorem stS_zero {n : Nat} {l : List Mg} (hn : 0 < n) : ∀ k, (∀ i, i < k → StepOk n l i) → 0 < stS n l k 0
  | 0, _ => by show 0 < aloneS n 0; unfold aloneS; rw [if_pos hn]; omega
  | k + 1, hok => by
    have ih := stS_zero hn k (fun i hi => hok i (by omega))
    obtain ⟨p1, p2, p3, p4⟩ := (hok k (by omega)).nat
    show 0 < joinS (stS n l k) (aN l k) (bN l k) 0
    rw [joinS_at p1, if_neg (by omega)]
    split
    · omega
    · exact ih
/-- Languages of one cluster stay together, and so does when they were joined. -/
theorem jn_stay {n : Nat} {l : List Mg} {a b : Nat} {k : Nat} (h : lsK l k a = lsK l k b) : ∀ d, (∀ i, i < k + d → StepOk n l i) → lsK l (k + d) a = lsK l (k + d) b ∧ jnK l (k + d) a b = jnK l k a b
  | 0, _ => ⟨h, rfl⟩
  | d + 1, hok => by
    obtain ⟨i1, i2⟩ := jn_stay h d (fun i hi => hok i (by omega))
    obtain ⟨p1, _⟩ := (hok (k + d) (by omega)).nat
    refine ⟨?_, ?_⟩
    · show (if lsK l (k + d) a = bN l (k + d) then aN l (k + d) else lsK l (k + d) a) = (if lsK l (k + d) b = bN l (k + d) then aN l (k + d) else lsK l (k + d) b)
      rw [i1]
    · show (if JnS l (k + d) a b then jH l (k + d) else jnK l (k + d) a b) = _
      rw [if_neg, i2]
      unfold JnS
      rw [i1]
      omega
theorem jn_pair {n : Nat} {l : List Mg} {K i : Nat} (hok : ∀ i, i < K → StepOk n l i) (hi : i < K) : jnK l K (aN l i) (bN l i) = jH l i := by
  have hI := lsI (n := n) (l := l) i (fun j hj => hok j (by omega))
  obtain ⟨p1, p2, p3, p4⟩ := (hok i hi).nat
  have ea := hI.own _ (show aN l i < n by omega) p3
  have eb := hI.own _ p2 p4
  have h1 : jnK l (i + 1) (aN l i) (bN l i) = jH l i := by
    show (if JnS l i (aN l i) (bN l i) then jH l i else jnK l i (aN l i) (bN l i)) = jH l i
    rw [if_pos (.inl ⟨ea, eb⟩)]
  have h2 : lsK l (i + 1) (aN l i) = lsK l (i + 1) (bN l i) := by
    show (if lsK l i (aN l i) = bN l i then aN l i else lsK l i (aN l i)) = (if lsK l i (bN l i) = bN l i then aN l i else lsK l i (bN l i))
    rw [ea, eb, if_neg (by omega), if_pos rfl]
  obtain ⟨d, rfl⟩ : ∃ d, K = i + 1 + d := ⟨K - (i + 1), by omega⟩
  rw [(jn_stay (n := n) h2 d hok).2, h1]
theorem jn_diag {n : Nat} {l : List Mg} {K a : Nat} (hok : ∀ i, i < K → StepOk n l i) : jnK l K a a = (0, 1) := by
  have h := (jn_stay (n := n) (l := l) (a := a) (b := a) (k := 0) rfl K (by rw [Nat.zero_add]; exact hok)).2
  rw [Nat.zero_add] at h
  exact h
theorem jn_some (l : List Mg) (a b : Nat) : ∀ k, jnK l k a b = (0, 1) ∨ ∃ i, i < k ∧ jnK l k a b = jH l i
  | 0 => .inl rfl
  | k + 1 => by
    by_cases h : JnS l k a b
    · exact .inr ⟨k, by omega, if_pos h⟩
    · have e : jnK l (k + 1) a b = jnK l k a b := if_neg h
      rw [e]
      rcases jn_some l a b k with h1 | ⟨i, h1, h2⟩
      · exact .inl h1
      · exact .inr ⟨i, by omega, h2⟩
/-- Heights that do not fall. -/
structure HiOk (l : List Mg) (K : Nat) : Prop where
  up : ∀ i j, i ≤ j → j < K → ¬ ltF (jH l j) (jH l i)
  pos : ∀ j, j < K → ¬ ltF (jH l j) (0, 1)
theorem jn_ultra {n : Nat} {l : List Mg} {K : Nat} (hok : ∀ i, i < K → StepOk n l i) (hh : HiOk l K) : ∀ k, k ≤ K → ∀ a b c, lsK l k a = lsK l k b → lsK l k a = lsK l k c → ¬ (ltF (jnK l k a c) (jnK l k a b) ∧ ltF (jnK l k b c) (jnK l k a b))
  | 0, _, a, b, c, _, _ => fun h => ltF_irrefl _ h.1
  | k + 1, hk, a, b, c, hab, hac => by
    have ih := jn_ultra hok hh k (by omega)
    obtain ⟨p1, _⟩ := (hok k (by omega)).nat
    have el : ∀ a, lsK l (k + 1) a = if lsK l k a = bN l k then aN l k else lsK l k a := fun a => rfl
    rw [el, el] at hab hac
    have ej : ∀ x y, jnK l (k + 1) x y = if JnS l k x y then jH l k else jnK l k x y := fun x y => rfl
    have hup : ∀ x y, ¬ ltF (jH l k) (jnK l k x y) := fun x y => by
      rcases jn_some l x y k with h1 | ⟨i, h1, h2⟩
      · rw [h1]; exact hh.pos k (by omega)
      · rw [h2]; exact hh.up i k (by omega) (by omega)
    have iab := ih a b c
    rw [ej a b, ej a c, ej b c]
    by_cases jab : JnS l k a b
    · rw [if_pos jab]
      by_cases jac : JnS l k a c
      · rw [if_pos jac]; exact fun h => ltF_irrefl _ h.1
      · have jbc : JnS l k b c := by
          unfold JnS at jab jac ⊢
          rcases jab with ⟨q1, q2⟩ | ⟨q1, q2⟩
          · rw [q1, if_neg (by omega)] at hac
            split at hac <;> omega
          · rw [q2, if_pos rfl] at hac
            split at hac <;> omega
        rw [if_pos jbc]; exact fun h => ltF_irrefl _ h.2
    · rw [if_neg jab]
      have e1 : lsK l k a = lsK l k b := by
        unfold JnS at jab
        split at hab <;> split at hab <;> omega
      by_cases jac : JnS l k a c
      · rw [if_pos jac]; exact fun h => hup _ _ h.1
      · have e2 : lsK l k a = lsK l k c := by
          unfold JnS at jac
          split at hac <;> split at hac <;> omega
        have jbc : ¬ JnS l k b c := by unfold JnS; omega
        rw [if_neg jac, if_neg jbc]
        exact iab e1 e2
/-- Fractions in lowest terms stay. -/
theorem lowF_low {p q : Nat} (hq : 0 < q) : lowF ((lowN ((p : Int), (q : Int)) : Int), (lowD ((p : Int), (q : Int)) : Int)) = ((lowN ((p : Int), (q : Int)) : Int), (lowD ((p : Int), (q : Int)) : Int)) := by
  have g1 : 0 < Nat.gcd p q := Nat.gcd_pos_of_pos_right _ hq
  have h1 : Nat.gcd (p / Nat.gcd p q) (q / Nat.gcd p q) = 1 := by
    rw [Nat.gcd_div (Nat.gcd_dvd_left p q) (Nat.gcd_dvd_right p q), Nat.div_self g1]
  unfold lowF
  simp only [lowN, lowD, Int.toNat_natCast]
  rw [h1, Nat.div_one, Nat.div_one]
/-- Lowest terms against the terms given. -/
theorem low_cross {p q r s : Nat} (hq : 0 < q) (hs : 0 < s) : lowN ((p : Int), (q : Int)) * lowD ((r : Int), (s : Int)) < lowN ((r : Int), (s : Int)) * lowD ((p : Int), (q : Int)) ↔ p * s < r * q := by
  simp only [lowN, lowD, Int.toNat_natCast]
  have g1 : 0 < Nat.gcd p q := Nat.gcd_pos_of_pos_right _ hq
  have g2 : 0 < Nat.gcd r s := Nat.gcd_pos_of_pos_right _ hs
  have e1 := Nat.div_mul_cancel (Nat.gcd_dvd_left p q)
  have e2 := Nat.div_mul_cancel (Nat.gcd_dvd_right p q)
  have e3 := Nat.div_mul_cancel (Nat.gcd_dvd_left r s)
  have e4 := Nat.div_mul_cancel (Nat.gcd_dvd_right r s)
  generalize p / Nat.gcd p q = a at *
  generalize q / Nat.gcd p q = b at *
  generalize r / Nat.gcd r s = x at *
  generalize s / Nat.gcd r s = y at *
  generalize Nat.gcd p q = u at *
  generalize Nat.gcd r s = v at *
  subst e1 e2 e3 e4
  have h1 : a * u * (y * v) = (a * y) * (u * v) := by rw [Nat.mul_mul_mul_comm]
  have h2 : x * v * (b * u) = (x * b) * (u * v) := by rw [Nat.mul_mul_mul_comm, Nat.mul_comm v u]
  rw [h1, h2]
  exact (Nat.mul_lt_mul_right (Nat.mul_pos g1 g2)).symm
section
variable {n c G : Nat} {g : Nat → Nat}
theorem Start.jH (h : Start n c G g) {k : Nat} (hk : k + 1 < n) : Go.Proofs.YtahgffjkkdbjeaaDoor.jH (mRun n c g (n - 1)).l k = ((lowN ((hP n c g k : Int), (hQ n c g k : Int)) : Int), (lowD ((hP n c g k : Int), (hQ n c g k : Int)) : Int)) := by
  obtain ⟨_, _, h3, h4, _⟩ := mRun_at (n := n) (c := c) (g := g) (show k < n - 1 by omega)
  unfold Go.Proofs.YtahgffjkkdbjeaaDoor.jH
  rw [h3, h4]
  exact lowF_low (h.qpos hk)
theorem Start.up (h : Start n c G g) {i : Nat} : ∀ d, i + d + 1 < n → hP n c g i * hQ n c g (i + d) ≤ hP n c g (i + d) * hQ n c g i
  | 0, _ => Nat.le_refl _
  | d + 1, hd => by
    have h1 := h.up d (by omega) (i := i)
    have h2 := h.rise (k := i + d) (by omega)
    exact cross_trans (h.qpos (k := i + d) (by omega)) h1 h2
theorem Start.hiOk (h : Start n c G g) : HiOk (mRun n c g (n - 1)).l (n - 1) := by
  refine ⟨fun i j hij hj hlt => ?_, fun j hj hlt => ?_⟩
  · rw [h.jH (show j + 1 < n by omega), h.jH (show i + 1 < n by omega)] at hlt
    unfold ltF at hlt
    have h1 := h.up (i := i) (j - i) (by omega)
    rw [show i + (j - i) = j by omega] at h1
    have h2 : lowN ((hP n c g j : Int), (hQ n c g j : Int)) * lowD ((hP n c g i : Int), (hQ n c g i : Int)) < lowN ((hP n c g i : Int), (hQ n c g i : Int)) * lowD ((hP n c g j : Int), (hQ n c g j : Int)) := by
      have h3 := hlt
      simp only [← Int.natCast_mul] at h3
      omega
    have h4 := (low_cross (h.qpos (show j + 1 < n by omega)) (h.qpos (show i + 1 < n by omega))).1 h2
    omega
  · rw [h.jH (show j + 1 < n by omega)] at hlt
    unfold ltF at hlt
    simp only [Int.mul_one, Int.zero_mul] at hlt
    omega
/-- All languages are in one cluster at the end. -/
theorem Start.endS (h : Start n c G g) : (mRun n c g (n - 1)).s 0 = n ∧ ∀ x, x ≠ 0 → (mRun n c g (n - 1)).s x = 0 := by
  have hn := h.n1
  have hi := mRun_inv (c := c) h.n24 h.bd (n - 1) (by omega)
  have h0 : 0 < (mRun n c g (n - 1)).s 0 := by
    have := stS_zero (n := n) (l := (mRun n c g (n - 1)).l) (by omega) (n - 1) (fun i hi => h.steps.2 i (by rw [mRun_len]; exact hi))
    rwa [stS_run (n - 1) (Nat.le_refl _)] at this
  have h1 : ∀ x, x ≠ 0 → (mRun n c g (n - 1)).s x = 0 := by
    intro x hx
    by_cases hxn : x < n
    · rcases Nat.eq_zero_or_pos ((mRun n c g (n - 1)).s x) with e | e
      · exact e
      · have h2 := sumN_two (ind (mRun n c g (n - 1)).s) (p := 0) (q := x) (by omega) hxn
        have e1 : ind (mRun n c g (n - 1)).s 0 = 1 := if_pos h0
        have e2 : ind (mRun n c g (n - 1)).s x = 1 := if_pos e
        have := hi.live
        omega
    · exact hi.out x (by omega)
  refine ⟨?_, h1⟩
  have h2 := hi.sum
  have h3 : ∀ m, 0 < m → sumN (mRun n c g (n - 1)).s m = (mRun n c g (n - 1)).s 0 := by
    intro m
    induction m with
    | zero => intro h; omega
    | succ m ih =>
      intro _
      rw [sumN]
      by_cases e : m = 0
      · subst e; rw [sumN]; omega
      · rw [ih (by omega), h1 m e]; omega
  rw [← h3 n (by omega)]; exact h2
theorem Start.one (h : Start n c G g) {a : Nat} (ha : a < n) : lsK (mRun n c g (n - 1)).l (n - 1) a = 0 := by
  have hI := lsI (n := n) (l := (mRun n c g (n - 1)).l) (n - 1) (fun i hi => h.steps.2 i (by rw [mRun_len]; exact hi))
  have h1 := hI.live a ha
  rw [stS_run (n - 1) (Nat.le_refl _)] at h1
  rcases Nat.eq_zero_or_pos (lsK (mRun n c g (n - 1)).l (n - 1) a) with e | e
  · exact e
  · rw [h.endS.2 _ (by omega)] at h1; omega
/-- When two languages are joined, as one table. -/
def jR (n c : Nat) (g : Nat → Nat) (a b : Nat) : Fr := jnK (mRun n c g (n - 1)).l (n - 1) a b
theorem Start.oks (h : Start n c G g) : ∀ i, i < n - 1 → StepOk n (mRun n c g (n - 1)).l i := fun i hi => h.steps.2 i (by rw [mRun_len]; exact hi)
theorem Start.ultra (h : Start n c G g) {a b x : Nat} (ha : a < n) (hb : b < n) (hx : x < n) : ¬ (ltF (jR n c g a x) (jR n c g a b) ∧ ltF (jR n c g b x) (jR n c g a b)) :=
  jn_ultra h.oks h.hiOk (n - 1) (Nat.le_refl _) a b x (by rw [h.one ha, h.one hb]) (by rw [h.one ha, h.one hx])
theorem Start.jdiag (h : Start n c G g) (a : Nat) : jR n c g a a = (0, 1) := jn_diag h.oks
theorem jR_comm (a b : Nat) : jR n c g a b = jR n c g b a := jnK_comm _ _ _ _
theorem Start.jpair (h : Start n c G g) {k : Nat} (hk : k + 1 < n) : jR n c g (mA' n c g k) (mB' n c g k) = ((lowN ((hP n c g k : Int), (hQ n c g k : Int)) : Int), (lowD ((hP n c g k : Int), (hQ n c g k : Int)) : Int)) := by
  have h1 := jn_pair h.oks (show k < n - 1 by omega)
  obtain ⟨e1, e2, _⟩ := mRun_at (n := n) (c := c) (g := g) (show k < n - 1 by omega)
  unfold aN bN at h1
  rw [e1, e2, Int.toNat_natCast, Int.toNat_natCast, h.jH hk] at h1
  exact h1
/-- The numbers of the joined table are small. -/
theorem Start.jbd (h : Start n c G g) (a b : Nat) : ∃ p q : Nat, jR n c g a b = ((p : Int), (q : Int)) ∧ p ≤ G * 576 ∧ 1 ≤ q ∧ q ≤ 576 * c := by
  rcases jn_some (mRun n c g (n - 1)).l a b (n - 1) with e | ⟨i, hi, e⟩
  · have := h.c1
    exact ⟨0, 1, e, by omega, by omega, by omega⟩
  · have e2 : jR n c g a b = _ := e
    rw [h.jH (show i + 1 < n by omega)] at e2
    have hl := low_bd (hP n c g i) (hQ n c g i) (h.qpos (by omega))
    have hb := h.hbd (k := i) (by omega)
    exact ⟨_, _, e2, by omega, by omega, by omega⟩
end
end Go.Proofs.YtahgffjkkdbjeaaDoor
