/- Plain: the distances that the statements make of a list of numbers. Plain: distances with one small denominator are taken; how they compare. far: the distances that the statements make. less, equal: two fractions compared. -/
import Derived.Test.YtahgffjkkdbjeaaDoorP7
import Derived.Test.YtahgffjkkdbjeaaDoorP1
import Derived.Test.YtahgffjkkdbjeaaDoorWJ
import Derived.Test.YtahgffjkkdbjeaaDoorL1
import Derived.Test.YtahgffjkkdbjeaaDoorRows
import Derived.RegionTactic
import Derived.BigRegion
import Derived.Deep.QuietTactic
import Derived.BigQuiet
namespace Go.Proofs.YtahgffjkkdbjeaaDoor
open Go.RowKit
def uA (l : List Int) (i : Nat) : Int := l.getD i 0
def encU (x : Int) : List Value := [.int .u16 x]
theorem encU_len (x : Int) : (encU x).length = 1 := rfl
theorem rdU {l : List Int} {w : World} {a : Option Addr} (h : Rd w a (fl encU l)) (h0 : 0 < l.length) : ∃ b off, a = some ⟨b, off, none⟩ ∧ b < w.heap.size ∧ ∀ i, i < l.length → w.cell? ⟨b, off + i, none⟩ = some (.int .u16 (uA l i)) := by
  obtain ⟨b, off, e, hb, hc⟩ := rd_elem encU_len h (by omega) h0
  refine ⟨b, off, e, hb, fun i hi => ?_⟩
  have := hc i hi 0 (by omega); simpa [encU, uA, hi, ← Nat.add_assoc] using this
/-- How many pairs stand before row a. -/
def tri : Nat → Nat
  | 0 => 0
  | a + 1 => tri a + a
theorem tri_le : ∀ a, tri a ≤ a * a
  | 0 => Nat.le_refl _
  | a + 1 => by
    have := tri_le a
    rw [tri, Nat.succ_mul, Nat.mul_succ]
    omega
/-- The number of languages a and b < a. -/
def farV (l : List Int) (a b : Nat) : Int := if l.length = 0 then ((a + b : Nat) : Int) else uA l ((tri a + b) % l.length)
def farX (l : List Int) (u : Int) (a b : Nat) : Fr := (farV l a b, 1 + u % 16)
/-- What is laid when the rows before a, and b of row a, are done. -/
def farF (l : List Int) (u : Int) (n a b p : Nat) : Fr :=
  if p % n < p / n ∧ (p / n < a ∨ (p / n = a ∧ p % n < b)) then farX l u (p / n) (p % n)
  else if p / n < p % n ∧ (p % n < a ∨ (p % n = a ∧ p / n < b)) then farX l u (p % n) (p / n) else (0, 1)
theorem farF_zero (l : List Int) (u : Int) (n p : Nat) : farF l u n 0 0 p = (0, 1) := by
  unfold farF
  generalize p / n = i
  generalize p % n = j
  rw [if_neg (by omega), if_neg (by omega)]
theorem farF_row (l : List Int) (u : Int) (n a p : Nat) : farF l u n a a p = farF l u n (a + 1) 0 p := by
  unfold farF
  generalize p / n = i
  generalize p % n = j
  by_cases h1 : j < i ∧ (i < a ∨ (i = a ∧ j < a))
  · rw [if_pos h1, if_pos (by omega)]
  · rw [if_neg h1, if_neg (c := j < i ∧ _) (by omega)]
    by_cases h2 : i < j ∧ (j < a ∨ (j = a ∧ i < a))
    · rw [if_pos h2, if_pos (by omega)]
    · rw [if_neg h2, if_neg (by omega)]
theorem farF_next (l : List Int) (u : Int) {n a b : Nat} (ha : a < n) (hb : b < a) (k : Nat) : updF (updF (farF l u n a b) (a * n + b) (farX l u a b)) (b * n + a) (farX l u a b) k = farF l u n a (b + 1) k := by
  have d1 : (a * n + b) / n = a := by rw [Nat.mul_comm, Nat.mul_add_div (by omega), Nat.div_eq_of_lt (by omega), Nat.add_zero]
  have d2 : (a * n + b) % n = b := by rw [Nat.mul_comm, Nat.mul_add_mod, Nat.mod_eq_of_lt (by omega)]
  have d3 : (b * n + a) / n = b := by rw [Nat.mul_comm, Nat.mul_add_div (by omega), Nat.div_eq_of_lt (by omega), Nat.add_zero]
  have d4 : (b * n + a) % n = a := by rw [Nat.mul_comm, Nat.mul_add_mod, Nat.mod_eq_of_lt (by omega)]
  unfold updF
  by_cases e1 : k = b * n + a
  · subst e1
    rw [if_pos rfl, farF, d3, d4, if_neg (by omega), if_pos (by omega)]
  · rw [if_neg e1]
    by_cases e2 : k = a * n + b
    · subst e2
      rw [if_pos rfl, farF, d1, d2, if_pos (by omega)]
    · rw [if_neg e2]
      have e3 : ¬ (k / n = a ∧ k % n = b) := fun ⟨h1, h2⟩ => e2 (by rw [← h1, ← h2, Nat.mul_comm]; exact (Nat.div_add_mod k n).symm)
      have e4 : ¬ (k / n = b ∧ k % n = a) := fun ⟨h1, h2⟩ => e1 (by rw [← h1, ← h2, Nat.mul_comm]; exact (Nat.div_add_mod k n).symm)
      unfold farF
      generalize k / n = i at *
      generalize k % n = j at *
      by_cases h1 : j < i ∧ (i < a ∨ (i = a ∧ j < b))
      · rw [if_pos h1, if_pos (by omega)]
      · rw [if_neg h1, if_neg (c := j < i ∧ _) (by omega)]
        by_cases h2 : i < j ∧ (j < a ∨ (j = a ∧ i < b))
        · rw [if_pos h2, if_pos (by omega)]
        · rw [if_neg h2, if_neg (by omega)]
/-- The distance of any two languages. -/
def farD (l : List Int) (u : Int) (a b : Nat) : Fr := if b < a then farX l u a b else if a < b then farX l u b a else (0, 1)
theorem farF_all (l : List Int) (u : Int) (n p : Nat) (hp : p < n * n) : farF l u n n 0 p = farD l u (p / n) (p % n) := by
  have hn : 0 < n := by
    rcases Nat.eq_zero_or_pos n with h | h
    · subst h; simp at hp
    · exact h
  have h1 : p / n < n := (Nat.div_lt_iff_lt_mul hn).2 hp
  have h2 : p % n < n := Nat.mod_lt _ hn
  unfold farF farD
  generalize p / n = i at *
  generalize p % n = j at *
  by_cases e1 : j < i
  · rw [if_pos ⟨e1, .inl h1⟩, if_pos e1]
  · rw [if_neg (fun h => e1 h.1), if_neg e1]
    by_cases e2 : i < j
    · rw [if_pos ⟨e2, .inl h2⟩, if_pos e2]
    · rw [if_neg (fun h => e2 h.1), if_neg e2]
/-- The distances. -/
def farL (l : List Int) (u : Int) (n : Nat) : List Fr := (List.range (n * n)).map fun p => farD l u (p / n) (p % n)
theorem farL_len (l : List Int) (u : Int) (n : Nat) : (farL l u n).length = n * n := by simp [farL]
theorem farL_get (l : List Int) (u : Int) (n p : Nat) (hp : p < n * n) : fN (farL l u n) p = (farD l u (p / n) (p % n)).1 ∧ fD (farL l u n) p = (farD l u (p / n) (p % n)).2 := by
  simp [fN, fD, farL, hp]
end Go.Proofs.YtahgffjkkdbjeaaDoor
namespace Go.Proofs.YtahgffjkkdbjeaaDoor
open Go.RowKit
/-- Distances of n languages with numerators up to m over q (or 1). -/
structure GoodD (d : List Fr) (n q m : Nat) : Prop where
  len : d.length = n * n
  one : 1 ≤ n ∧ n ≤ 24 ∧ 1 ≤ q ∧ q ≤ 16 ∧ m ≤ 16777216
  num : ∀ i, i < n * n → 0 ≤ fN d i ∧ fN d i ≤ m
  den : ∀ i, i < n * n → fD d i = q ∨ fD d i = 1
  sym : ∀ a b, a < n → b < n → fN d (a * n + b) = fN d (b * n + a) ∧ fD d (a * n + b) = fD d (b * n + a)
  diag : ∀ a, a < n → fN d (a * n + a) = 0
theorem fr_getD (d : List Fr) (i : Nat) : d.getD i (0, 1) = (fN d i, fD d i) := rfl
theorem idxLt {n a b : Nat} (ha : a < n) (hb : b < n) : a * n + b < n * n := by
  have : (a + 1) * n ≤ n * n := Nat.mul_le_mul_right _ ha
  rw [Nat.succ_mul] at this
  omega
theorem GoodD.fit {d : List Fr} {n q m : Nat} (h : GoodD d n q m) : FitFr d := fun i hi => by
  rw [h.len] at hi
  have h1 := h.num i hi
  have h2 := h.one
  rcases h.den i hi with e | e <;> omega
theorem GoodD.qD {d : List Fr} {n q m : Nat} (h : GoodD d n q m) {i : Nat} (hi : i < n * n) : qD d i ∣ q ∧ 0 < qD d i ∧ qN d i ≤ m ∧ ∃ g : Nat, 0 < g ∧ (fN d i).toNat = qN d i * g ∧ (fD d i).toNat = qD d i * g := by
  have h1 := h.num i hi
  have h2 := h.one
  have hD : 0 < (fD d i).toNat := by rcases h.den i hi with e | e <;> omega
  have hg : 0 < Nat.gcd (fN d i).toNat (fD d i).toNat := Nat.gcd_pos_of_pos_right _ hD
  have e1 : qN d i = (fN d i).toNat / Nat.gcd (fN d i).toNat (fD d i).toNat := rfl
  have e2 : Go.Proofs.YtahgffjkkdbjeaaDoor.qD d i = (fD d i).toNat / Nat.gcd (fN d i).toNat (fD d i).toNat := rfl
  have d1 : Nat.gcd (fN d i).toNat (fD d i).toNat ∣ (fN d i).toNat := Nat.gcd_dvd_left _ _
  have d2 : Nat.gcd (fN d i).toNat (fD d i).toNat ∣ (fD d i).toNat := Nat.gcd_dvd_right _ _
  refine ⟨?_, ?_, ?_, Nat.gcd (fN d i).toNat (fD d i).toNat, hg, ?_, ?_⟩
  · have h3 : Go.Proofs.YtahgffjkkdbjeaaDoor.qD d i ∣ (fD d i).toNat := by rw [e2]; exact Nat.div_dvd_of_dvd d2
    have h4 : (fD d i).toNat ∣ q := by
      rcases h.den i hi with e | e
      · rw [e]; simp
      · rw [e]; simp
    exact Nat.dvd_trans h3 h4
  · rw [e2]; exact Nat.div_pos (Nat.le_of_dvd hD d2) hg
  · rw [e1]; exact Nat.le_trans (Nat.div_le_self _ _) (by omega)
  · rw [e1, Nat.div_mul_cancel d1]
  · rw [e2, Nat.div_mul_cancel d2]
theorem lcm_step {c x q : Nat} (hc : c ∣ q) (hx : x ∣ q) : c * (x / Nat.gcd c x) ∣ q := by
  have e : c * (x / Nat.gcd c x) = Nat.lcm c x := by
    unfold Nat.lcm
    rw [Nat.mul_div_assoc _ (Nat.gcd_dvd_right c x)]
  rw [e]
  exact Nat.lcm_dvd hc hx
theorem GoodD.cm {d : List Fr} {n q m : Nat} (h : GoodD d n q m) : ∀ k, k ≤ n * n → ∃ c, cmA d k = some c ∧ c ∣ q ∧ 0 < c
  | 0, _ => ⟨1, rfl, Nat.one_dvd _, by omega⟩
  | k + 1, hk => by
    obtain ⟨c, h1, h2, h3⟩ := h.cm k (by omega)
    obtain ⟨a1, a2, _⟩ := h.qD (i := k) (by omega)
    have hq := h.one
    have l1 := Nat.le_of_dvd (by omega) a1
    have hd := lcm_step h2 a1
    have l2 := Nat.le_of_dvd (by omega) hd
    have e : cmStep c (Go.Proofs.YtahgffjkkdbjeaaDoor.qD d k) = some (c * (Go.Proofs.YtahgffjkkdbjeaaDoor.qD d k / Nat.gcd c (Go.Proofs.YtahgffjkkdbjeaaDoor.qD d k))) := by
      unfold cmStep
      rw [if_neg (by omega), if_neg (by omega)]
    exact ⟨_, by rw [cmA, h1]; exact e, hd, cmStep_pos e h3 a2⟩
/-- They are taken, and each is its fraction of the common denominator. -/
theorem GoodD.ok {d : List Fr} {n q m : Nat} (h : GoodD d n q m) : ∃ c, scaledS n d = .ok c ∧ 0 < c ∧ c ≤ 16 ∧ ∀ i, i < n * n → scK d c i * (fD d i).toNat = (fN d i).toNat * c := by
  have hq := h.one
  obtain ⟨c, h1, h2, h3⟩ := h.cm (n * n) (Nat.le_refl _)
  have lc := Nat.le_of_dvd (by omega) h2
  have hbad : d.any badFr = false := by
    rw [List.any_eq_false]
    intro x hx
    obtain ⟨i, hi, rfl⟩ := List.getElem_of_mem hx
    have hi2 : i < n * n := by rw [← h.len]; exact hi
    have e1 : fN d i = d[i].1 := by simp [fN, hi]
    have e2 : fD d i = d[i].2 := by simp [fD, hi]
    have n1 := h.num i hi2
    have n2 := h.den i hi2
    unfold badFr
    rw [← e1, ← e2]
    simp
    omega
  have hdv : ∀ k i, i < k → k ≤ n * n → ∀ c, cmA d k = some c → Go.Proofs.YtahgffjkkdbjeaaDoor.qD d i ∣ c := by
    intro k i hik hk c hc
    exact ((cmA_some (d := d) (fun j hj => (h.qD (by rw [← h.len]; exact hj)).2.1) (by rw [h.len]; exact hk) hc).2.2 i hik).1
  have hsym : SymOk d n := by
    intro a ha b hb
    obtain ⟨s1, s2⟩ := h.sym a b ha (by omega)
    have e : d.getD (a * n + b) (0, 1) = d.getD (b * n + a) (0, 1) := by rw [fr_getD, fr_getD, s1, s2]
    refine ⟨⟨by unfold qN; rw [e], by unfold Go.Proofs.YtahgffjkkdbjeaaDoor.qD; rw [e]⟩, fun e2 => ?_⟩
    subst e2
    have hN0 := h.diag a ha
    unfold qN lowN
    rw [fr_getD]
    simp [hN0]
  have hover : ¬ OverAny d c := by
    rintro ⟨k, hk, ho⟩
    rw [h.len] at hk
    obtain ⟨a1, a2, a3, _⟩ := h.qD hk
    have hl : c / Go.Proofs.YtahgffjkkdbjeaaDoor.qD d k ≤ 16 := Nat.le_trans (Nat.div_le_self _ _) (by omega)
    have hp : 0 < c / Go.Proofs.YtahgffjkkdbjeaaDoor.qD d k := Nat.div_pos (Nat.le_of_dvd h3 (hdv _ k hk (Nat.le_refl _) c h1)) a2
    unfold overK at ho
    simp only [decide_eq_true_eq] at ho
    have : 1073741824 / 16 ≤ 1073741824 / (c / Go.Proofs.YtahgffjkkdbjeaaDoor.qD d k) := Nat.div_le_div_left hl hp
    omega
  refine ⟨c, ?_, h3, by omega, fun i hi => ?_⟩
  · rw [scaledS, if_neg (by omega), if_neg (fun h4 => ?_), if_neg (fun h4 => h4 (by simpa using hsym)), h.len, h1]
    · exact if_neg hover
    · rcases h4 with h4 | h4
      · exact h4 (by rw [h.len]; simp)
      · rw [hbad] at h4; cases h4
  · obtain ⟨a1, a2, a3, g, hg, g1, g2⟩ := h.qD hi
    have hd := hdv _ i hi (Nat.le_refl _) c h1
    rw [g1, g2, scK]
    have e := Nat.div_mul_cancel hd
    calc qN d i * (c / Go.Proofs.YtahgffjkkdbjeaaDoor.qD d i) * (Go.Proofs.YtahgffjkkdbjeaaDoor.qD d i * g)
        = qN d i * (c / Go.Proofs.YtahgffjkkdbjeaaDoor.qD d i * Go.Proofs.YtahgffjkkdbjeaaDoor.qD d i) * g := by simp only [Nat.mul_assoc]
      _ = qN d i * g * c := by rw [e]; simp only [Nat.mul_assoc, Nat.mul_comm c g]
/-- Two of them compare as their scaled numbers do. -/
theorem frac_lt {n1 d1 n2 d2 s1 s2 c : Nat} (hc : 0 < c) (h1 : 0 < d1) (h2 : 0 < d2) (e1 : s1 * d1 = n1 * c) (e2 : s2 * d2 = n2 * c) : n1 * d2 < n2 * d1 ↔ s1 < s2 := by
  have k1 : n1 * d2 * c = s1 * (d1 * d2) := by rw [← Nat.mul_assoc, e1, Nat.mul_assoc, Nat.mul_assoc, Nat.mul_comm d2 c]
  have k2 : n2 * d1 * c = s2 * (d1 * d2) := by rw [Nat.mul_comm d1 d2, ← Nat.mul_assoc, e2, Nat.mul_assoc, Nat.mul_assoc, Nat.mul_comm d1 c]
  have hp : 0 < d1 * d2 := Nat.mul_pos h1 h2
  constructor
  · intro h
    have : n1 * d2 * c < n2 * d1 * c := Nat.mul_lt_mul_of_pos_right h hc
    rw [k1, k2] at this
    exact Nat.lt_of_mul_lt_mul_right this
  · intro h
    have : s1 * (d1 * d2) < s2 * (d1 * d2) := Nat.mul_lt_mul_of_pos_right h hp
    rw [← k1, ← k2] at this
    exact Nat.lt_of_mul_lt_mul_right this
theorem frac_eq {n1 d1 n2 d2 s1 s2 c : Nat} (hc : 0 < c) (h1 : 0 < d1) (h2 : 0 < d2) (e1 : s1 * d1 = n1 * c) (e2 : s2 * d2 = n2 * c) : n1 * d2 = n2 * d1 ↔ s1 = s2 := by
  have a := frac_lt hc h1 h2 e1 e2
  have b := frac_lt hc h2 h1 e2 e1
  constructor
  · intro h
    have a2 : ¬ s1 < s2 := fun h3 => by have := a.2 h3; omega
    have b2 : ¬ s2 < s1 := fun h3 => by have := b.2 h3; omega
    omega
  · intro h
    have a2 : ¬ n1 * d2 < n2 * d1 := fun h3 => by have := a.1 h3; omega
    have b2 : ¬ n2 * d1 < n1 * d2 := fun h3 => by have := b.1 h3; omega
    omega
theorem farV_bd {l : List Int} (hb : ∀ i, i < l.length → 0 ≤ uA l i ∧ uA l i ≤ 65535) {n a b : Nat} (ha : a < n) (hn : n ≤ 24) (hba : b < a) : 0 ≤ farV l a b ∧ farV l a b ≤ 65535 := by
  unfold farV
  split
  · omega
  · exact hb _ (Nat.mod_lt _ (by omega))
theorem farD_bd {l : List Int} (hb : ∀ i, i < l.length → 0 ≤ uA l i ∧ uA l i ≤ 65535) {u : Int} {n a b : Nat} (ha : a < n) (hb2 : b < n) (hn : n ≤ 24) : 0 ≤ (farD l u a b).1 ∧ (farD l u a b).1 ≤ 65535 ∧ ((farD l u a b).2 = 1 + u % 16 ∨ (farD l u a b).2 = 1) := by
  unfold farD farX
  split
  · rename_i h
    have := farV_bd hb ha hn h
    exact ⟨this.1, this.2, .inl rfl⟩
  · split
    · rename_i h
      have := farV_bd hb hb2 hn h
      exact ⟨this.1, this.2, .inl rfl⟩
    · exact ⟨by simp, by simp, .inr rfl⟩
theorem farD_sym (l : List Int) (u : Int) (a b : Nat) : farD l u a b = farD l u b a := by
  unfold farD
  by_cases h1 : b < a
  · rw [if_pos h1, if_neg (by omega), if_pos h1]
  · by_cases h2 : a < b
    · rw [if_neg h1, if_pos h2, if_pos h2]
    · rw [if_neg h1, if_neg h2, if_neg h2, if_neg h1]
theorem farD_at {l : List Int} {u : Int} {n a b : Nat} (ha : a < n) (hb : b < n) : fN (farL l u n) (a * n + b) = (farD l u a b).1 ∧ fD (farL l u n) (a * n + b) = (farD l u a b).2 := by
  have h := farL_get l u n (a * n + b) (idxLt ha hb)
  have d1 : (a * n + b) / n = a := by rw [Nat.mul_comm, Nat.mul_add_div (by omega), Nat.div_eq_of_lt (by omega), Nat.add_zero]
  have d2 : (a * n + b) % n = b := by rw [Nat.mul_comm, Nat.mul_add_mod, Nat.mod_eq_of_lt (by omega)]
  rwa [d1, d2] at h
/-- The statements' distances are good ones. -/
theorem far_good {l : List Int} (hb : ∀ i, i < l.length → 0 ≤ uA l i ∧ uA l i ≤ 65535) {u : Int} (hu : 0 ≤ u) {n : Nat} (h1 : 1 ≤ n) (h2 : n ≤ 24) : GoodD (farL l u n) n (1 + u % 16).toNat 65535 := by
  have hu2 : 0 ≤ u % 16 ∧ u % 16 < 16 := by omega
  have key : ∀ i, i < n * n → i / n < n ∧ i % n < n := fun i hi => ⟨(Nat.div_lt_iff_lt_mul (by omega)).2 hi, Nat.mod_lt _ (by omega)⟩
  refine ⟨farL_len l u n, by omega, fun i hi => ?_, fun i hi => ?_, fun a b ha hb2 => ?_, fun a ha => ?_⟩
  · obtain ⟨k1, k2⟩ := key i hi
    have := farD_bd hb (u := u) k1 k2 h2
    rw [(farL_get l u n i hi).1]
    exact ⟨this.1, by have := this.2.1; omega⟩
  · obtain ⟨k1, k2⟩ := key i hi
    have := farD_bd hb (u := u) k1 k2 h2
    rw [(farL_get l u n i hi).2]
    rcases this.2.2 with e | e
    · left; rw [e]; omega
    · right; exact e
  · obtain ⟨e1, e2⟩ := farD_at (l := l) (u := u) ha hb2
    obtain ⟨e3, e4⟩ := farD_at (l := l) (u := u) hb2 ha
    rw [e1, e2, e3, e4, farD_sym l u a b]
    exact ⟨rfl, rfl⟩
  · rw [(farD_at (l := l) (u := u) ha ha).1]
    unfold farD
    rw [if_neg (by omega), if_neg (by omega)]
end Go.Proofs.YtahgffjkkdbjeaaDoor
namespace Go.Proofs.YtahgffjkkdbjeaaDoor
open Go.RowKit
theorem keep_far {W : World} {b i : Nat} {v : Value} (h : W.cell? ⟨b, i, none⟩ = some v) (o : Obj) : (W.alloc o).cell? ⟨b, i, none⟩ = some v :=
  (World.cell?_alloc_lt W o _ (World.block_lt_of_cell? W _ h)).trans h
def zeroF (i p : Nat) : Fr := if p < i then (0, 1) else (0, 0)
theorem zeroF_start (M : Nat) : (List.range M).map (zeroF 0) = List.replicate M (0, 0) := by
  rw [List.eq_replicate_iff]
  refine ⟨by simp, fun x hx => ?_⟩
  obtain ⟨k, _, rfl⟩ := List.mem_map.1 hx
  exact if_neg (by omega)
theorem zero_set {w w0 : World} {g M i : Nat} (hf : FF w w0.heap.size g M M (zeroF i)) (hg : w0.heap.size ≤ g) (hb : Below w0.heap.size w0 w) :
    FF ((w.setCell ⟨g, i * 2, none⟩ (.int .i64 0)).setCell ⟨g, i * 2 + 1, none⟩ (.int .i64 1)) w0.heap.size g M M (zeroF (i + 1)) ∧ Below w0.heap.size w0 ((w.setCell ⟨g, i * 2, none⟩ (.int .i64 0)).setCell ⟨g, i * 2 + 1, none⟩ (.int .i64 1)) := by
  refine ⟨(FF.set hf i 0 1).congr fun p _ => ?_, bl_set (bl_set hb _ _ _ _ hg) _ _ _ _ hg⟩
  unfold updF zeroF
  by_cases e : p = i
  · rw [if_pos e, if_pos (by omega)]
  · rw [if_neg e]
    by_cases h : p < i
    · rw [if_pos h, if_pos (by omega)]
    · rw [if_neg h, if_neg (by omega)]
theorem far_set {w w0 : World} {g M n a c k1 k2 : Nat} {p q : Int} {l : List Int} {u : Int} (h1 : a * n + c = k1) (h2 : c * n + a = k2) (hF : farX l u a c = (p, q)) (ha : a < n) (hc : c < a) (hf : FF w w0.heap.size g M M (farF l u n a c)) (hg : w0.heap.size ≤ g) (hb : Below w0.heap.size w0 w) :
    FF (((((w.setCell ⟨g, k1 * 2, none⟩ (.int .i64 p)).setCell ⟨g, k1 * 2 + 1, none⟩ (.int .i64 q)).setCell ⟨g, k2 * 2, none⟩ (.int .i64 p)).setCell ⟨g, k2 * 2 + 1, none⟩ (.int .i64 q)).drew) w0.heap.size g M M (farF l u n a (c + 1)) ∧
      Below w0.heap.size w0 (((((w.setCell ⟨g, k1 * 2, none⟩ (.int .i64 p)).setCell ⟨g, k1 * 2 + 1, none⟩ (.int .i64 q)).setCell ⟨g, k2 * 2, none⟩ (.int .i64 p)).setCell ⟨g, k2 * 2 + 1, none⟩ (.int .i64 q)).drew) := by
  have h := FF.set (FF.set hf k1 p q) k2 p q
  refine ⟨FF.drewN (h.congr fun x _ => ?_) 1, bl_drewN (bl_set (bl_set (bl_set (bl_set hb _ _ _ _ hg) _ _ _ _ hg) _ _ _ _ hg) _ _ _ _ hg) 1⟩
  rw [← hF, ← h1, ← h2]
  exact farF_next l u ha hc x
theorem idx_far {n N a b : Nat} (hN : n * n = N) (ha : a < n) (hb : b < n) : ∃ m1 m2 k1 k2 : Nat, a * n = m1 ∧ b * n = m2 ∧ m1 + b = k1 ∧ m2 + a = k2 ∧ k1 < N ∧ k2 < N := by
  refine ⟨_, _, _, _, rfl, rfl, rfl, rfl, ?_, ?_⟩
  · have : (a + 1) * n ≤ n * n := Nat.mul_le_mul_right _ ha
    rw [Nat.succ_mul] at this
    omega
  · have : (b + 1) * n ≤ n * n := Nat.mul_le_mul_right _ hb
    rw [Nat.succ_mul] at this
    omega
set_option maxRecDepth 100000 in
set_option maxHeartbeats 4000000 in
theorem far_any (n N c : Nat) (la : Option Addr) (l : List Int) (u : Int) (w : World) (hn1 : 1 ≤ n) (hn : n ≤ 30) (hl : l.length = N) (hN : N ≤ 9223372036854775807) (hu0 : 0 ≤ u) (hu1 : u ≤ 255) (hA : Rd w la (fl encU l)) (hb : ∀ i, i < N → 0 ≤ uA l i ∧ uA l i ≤ 65535) :
    Calls Tryd.prog 22 #[.int .i64 n, .slice la N c, .int .u8 u] w fun e w' => ∃ g, e = .returned (.slice (some ⟨g, 0, none⟩) (n * n) (n * n)) ∧ w.heap.size ≤ g ∧ FF w' w.heap.size g (n * n) (n * n) (fun p => farD l u (p / n) (p % n)) ∧ Below w.heap.size w w' := by
  have HH := Lib.hid (And.intro hl (And.intro hA hb))
  clear hl hA hb
  obtain ⟨M, hM⟩ : ∃ M, n * n = M := ⟨_, rfl⟩
  have hM2 : M ≤ 900 := by rw [← hM]; exact Nat.mul_le_mul hn hn
  have wM := wrap_nat ((n : Int) * (n : Int)) M (by rw [← hM]; simp) (by omega)
  rw [hM]
  have HMM := Lib.hid hM
  clear hM
  obtain ⟨i0, hi, hz0, hz1, hz2⟩ := info_parts info40
  have hmk := run_make (P := Tryd.prog) w 22 40 i0 _ Tryd.underlying22 hi hz0 .i64 .i64 (M : Int) (M : Int) (by omega) (by omega) (by rw [hz2]; omega) (by omega)
  rw [hz1] at hmk
  simp only [Int.toNat_natCast] at hmk
  have hown0 : FF (w.alloc (.cells (madeCells #[Value.int .i64 0, Value.int .i64 0] (M * 2)) 40)) w.heap.size w.heap.size M M (zeroF 0) := by
    have := owns_made (w := w) (base := w.heap.size) (e := 40) (k := 2) (n := M) (cs := madeCells (encFr (0, 0)).toArray (M * 2)) (Nat.le_refl _) (size_madeCells _ _) (by unfold maxLen; omega)
    rw [made_cells encFr 2 encFr_len (by omega)] at this
    unfold FF
    rw [zeroF_start]
    exact this
  have hbl0 := bl_alloc (Below.refl _ w) (.cells (madeCells #[Value.int .i64 0, Value.int .i64 0] (M * 2)) 40)
  obtain ⟨g, hg⟩ : ∃ g, g = w.heap.size := ⟨_, rfl⟩
  have hgw : w.heap.size ≤ g := by rw [hg]; exact Nat.le_refl _
  go_enter Tryd.func22, Tryd.ntmps22
  go_wp2_with fail
  rw [← hg] at ⊢
  have hown1 : FF (w.alloc (.cells (madeCells #[Value.int .i64 0, Value.int .i64 0] (M * 2)) 40)) w.heap.size g M M (zeroF 0) := by rw [hg]; exact hown0
  clear hg hmk hown0
  obtain ⟨w5, hw5⟩ : ∃ w5, w5 = w.alloc (.cells (madeCells #[Value.int .i64 0, Value.int .i64 0] (M * 2)) 40) := ⟨_, rfl⟩
  rw [← hw5] at hown1 hbl0 ⊢
  clear hw5
  go_loopw [19, 8] (fun x _ wr => ∃ i : Nat, i ≤ M ∧ x = .int .i64 i ∧ FF wr w.heap.size g M M (zeroF i) ∧ Below w.heap.size w wr) (fun x _ _ => M - (intOf x).toNat)
  case atStart => exact ⟨0, by omega, rfl, hown1, hbl0⟩
  case round =>
    obtain ⟨i, hi, rfl, hff, hbl⟩ := hrel
    clear hown1 hbl0
    by_cases hlt : i < M
    · have hnx := Lib.hid (zero_set hff hgw hbl)
      obtain ⟨⟨u1, v1⟩, u2, v2⟩ := hff.cell i hlt
      have f1 := World.ownsRow.frozenAt hff (i * 2)
      have f2 := World.ownsRow.frozenAt hff (i * 2 + 1)
      go_wp2_with fail
      go_roundw
      case rel => exact ⟨i + 1, by omega, by go_num, hnx.out⟩
      case measure => simp [intOf]; omega
    · have e : i = M := by omega
      have hff0 : FF wr w.heap.size g M M (farF l u n 0 0) := hff.congr fun p hp => by rw [farF_zero, zeroF, if_pos (by omega)]
      clear e hff
      go_wp2_with fail
      go_loopw [28, 10, 32, 11, 12, 9] (fun x _ _ _ _ y wr => ∃ a : Nat, a ≤ n ∧ x = .int .i64 a ∧ y = .int .i64 (tri a) ∧ FF wr w.heap.size g M M (farF l u n a 0) ∧ Below w.heap.size w wr) (fun x _ _ _ _ _ _ => n - (intOf x).toNat)
      case atStart => exact ⟨0, by omega, rfl, rfl, hff0, hbl⟩
      case round =>
        obtain ⟨a, ha, rfl, rfl, hff, hbl⟩ := hrel
        clear hff0
        by_cases hlt : a < n
        · obtain ⟨wo, rfl⟩ : ∃ wo : World, wo = wr := ⟨_, rfl⟩
          have htri : Hid (tri a + a = tri (a + 1)) := rfl
          have ht := tri_le a
          have ht2 : a * a ≤ 900 := Nat.mul_le_mul (show a ≤ 30 by omega) (show a ≤ 30 by omega)
          go_wp2_with fail
          go_loopw [32, 11, 12, 9] (fun x _ _ y wr => ∃ b : Nat, b ≤ a ∧ x = .int .i64 b ∧ y = .int .i64 ((tri a + b : Nat) : Int) ∧ FF wr w.heap.size g M M (farF l u n a b) ∧ Below w.heap.size w wr) (fun x _ _ _ _ => a - (intOf x).toNat)
          case atStart => exact ⟨0, by omega, rfl, rfl, hff, hbl⟩
          case round =>
            obtain ⟨b, hb, rfl, rfl, hff2, hbl2⟩ := hrel
            clear hff hbl
            by_cases hbt : b < a
            · obtain ⟨m1, m2, k1, k2, hm1, hm2, hk1, hk2, c1, c2⟩ := idx_far (n := n) (N := M) (a := a) (b := b) HMM.out hlt (by omega)
              have wa1 := wrap_nat ((a : Int) * (n : Int)) m1 (by rw [← hm1]; simp) (by omega)
              have wa2 := wrap_nat ((b : Int) * (n : Int)) m2 (by rw [← hm2]; simp) (by omega)
              have wa3 := wrap_nat ((m1 : Int) + (b : Int)) k1 (by omega) (by omega)
              have wa4 := wrap_nat ((m2 : Int) + (a : Int)) k2 (by omega) (by omega)
              have HK1 := Lib.hid (show a * n + b = k1 by omega)
              have HK2 := Lib.hid (show b * n + a = k2 by omega)
              have hk : ¬ (k1 = k2) := fun e => by
                have := div_mod_uniq (n := n) (i := a) (j := b) (i' := b) (j' := a) (by omega) (by omega) (by rw [HK1.out, HK2.out, e])
                omega
              clear hm1 hm2 hk1 hk2
              have hq1 : 0 ≤ u % 16 := by omega
              have hq2 : u % 16 < 16 := by omega
              by_cases hN0 : N = 0
              · have HF : Hid (farX l u a b = ((a : Int) + (b : Int), 1 + u % 16)) := by show _ = _; rw [farX, farV, if_pos (by rw [HH.out.1]; exact hN0)]; rfl
                have hd : decide (0 < (N : Int)) = false := by simp; omega
                have hd2 : decide (0 < N) = false := by simp; omega
                go_upto_region 17 with fail
                have hff8 : FF (wr.alloc (.cells #[.int .i64 ((a : Int) + (b : Int)), .int .i64 (1 + u % 16)] 40)) w.heap.size g M M (farF l u n a b) := World.ownsRow.alloc hff2 _
                have hbl8 := bl_alloc hbl2 (.cells #[.int .i64 ((a : Int) + (b : Int)), .int .i64 (1 + u % 16)] 40)
                have hx8 := Blk.new wr #[.int .i64 ((a : Int) + (b : Int)), .int .i64 (1 + u % 16)] 40
                have e0 := hx8.cell 0
                have e1 := hx8.cell 1
                have hgX : g < wr.heap.size := (World.ownsRow.lt hff2 g rfl).2
                obtain ⟨⟨u1, v1⟩, u2, v2⟩ := hff8.cell k1 c1
                obtain ⟨⟨u3, v3⟩, u4, v4⟩ := hff8.cell k2 c2
                have f1 := World.ownsRow.frozenAt hff8 (k1 * 2)
                have f2 := World.ownsRow.frozenAt hff8 (k1 * 2 + 1)
                have f3 := World.ownsRow.frozenAt hff8 (k2 * 2)
                have f4 := World.ownsRow.frozenAt hff8 (k2 * 2 + 1)
                obtain ⟨w8, hw8⟩ : ∃ w8, w8 = wr.alloc (.cells #[.int .i64 ((a : Int) + (b : Int)), .int .i64 (1 + u % 16)] 40) := ⟨_, rfl⟩
                obtain ⟨X, hX⟩ : ∃ X, X = wr.heap.size := ⟨_, rfl⟩
                rw [← hw8] at hff8 hbl8 e0 e1 v1 v2 v3 v4 f1 f2 f3 f4 ⊢
                rw [← hX] at e0 e1 hgX ⊢
                have e0' : w8.cell? ⟨X, 0, none⟩ = some (.int .i64 ((a : Int) + (b : Int))) := e0
                have e1' : w8.cell? ⟨X, 1, none⟩ = some (.int .i64 (1 + u % 16)) := e1
                clear hw8 hX hx8 e0 e1 hff2 hbl2
                have HREL := Lib.hid (far_set HK1.out HK2.out HF.out hlt hbt hff8 hgw hbl8)
                go_region
                go_wp2_with fail
                go_roundw
                case rel => exact ⟨b + 1, by omega, by go_num, by go_num, HREL.out⟩
                case measure => simp [intOf]; omega
              · obtain ⟨lb, lo, rfl, hlb, hlc⟩ := rdU HH.out.2.1 (by rw [HH.out.1]; omega)
                have hd : decide (0 < (N : Int)) = true := by simp; omega
                have hd2 : decide (0 < N) = true := by simp; omega
                obtain ⟨t, ht3⟩ : ∃ t, t = (tri a + b) % N := ⟨_, rfl⟩
                have htN : t < N := by rw [ht3]; exact Nat.mod_lt _ (by omega)
                have g0 := (hbl2.cell (p := ⟨lb, lo + t, none⟩) hlb).trans (hlc t (by rw [HH.out.1]; exact htN))
                obtain ⟨z0, z1⟩ := HH.out.2.2 t htN
                have HF : Hid (farX l u a b = (uA l t, 1 + u % 16)) := by show _ = _; rw [farX, farV, if_neg (by rw [HH.out.1]; exact hN0), HH.out.1, ht3]
                have hrem : ((tri a : Int) + (b : Int)) % (N : Int) = (t : Int) := by rw [ht3]; simp
                have g1 := keep_far g0 (.cells #[.int .i64 ((a : Int) + (b : Int)), .int .i64 (1 + u % 16)] 40)
                clear hlc ht3
                go_upto_region 17 with fail
                generalize uA l t = z at *
                have hff8 : FF (wr.alloc (.cells #[.int .i64 z, .int .i64 (1 + u % 16)] 40)) w.heap.size g M M (farF l u n a b) := World.ownsRow.alloc hff2 _
                have hbl8 := bl_alloc hbl2 (.cells #[.int .i64 z, .int .i64 (1 + u % 16)] 40)
                have hx8 := Blk.new wr #[.int .i64 z, .int .i64 (1 + u % 16)] 40
                have e0 := hx8.cell 0
                have e1 := hx8.cell 1
                have hgX : g < wr.heap.size := (World.ownsRow.lt hff2 g rfl).2
                obtain ⟨⟨u1, v1⟩, u2, v2⟩ := hff8.cell k1 c1
                obtain ⟨⟨u3, v3⟩, u4, v4⟩ := hff8.cell k2 c2
                have f1 := World.ownsRow.frozenAt hff8 (k1 * 2)
                have f2 := World.ownsRow.frozenAt hff8 (k1 * 2 + 1)
                have f3 := World.ownsRow.frozenAt hff8 (k2 * 2)
                have f4 := World.ownsRow.frozenAt hff8 (k2 * 2 + 1)
                obtain ⟨w8, hw8⟩ : ∃ w8, w8 = wr.alloc (.cells #[.int .i64 z, .int .i64 (1 + u % 16)] 40) := ⟨_, rfl⟩
                obtain ⟨X, hX⟩ : ∃ X, X = wr.heap.size := ⟨_, rfl⟩
                rw [← hw8] at hff8 hbl8 e0 e1 v1 v2 v3 v4 f1 f2 f3 f4 ⊢
                rw [← hX] at e0 e1 hgX ⊢
                have e0' : w8.cell? ⟨X, 0, none⟩ = some (.int .i64 z) := e0
                have e1' : w8.cell? ⟨X, 1, none⟩ = some (.int .i64 (1 + u % 16)) := e1
                clear hw8 hX hx8 e0 e1 hff2 hbl2
                have HREL := Lib.hid (far_set HK1.out HK2.out HF.out hlt hbt hff8 hgw hbl8)
                go_region
                go_wp2_with fail
                go_roundw
                case rel => exact ⟨b + 1, by omega, by go_num, by go_num, HREL.out⟩
                case measure => simp [intOf]; omega
            · have e : b = a := by omega
              have hff3 : FF wr w.heap.size g M M (farF l u n (a + 1) 0) := hff2.congr fun p _ => by rw [e]; exact farF_row l u n a p
              have ht : Hid (tri a + b = tri (a + 1)) := by show _ = _; rw [e]; exact htri.out
              clear hff2 e
              go_wp2_with fail
              go_roundw
              case rel => exact ⟨a + 1, by omega, by go_num, by rw [ht.out], hff3, hbl2⟩
              case measure => simp [intOf]; omega
        · have e : a = n := by omega
          have hfin : FF wr w.heap.size g M M (fun p => farD l u (p / n) (p % n)) := hff.congr fun p hp => by rw [e]; exact farF_all l u n p (by rw [HMM.out]; exact hp)
          clear hff e
          go_wp2_with fail
          go_ret
          exact ⟨g, rfl, hgw, hfin, hbl⟩
end Go.Proofs.YtahgffjkkdbjeaaDoor
namespace Go.Proofs.YtahgffjkkdbjeaaDoor
open Go.RowKit
set_option maxHeartbeats 1000000 in
theorem less_any (p q r s : Nat) (w : World) (h1 : p * s ≤ 9223372036854775807) (h2 : r * q ≤ 9223372036854775807) (b1 : p ≤ 9223372036854775807) (b2 : q ≤ 9223372036854775807) (b3 : r ≤ 9223372036854775807) (b4 : s ≤ 9223372036854775807) :
    Calls Tryd.prog 25 #[.agg #[.int .i64 p, .int .i64 q], .agg #[.int .i64 r, .int .i64 s]] w fun e w' => e = .returned (.bool (decide (p * s < r * q))) ∧ Below w.heap.size w w' := by
  obtain ⟨x, hx⟩ : ∃ x, p * s = x := ⟨_, rfl⟩
  obtain ⟨y, hy⟩ : ∃ y, r * q = y := ⟨_, rfl⟩
  rw [hx] at h1 ⊢
  rw [hy] at h2 ⊢
  have w1 := wrap_nat ((p : Int) * (s : Int)) x (by rw [← hx]; simp) h1
  have w2 := wrap_nat ((r : Int) * (q : Int)) y (by rw [← hy]; simp) h2
  clear hx hy
  go_enter Tryd.func25, Tryd.ntmps25
  go_wp2_with fail
  go_ret
  exact ⟨ret_b (by simp), bl_alloc (bl_alloc (Below.refl _ _) _) _⟩
set_option maxHeartbeats 1000000 in
theorem equal_any (p q r s : Nat) (w : World) (h1 : p * s ≤ 9223372036854775807) (h2 : r * q ≤ 9223372036854775807) (b1 : p ≤ 9223372036854775807) (b2 : q ≤ 9223372036854775807) (b3 : r ≤ 9223372036854775807) (b4 : s ≤ 9223372036854775807) :
    Calls Tryd.prog 24 #[.agg #[.int .i64 p, .int .i64 q], .agg #[.int .i64 r, .int .i64 s]] w fun e w' => e = .returned (.bool (decide (p * s = r * q))) ∧ Below w.heap.size w w' := by
  obtain ⟨x, hx⟩ : ∃ x, p * s = x := ⟨_, rfl⟩
  obtain ⟨y, hy⟩ : ∃ y, r * q = y := ⟨_, rfl⟩
  rw [hx] at h1 ⊢
  rw [hy] at h2 ⊢
  have w1 := wrap_nat ((p : Int) * (s : Int)) x (by rw [← hx]; simp) h1
  have w2 := wrap_nat ((r : Int) * (q : Int)) y (by rw [← hy]; simp) h2
  clear hx hy
  go_enter Tryd.func24, Tryd.ntmps24
  go_wp2_with fail
  go_ret
  exact ⟨ret_b (by rw [Bool.eq_iff_iff]; simp; omega), bl_alloc (bl_alloc (Below.refl _ _) _) _⟩
end Go.Proofs.YtahgffjkkdbjeaaDoor
