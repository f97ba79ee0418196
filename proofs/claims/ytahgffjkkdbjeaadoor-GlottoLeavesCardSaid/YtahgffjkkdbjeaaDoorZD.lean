/- Plain: the distances that the statements make of a list of numbers. Plain: distances with one small denominator are taken; how they compare. far: the distances that the statements make. less, equal: two fractions compared. From a walk to a row: arguments that are slices read as lists; what a call that keeps all that lay there leaves. What all rows of this seat share: the tables that they list, a world for the witness, how each argument is opened. How lists of 16-bit numbers are opened. How arguments are opened whose parts are bounded by what the address space holds: rows of rows, strings, merges. -/
import Derived.Test.YtahgffjkkdbjeaaDoorZ1
import Derived.Test.YtahgffjkkdbjeaaDoorZ8
import Derived.Test.YtahgffjkkdbjeaaDoorRows
import Derived.RegionTactic
import Derived.BigRegion
import Derived.Deep.QuietTactic
import Derived.BigQuiet
import Derived.Below
import Derived.Carry
import Derived.ChangeSame
import Derived.OpenShut
import Derived.ProofKit
import Derived.Deep.Slices
import Derived.Test.YtahgffjkkdbjeaaDoorCards
import Derived.Test.YtahgffjkkdbjeaaDoorTie
import Derived.WalkKit
import Derived.Deep.DeepHandedRow
import Derived.Lib.LaidTab
namespace Go.Proofs.YtahgffjkkdbjeaaDoor
open Go.RowKit
def uA (l : List Int) (i : Nat) : Int := l.getD i 0
def encU (x : Int) : List Value := [.int .u16 x]
theorem encU_len (x : Int) : (encU x).length = 1 := rfl
theorem rdU {l : List Int} {w : World} {a : Option Addr} (h : Rd w a (fl encU l)) (h0 : 0 < l.length) : ∃ b off, a = some ⟨b, off, none⟩ ∧ b < w.heap.size ∧ ∀ i, i < l.length → w.cell? ⟨b, off + i, none⟩ = some (.int .u16 (uA l i)) := by
  obtain ⟨b, off, e, hb, hc⟩ := rd_elem encU_len h (by omega) h0
  refine ⟨b, off, e, hb, fun i hi => ?_⟩
  have := hc i hi 0 (by omega); simpa [encU, uA, hi, ← Nat.add_assoc] using this
/-- How many pairs stand before row a. -/
def tri : Nat → Nat
  | 0 => 0
  | a + 1 => tri a + a
theorem tri_le : ∀ a, tri a ≤ a * a
  | 0 => Nat.le_refl _
  | a + 1 => by
    have := tri_le a
    rw [tri, Nat.succ_mul, Nat.mul_succ]
    omega
/-- The number of languages a and b < a. -/
def farV (l : List Int) (a b : Nat) : Int := if l.length = 0 then ((a + b : Nat) : Int) else uA l ((tri a + b) % l.length)
def farX (l : List Int) (u : Int) (a b : Nat) : Fr := (farV l a b, 1 + u % 16)
/-- What is laid when the rows before a, and b of row a, are done. -/
def farF (l : List Int) (u : Int) (n a b p : Nat) : Fr :=
  if p % n < p / n ∧ (p / n < a ∨ (p / n = a ∧ p % n < b)) then farX l u (p / n) (p % n)
  else if p / n < p % n ∧ (p % n < a ∨ (p % n = a ∧ p / n < b)) then farX l u (p % n) (p / n) else (0, 1)
theorem farF_zero (l : List Int) (u : Int) (n p : Nat) : farF l u n 0 0 p = (0, 1) := by
  unfold farF
  generalize p / n = i
  generalize p % n = j
  rw [if_neg (by omega), if_neg (by omega)]
theorem farF_row (l : List Int) (u : Int) (n a p : Nat) : farF l u n a a p = farF l u n (a + 1) 0 p := by
  unfold farF
  generalize p / n = i
  generalize p % n = j
  by_cases h1 : j < i ∧ (i < a ∨ (i = a ∧ j < a))
  · rw [if_pos h1, if_pos (by omega)]
  · rw [if_neg h1, if_neg (c := j < i ∧ _) (by omega)]
    by_cases h2 : i < j ∧ (j < a ∨ (j = a ∧ i < a))
    · rw [if_pos h2, if_pos (by omega)]
    · rw [if_neg h2, if_neg (by omega)]
theorem farF_next (l : List Int) (u : Int) {n a b : Nat} (ha : a < n) (hb : b < a) (k : Nat) : updF (updF (farF l u n a b) (a * n + b) (farX l u a b)) (b * n + a) (farX l u a b) k = farF l u n a (b + 1) k := by
  have d1 : (a * n + b) / n = a := by rw [Nat.mul_comm, Nat.mul_add_div (by omega), Nat.div_eq_of_lt (by omega), Nat.add_zero]
  have d2 : (a * n + b) % n = b := by rw [Nat.mul_comm, Nat.mul_add_mod, Nat.mod_eq_of_lt (by omega)]
  have d3 : (b * n + a) / n = b := by rw [Nat.mul_comm, Nat.mul_add_div (by omega), Nat.div_eq_of_lt (by omega), Nat.add_zero]
  have d4 : (b * n + a) % n = a := by rw [Nat.mul_comm, Nat.mul_add_mod, Nat.mod_eq_of_lt (by omega)]
  unfold updF
  by_cases e1 : k = b * n + a
  · subst e1
    rw [if_pos rfl, farF, d3, d4, if_neg (by omega), if_pos (by omega)]
  · rw [if_neg e1]
    by_cases e2 : k = a * n + b
    · subst e2
      rw [if_pos rfl, farF, d1, d2, if_pos (by omega)]
    · rw [if_neg e2]
      have e3 : ¬ (k / n = a ∧ k % n = b) := fun ⟨h1, h2⟩ => e2 (by rw [← h1, ← h2, Nat.mul_comm]; exact (Nat.div_add_mod k n).symm)
      have e4 : ¬ (k / n = b ∧ k % n = a) := fun ⟨h1, h2⟩ => e1 (by rw [← h1, ← h2, Nat.mul_comm]; exact (Nat.div_add_mod k n).symm)
      unfold farF
      generalize k / n = i at *
      generalize k % n = j at *
      by_cases h1 : j < i ∧ (i < a ∨ (i = a ∧ j < b))
      · rw [if_pos h1, if_pos (by omega)]
      · rw [if_neg h1, if_neg (c := j < i ∧ _) (by omega)]
        by_cases h2 : i < j ∧ (j < a ∨ (j = a ∧ i < b))
        · rw [if_pos h2, if_pos (by omega)]
        · rw [if_neg h2, if_neg (by omega)]
/-- The distance of any two languages. -/
def farD (l : List Int) (u : Int) (a b : Nat) : Fr := if b < a then farX l u a b else if a < b then farX l u b a else (0, 1)
theorem farF_all (l : List Int) (u : Int) (n p : Nat) (hp : p < n * n) : farF l u n n 0 p = farD l u (p / n) (p % n) := by
  have hn : 0 < n := by
    rcases Nat.eq_zero_or_pos n with h | h
    · subst h; simp at hp
    · exact h
  have h1 : p / n < n := (Nat.div_lt_iff_lt_mul hn).2 hp
  have h2 : p % n < n := Nat.mod_lt _ hn
  unfold farF farD
  generalize p / n = i at *
  generalize p % n = j at *
  by_cases e1 : j < i
  · rw [if_pos ⟨e1, .inl h1⟩, if_pos e1]
  · rw [if_neg (fun h => e1 h.1), if_neg e1]
    by_cases e2 : i < j
    · rw [if_pos ⟨e2, .inl h2⟩, if_pos e2]
    · rw [if_neg (fun h => e2 h.1), if_neg e2]
/-- The distances. -/
def farL (l : List Int) (u : Int) (n : Nat) : List Fr := (List.range (n * n)).map fun p => farD l u (p / n) (p % n)
theorem farL_len (l : List Int) (u : Int) (n : Nat) : (farL l u n).length = n * n := by simp [farL]
theorem farL_get (l : List Int) (u : Int) (n p : Nat) (hp : p < n * n) : fN (farL l u n) p = (farD l u (p / n) (p % n)).1 ∧ fD (farL l u n) p = (farD l u (p / n) (p % n)).2 := by
  simp [fN, fD, farL, hp]
end Go.Proofs.YtahgffjkkdbjeaaDoor
namespace Go.Proofs.YtahgffjkkdbjeaaDoor
open Go.RowKit
/-- Distances of n languages with numerators up to m over q (or 1). -/
structure GoodD (d : List Fr) (n q m : Nat) : Prop where
  len : d.length = n * n
  one : 1 ≤ n ∧ n ≤ 24 ∧ 1 ≤ q ∧ q ≤ 16 ∧ m ≤ 16777216
  num : ∀ i, i < n * n → 0 ≤ fN d i ∧ fN d i ≤ m
  den : ∀ i, i < n * n → fD d i = q ∨ fD d i = 1
  sym : ∀ a b, a < n → b < n → fN d (a * n + b) = fN d (b * n + a) ∧ fD d (a * n + b) = fD d (b * n + a)
  diag : ∀ a, a < n → fN d (a * n + a) = 0
theorem fr_getD (d : List Fr) (i : Nat) : d.getD i (0, 1) = (fN d i, fD d i) := rfl
theorem idxLt {n a b : Nat} (ha : a < n) (hb : b < n) : a * n + b < n * n := by
  have : (a + 1) * n ≤ n * n := Nat.mul_le_mul_right _ ha
  rw [Nat.succ_mul] at this
  omega
theorem GoodD.fit {d : List Fr} {n q m : Nat} (h : GoodD d n q m) : FitFr d := fun i hi => by
  rw [h.len] at hi
  have h1 := h.num i hi
  have h2 := h.one
  rcases h.den i hi with e | e <;> omega
theorem GoodD.qD {d : List Fr} {n q m : Nat} (h : GoodD d n q m) {i : Nat} (hi : i < n * n) : qD d i ∣ q ∧ 0 < qD d i ∧ qN d i ≤ m ∧ ∃ g : Nat, 0 < g ∧ (fN d i).toNat = qN d i * g ∧ (fD d i).toNat = qD d i * g := by
  have h1 := h.num i hi
  have h2 := h.one
  have hD : 0 < (fD d i).toNat := by rcases h.den i hi with e | e <;> omega
  have hg : 0 < Nat.gcd (fN d i).toNat (fD d i).toNat := Nat.gcd_pos_of_pos_right _ hD
  have e1 : qN d i = (fN d i).toNat / Nat.gcd (fN d i).toNat (fD d i).toNat := rfl
  have e2 : Go.Proofs.YtahgffjkkdbjeaaDoor.qD d i = (fD d i).toNat / Nat.gcd (fN d i).toNat (fD d i).toNat := rfl
  have d1 : Nat.gcd (fN d i).toNat (fD d i).toNat ∣ (fN d i).toNat := Nat.gcd_dvd_left _ _
  have d2 : Nat.gcd (fN d i).toNat (fD d i).toNat ∣ (fD d i).toNat := Nat.gcd_dvd_right _ _
  refine ⟨?_, ?_, ?_, Nat.gcd (fN d i).toNat (fD d i).toNat, hg, ?_, ?_⟩
  · have h3 : Go.Proofs.YtahgffjkkdbjeaaDoor.qD d i ∣ (fD d i).toNat := by rw [e2]; exact Nat.div_dvd_of_dvd d2
    have h4 : (fD d i).toNat ∣ q := by
      rcases h.den i hi with e | e
      · rw [e]; simp
      · rw [e]; simp
    exact Nat.dvd_trans h3 h4
  · rw [e2]; exact Nat.div_pos (Nat.le_of_dvd hD d2) hg
  · rw [e1]; exact Nat.le_trans (Nat.div_le_self _ _) (by omega)
  · rw [e1, Nat.div_mul_cancel d1]
  · rw [e2, Nat.div_mul_cancel d2]
theorem lcm_step {c x q : Nat} (hc : c ∣ q) (hx : x ∣ q) : c * (x / Nat.gcd c x) ∣ q := by
  have e : c * (x / Nat.gcd c x) = Nat.lcm c x := by
    unfold Nat.lcm
    rw [Nat.mul_div_assoc _ (Nat.gcd_dvd_right c x)]
  rw [e]
  exact Nat.lcm_dvd hc hx
theorem GoodD.cm {d : List Fr} {n q m : Nat} (h : GoodD d n q m) : ∀ k, k ≤ n * n → ∃ c, cmA d k = some c ∧ c ∣ q ∧ 0 < c
  | 0, _ => ⟨1, rfl, Nat.one_dvd _, by omega⟩
  | k + 1, hk => by
    obtain ⟨c, h1, h2, h3⟩ := h.cm k (by omega)
    obtain ⟨a1, a2, _⟩ := h.qD (i := k) (by omega)
    have hq := h.one
    have l1 := Nat.le_of_dvd (by omega) a1
    have hd := lcm_step h2 a1
    have l2 := Nat.le_of_dvd (by omega) hd
    have e : cmStep c (Go.Proofs.YtahgffjkkdbjeaaDoor.qD d k) = some (c * (Go.Proofs.YtahgffjkkdbjeaaDoor.qD d k / Nat.gcd c (Go.Proofs.YtahgffjkkdbjeaaDoor.qD d k))) := by
      unfold cmStep
      rw [if_neg (by omega), if_neg (by omega)]
    exact ⟨_, by rw [cmA, h1]; exact e, hd, cmStep_pos e h3 a2⟩
/-- They are taken, and each is its fraction of the common denominator. -/
theorem GoodD.ok {d : List Fr} {n q m : Nat} (h : GoodD d n q m) : ∃ c, scaledS n d = .ok c ∧ 0 < c ∧ c ≤ 16 ∧ ∀ i, i < n * n → scK d c i * (fD d i).toNat = (fN d i).toNat * c := by
  have hq := h.one
  obtain ⟨c, h1, h2, h3⟩ := h.cm (n * n) (Nat.le_refl _)
  have lc := Nat.le_of_dvd (by omega) h2
  have hbad : d.any badFr = false := by
    rw [List.any_eq_false]
    intro x hx
    obtain ⟨i, hi, rfl⟩ := List.getElem_of_mem hx
    have hi2 : i < n * n := by rw [← h.len]; exact hi
    have e1 : fN d i = d[i].1 := by simp [fN, hi]
    have e2 : fD d i = d[i].2 := by simp [fD, hi]
    have n1 := h.num i hi2
    have n2 := h.den i hi2
    unfold badFr
    rw [← e1, ← e2]
    simp
    omega
  have hdv : ∀ k i, i < k → k ≤ n * n → ∀ c, cmA d k = some c → Go.Proofs.YtahgffjkkdbjeaaDoor.qD d i ∣ c := by
    intro k i hik hk c hc
    exact ((cmA_some (d := d) (fun j hj => (h.qD (by rw [← h.len]; exact hj)).2.1) (by rw [h.len]; exact hk) hc).2.2 i hik).1
  have hsym : SymOk d n := by
    intro a ha b hb
    obtain ⟨s1, s2⟩ := h.sym a b ha (by omega)
    have e : d.getD (a * n + b) (0, 1) = d.getD (b * n + a) (0, 1) := by rw [fr_getD, fr_getD, s1, s2]
    refine ⟨⟨by unfold qN; rw [e], by unfold Go.Proofs.YtahgffjkkdbjeaaDoor.qD; rw [e]⟩, fun e2 => ?_⟩
    subst e2
    have hN0 := h.diag a ha
    unfold qN lowN
    rw [fr_getD]
    simp [hN0]
  have hover : ¬ OverAny d c := by
    rintro ⟨k, hk, ho⟩
    rw [h.len] at hk
    obtain ⟨a1, a2, a3, _⟩ := h.qD hk
    have hl : c / Go.Proofs.YtahgffjkkdbjeaaDoor.qD d k ≤ 16 := Nat.le_trans (Nat.div_le_self _ _) (by omega)
    have hp : 0 < c / Go.Proofs.YtahgffjkkdbjeaaDoor.qD d k := Nat.div_pos (Nat.le_of_dvd h3 (hdv _ k hk (Nat.le_refl _) c h1)) a2
    unfold overK at ho
    simp only [decide_eq_true_eq] at ho
    have : 1073741824 / 16 ≤ 1073741824 / (c / Go.Proofs.YtahgffjkkdbjeaaDoor.qD d k) := Nat.div_le_div_left hl hp
    omega
  refine ⟨c, ?_, h3, by omega, fun i hi => ?_⟩
  · rw [scaledS, if_neg (by omega), if_neg (fun h4 => ?_), if_neg (fun h4 => h4 (by simpa using hsym)), h.len, h1]
    · exact if_neg hover
    · rcases h4 with h4 | h4
      · exact h4 (by rw [h.len]; simp)
      · rw [hbad] at h4; cases h4
  · obtain ⟨a1, a2, a3, g, hg, g1, g2⟩ := h.qD hi
    have hd := hdv _ i hi (Nat.le_refl _) c h1
    rw [g1, g2, scK]
    have e := Nat.div_mul_cancel hd
    calc qN d i * (c / Go.Proofs.YtahgffjkkdbjeaaDoor.qD d i) * (Go.Proofs.YtahgffjkkdbjeaaDoor.qD d i * g)
        = qN d i * (c / Go.Proofs.YtahgffjkkdbjeaaDoor.qD d i * Go.Proofs.YtahgffjkkdbjeaaDoor.qD d i) * g := by simp only [Nat.mul_assoc]
      _ = qN d i * g * c := by rw [e]; simp only [Nat.mul_assoc, Nat.mul_comm c g]
/-- Two of them compare as their scaled numbers do. -/
theorem frac_lt {n1 d1 n2 d2 s1 s2 c : Nat} (hc : 0 < c) (h1 : 0 < d1) (h2 : 0 < d2) (e1 : s1 * d1 = n1 * c) (e2 : s2 * d2 = n2 * c) : n1 * d2 < n2 * d1 ↔ s1 < s2 := by
  have k1 : n1 * d2 * c = s1 * (d1 * d2) := by rw [← Nat.mul_assoc, e1, Nat.mul_assoc, Nat.mul_assoc, Nat.mul_comm d2 c]
  have k2 : n2 * d1 * c = s2 * (d1 * d2) := by rw [Nat.mul_comm d1 d2, ← Nat.mul_assoc, e2, Nat.mul_assoc, Nat.mul_assoc, Nat.mul_comm d1 c]
  have hp : 0 < d1 * d2 := Nat.mul_pos h1 h2
  constructor
  · intro h
    have : n1 * d2 * c < n2 * d1 * c := Nat.mul_lt_mul_of_pos_right h hc
    rw [k1, k2] at this
    exact Nat.lt_of_mul_lt_mul_right this
  · intro h
    have : s1 * (d1 * d2) < s2 * (d1 * d2) := Nat.mul_lt_mul_of_pos_right h hp
    rw [← k1, ← k2] at this
    exact Nat.lt_of_mul_lt_mul_right this
theorem frac_eq {n1 d1 n2 d2 s1 s2 c : Nat} (hc : 0 < c) (h1 : 0 < d1) (h2 : 0 < d2) (e1 : s1 * d1 = n1 * c) (e2 : s2 * d2 = n2 * c) : n1 * d2 = n2 * d1 ↔ s1 = s2 := by
  have a := frac_lt hc h1 h2 e1 e2
  have b := frac_lt hc h2 h1 e2 e1
  constructor
  · intro h
    have a2 : ¬ s1 < s2 := fun h3 => by have := a.2 h3; omega
    have b2 : ¬ s2 < s1 := fun h3 => by have := b.2 h3; omega
    omega
  · intro h
    have a2 : ¬ n1 * d2 < n2 * d1 := fun h3 => by have := a.1 h3; omega
    have b2 : ¬ n2 * d1 < n1 * d2 := fun h3 => by have := b.1 h3; omega
    omega
theorem farV_bd {l : List Int} (hb : ∀ i, i < l.length → 0 ≤ uA l i ∧ uA l i ≤ 65535) {n a b : Nat} (ha : a < n) (hn : n ≤ 24) (hba : b < a) : 0 ≤ farV l a b ∧ farV l a b ≤ 65535 := by
  unfold farV
  split
  · omega
  · exact hb _ (Nat.mod_lt _ (by omega))
theorem farD_bd {l : List Int} (hb : ∀ i, i < l.length → 0 ≤ uA l i ∧ uA l i ≤ 65535) {u : Int} {n a b : Nat} (ha : a < n) (hb2 : b < n) (hn : n ≤ 24) : 0 ≤ (farD l u a b).1 ∧ (farD l u a b).1 ≤ 65535 ∧ ((farD l u a b).2 = 1 + u % 16 ∨ (farD l u a b).2 = 1) := by
  unfold farD farX
  split
  · rename_i h
    have := farV_bd hb ha hn h
    exact ⟨this.1, this.2, .inl rfl⟩
  · split
    · rename_i h
      have := farV_bd hb hb2 hn h
      exact ⟨this.1, this.2, .inl rfl⟩
    · exact ⟨by simp, by simp, .inr rfl⟩
theorem farD_sym (l : List Int) (u : Int) (a b : Nat) : farD l u a b = farD l u b a := by
  unfold farD
  by_cases h1 : b < a
  · rw [if_pos h1, if_neg (by omega), if_pos h1]
  · by_cases h2 : a < b
    · rw [if_neg h1, if_pos h2, if_pos h2]
    · rw [if_neg h1, if_neg h2, if_neg h2, if_neg h1]
theorem farD_at {l : List Int} {u : Int} {n a b : Nat} (ha : a < n) (hb : b < n) : fN (farL l u n) (a * n + b) = (farD l u a b).1 ∧ fD (farL l u n) (a * n + b) = (farD l u a b).2 := by
  have h := farL_get l u n (a * n + b) (idxLt ha hb)
  have d1 : (a * n + b) / n = a := by rw [Nat.mul_comm, Nat.mul_add_div (by omega), Nat.div_eq_of_lt (by omega), Nat.add_zero]
  have d2 : (a * n + b) % n = b := by rw [Nat.mul_comm, Nat.mul_add_mod, Nat.mod_eq_of_lt (by omega)]
  rwa [d1, d2] at h
/-- The statements' distances are good ones. -/
theorem far_good {l : List Int} (hb : ∀ i, i < l.length → 0 ≤ uA l i ∧ uA l i ≤ 65535) {u : Int} (hu : 0 ≤ u) {n : Nat} (h1 : 1 ≤ n) (h2 : n ≤ 24) : GoodD (farL l u n) n (1 + u % 16).toNat 65535 := by
  have hu2 : 0 ≤ u % 16 ∧ u % 16 < 16 := by omega
  have key : ∀ i, i < n * n → i / n < n ∧ i % n < n := fun i hi => ⟨(Nat.div_lt_iff_lt_mul (by omega)).2 hi, Nat.mod_lt _ (by omega)⟩
  refine ⟨farL_len l u n, by omega, fun i hi => ?_, fun i hi => ?_, fun a b ha hb2 => ?_, fun a ha => ?_⟩
  · obtain ⟨k1, k2⟩ := key i hi
    have := farD_bd hb (u := u) k1 k2 h2
    rw [(farL_get l u n i hi).1]
    exact ⟨this.1, by have := this.2.1; omega⟩
  · obtain ⟨k1, k2⟩ := key i hi
    have := farD_bd hb (u := u) k1 k2 h2
    rw [(farL_get l u n i hi).2]
    rcases this.2.2 with e | e
    · left; rw [e]; omega
    · right; exact e
  · obtain ⟨e1, e2⟩ := farD_at (l := l) (u := u) ha hb2
    obtain ⟨e3, e4⟩ := farD_at (l := l) (u := u) hb2 ha
    rw [e1, e2, e3, e4, farD_sym l u a b]
    exact ⟨rfl, rfl⟩
  · rw [(farD_at (l := l) (u := u) ha ha).1]
    unfold farD
    rw [if_neg (by omega), if_neg (by omega)]
end Go.Proofs.YtahgffjkkdbjeaaDoor
namespace Go.Proofs.YtahgffjkkdbjeaaDoor
open Go.RowKit
theorem keep_far {W : World} {b i : Nat} {v : Value} (h : W.cell? ⟨b, i, none⟩ = some v) (o : Obj) : (W.alloc o).cell? ⟨b, i, none⟩ = some v :=
  (World.cell?_alloc_lt W o _ (World.block_lt_of_cell? W _ h)).trans h
def zeroF (i p : Nat) : Fr := if p < i then (0, 1) else (0, 0)
theorem zeroF_start (M : Nat) : (List.range M).map (zeroF 0) = List.replicate M (0, 0) := by
  rw [List.eq_replicate_iff]
  refine ⟨by simp, fun x hx => ?_⟩
  obtain ⟨k, _, rfl⟩ := List.mem_map.1 hx
  exact if_neg (by omega)
theorem zero_set {w w0 : World} {g M i : Nat} (hf : FF w w0.heap.size g M M (zeroF i)) (hg : w0.heap.size ≤ g) (hb : Below w0.heap.size w0 w) :
    FF ((w.setCell ⟨g, i * 2, none⟩ (.int .i64 0)).setCell ⟨g, i * 2 + 1, none⟩ (.int .i64 1)) w0.heap.size g M M (zeroF (i + 1)) ∧ Below w0.heap.size w0 ((w.setCell ⟨g, i * 2, none⟩ (.int .i64 0)).setCell ⟨g, i * 2 + 1, none⟩ (.int .i64 1)) := by
  refine ⟨(FF.set hf i 0 1).congr fun p _ => ?_, bl_set (bl_set hb _ _ _ _ hg) _ _ _ _ hg⟩
  unfold updF zeroF
  by_cases e : p = i
  · rw [if_pos e, if_pos (by omega)]
  · rw [if_neg e]
    by_cases h : p < i
    · rw [if_pos h, if_pos (by omega)]
    · rw [if_neg h, if_neg (by omega)]
theorem far_set {w w0 : World} {g M n a c k1 k2 : Nat} {p q : Int} {l : List Int} {u : Int} (h1 : a * n + c = k1) (h2 : c * n + a = k2) (hF : farX l u a c = (p, q)) (ha : a < n) (hc : c < a) (hf : FF w w0.heap.size g M M (farF l u n a c)) (hg : w0.heap.size ≤ g) (hb : Below w0.heap.size w0 w) :
    FF (((((w.setCell ⟨g, k1 * 2, none⟩ (.int .i64 p)).setCell ⟨g, k1 * 2 + 1, none⟩ (.int .i64 q)).setCell ⟨g, k2 * 2, none⟩ (.int .i64 p)).setCell ⟨g, k2 * 2 + 1, none⟩ (.int .i64 q)).drew) w0.heap.size g M M (farF l u n a (c + 1)) ∧
      Below w0.heap.size w0 (((((w.setCell ⟨g, k1 * 2, none⟩ (.int .i64 p)).setCell ⟨g, k1 * 2 + 1, none⟩ (.int .i64 q)).setCell ⟨g, k2 * 2, none⟩ (.int .i64 p)).setCell ⟨g, k2 * 2 + 1, none⟩ (.int .i64 q)).drew) := by
  have h := FF.set (FF.set hf k1 p q) k2 p q
  refine ⟨FF.drewN (h.congr fun x _ => ?_) 1, bl_drewN (bl_set (bl_set (bl_set (bl_set hb _ _ _ _ hg) _ _ _ _ hg) _ _ _ _ hg) _ _ _ _ hg) 1⟩
  rw [← hF, ← h1, ← h2]
  exact farF_next l u ha hc x
theorem idx_far {n N a b : Nat} (hN : n * n = N) (ha : a < n) (hb : b < n) : ∃ m1 m2 k1 k2 : Nat, a * n = m1 ∧ b * n = m2 ∧ m1 + b = k1 ∧ m2 + a = k2 ∧ k1 < N ∧ k2 < N := by
  refine ⟨_, _, _, _, rfl, rfl, rfl, rfl, ?_, ?_⟩
  · have : (a + 1) * n ≤ n * n := Nat.mul_le_mul_right _ ha
    rw [Nat.succ_mul] at this
    omega
  · have : (b + 1) * n ≤ n * n := Nat.mul_le_mul_right _ hb
    rw [Nat.succ_mul] at this
    omega
set_option maxRecDepth 100000 in
set_option maxHeartbeats 4000000 in
theorem far_any (n N c : Nat) (la : Option Addr) (l : List Int) (u : Int) (w : World) (hn1 : 1 ≤ n) (hn : n ≤ 30) (hl : l.length = N) (hN : N ≤ 9223372036854775807) (hu0 : 0 ≤ u) (hu1 : u ≤ 255) (hA : Rd w la (fl encU l)) (hb : ∀ i, i < N → 0 ≤ uA l i ∧ uA l i ≤ 65535) :
    Calls Tryd.prog 22 #[.int .i64 n, .slice la N c, .int .u8 u] w fun e w' => ∃ g, e = .returned (.slice (some ⟨g, 0, none⟩) (n * n) (n * n)) ∧ w.heap.size ≤ g ∧ FF w' w.heap.size g (n * n) (n * n) (fun p => farD l u (p / n) (p % n)) ∧ Below w.heap.size w w' := by
  have HH := Lib.hid (And.intro hl (And.intro hA hb))
  clear hl hA hb
  obtain ⟨M, hM⟩ : ∃ M, n * n = M := ⟨_, rfl⟩
  have hM2 : M ≤ 900 := by rw [← hM]; exact Nat.mul_le_mul hn hn
  have wM := wrap_nat ((n : Int) * (n : Int)) M (by rw [← hM]; simp) (by omega)
  rw [hM]
  have HMM := Lib.hid hM
  clear hM
  obtain ⟨i0, hi, hz0, hz1, hz2⟩ := info_parts info40
  have hmk := run_make (P := Tryd.prog) w 22 40 i0 _ Tryd.underlying22 hi hz0 .i64 .i64 (M : Int) (M : Int) (by omega) (by omega) (by rw [hz2]; omega) (by omega)
  rw [hz1] at hmk
  simp only [Int.toNat_natCast] at hmk
  have hown0 : FF (w.alloc (.cells (madeCells #[Value.int .i64 0, Value.int .i64 0] (M * 2)) 40)) w.heap.size w.heap.size M M (zeroF 0) := by
    have := owns_made (w := w) (base := w.heap.size) (e := 40) (k := 2) (n := M) (cs := madeCells (encFr (0, 0)).toArray (M * 2)) (Nat.le_refl _) (size_madeCells _ _) (by unfold maxLen; omega)
    rw [made_cells encFr 2 encFr_len (by omega)] at this
    unfold FF
    rw [zeroF_start]
    exact this
  have hbl0 := bl_alloc (Below.refl _ w) (.cells (madeCells #[Value.int .i64 0, Value.int .i64 0] (M * 2)) 40)
  obtain ⟨g, hg⟩ : ∃ g, g = w.heap.size := ⟨_, rfl⟩
  have hgw : w.heap.size ≤ g := by rw [hg]; exact Nat.le_refl _
  go_enter Tryd.func22, Tryd.ntmps22
  go_wp2_with fail
  rw [← hg] at ⊢
  have hown1 : FF (w.alloc (.cells (madeCells #[Value.int .i64 0, Value.int .i64 0] (M * 2)) 40)) w.heap.size g M M (zeroF 0) := by rw [hg]; exact hown0
  clear hg hmk hown0
  obtain ⟨w5, hw5⟩ : ∃ w5, w5 = w.alloc (.cells (madeCells #[Value.int .i64 0, Value.int .i64 0] (M * 2)) 40) := ⟨_, rfl⟩
  rw [← hw5] at hown1 hbl0 ⊢
  clear hw5
  go_loopw [19, 8] (fun x _ wr => ∃ i : Nat, i ≤ M ∧ x = .int .i64 i ∧ FF wr w.heap.size g M M (zeroF i) ∧ Below w.heap.size w wr) (fun x _ _ => M - (intOf x).toNat)
  case atStart => exact ⟨0, by omega, rfl, hown1, hbl0⟩
  case round =>
    obtain ⟨i, hi, rfl, hff, hbl⟩ := hrel
    clear hown1 hbl0
    by_cases hlt : i < M
    · have hnx := Lib.hid (zero_set hff hgw hbl)
      obtain ⟨⟨u1, v1⟩, u2, v2⟩ := hff.cell i hlt
      have f1 := World.ownsRow.frozenAt hff (i * 2)
      have f2 := World.ownsRow.frozenAt hff (i * 2 + 1)
      go_wp2_with fail
      go_roundw
      case rel => exact ⟨i + 1, by omega, by go_num, hnx.out⟩
      case measure => simp [intOf]; omega
    · have e : i = M := by omega
      have hff0 : FF wr w.heap.size g M M (farF l u n 0 0) := hff.congr fun p hp => by rw [farF_zero, zeroF, if_pos (by omega)]
      clear e hff
      go_wp2_with fail
      go_loopw [28, 10, 32, 11, 12, 9] (fun x _ _ _ _ y wr => ∃ a : Nat, a ≤ n ∧ x = .int .i64 a ∧ y = .int .i64 (tri a) ∧ FF wr w.heap.size g M M (farF l u n a 0) ∧ Below w.heap.size w wr) (fun x _ _ _ _ _ _ => n - (intOf x).toNat)
      case atStart => exact ⟨0, by omega, rfl, rfl, hff0, hbl⟩
      case round =>
        obtain ⟨a, ha, rfl, rfl, hff, hbl⟩ := hrel
        clear hff0
        by_cases hlt : a < n
        · obtain ⟨wo, rfl⟩ : ∃ wo : World, wo = wr := ⟨_, rfl⟩
          have htri : Hid (tri a + a = tri (a + 1)) := rfl
          have ht := tri_le a
          have ht2 : a * a ≤ 900 := Nat.mul_le_mul (show a ≤ 30 by omega) (show a ≤ 30 by omega)
          go_wp2_with fail
          go_loopw [32, 11, 12, 9] (fun x _ _ y wr => ∃ b : Nat, b ≤ a ∧ x = .int .i64 b ∧ y = .int .i64 ((tri a + b : Nat) : Int) ∧ FF wr w.heap.size g M M (farF l u n a b) ∧ Below w.heap.size w wr) (fun x _ _ _ _ => a - (intOf x).toNat)
          case atStart => exact ⟨0, by omega, rfl, rfl, hff, hbl⟩
          case round =>
            obtain ⟨b, hb, rfl, rfl, hff2, hbl2⟩ := hrel
            clear hff hbl
            by_cases hbt : b < a
            · obtain ⟨m1, m2, k1, k2, hm1, hm2, hk1, hk2, c1, c2⟩ := idx_far (n := n) (N := M) (a := a) (b := b) HMM.out hlt (by omega)
              have wa1 := wrap_nat ((a : Int) * (n : Int)) m1 (by rw [← hm1]; simp) (by omega)
              have wa2 := wrap_nat ((b : Int) * (n : Int)) m2 (by rw [← hm2]; simp) (by omega)
              have wa3 := wrap_nat ((m1 : Int) + (b : Int)) k1 (by omega) (by omega)
              have wa4 := wrap_nat ((m2 : Int) + (a : Int)) k2 (by omega) (by omega)
              have HK1 := Lib.hid (show a * n + b = k1 by omega)
              have HK2 := Lib.hid (show b * n + a = k2 by omega)
              have hk : ¬ (k1 = k2) := fun e => by
                have := div_mod_uniq (n := n) (i := a) (j := b) (i' := b) (j' := a) (by omega) (by omega) (by rw [HK1.out, HK2.out, e])
                omega
              clear hm1 hm2 hk1 hk2
              have hq1 : 0 ≤ u % 16 := by omega
              have hq2 : u % 16 < 16 := by omega
              by_cases hN0 : N = 0
              · have HF : Hid (farX l u a b = ((a : Int) + (b : Int), 1 + u % 16)) := by show _ = _; rw [farX, farV, if_pos (by rw [HH.out.1]; exact hN0)]; rfl
                have hd : decide (0 < (N : Int)) = false := by simp; omega
                have hd2 : decide (0 < N) = false := by simp; omega
                go_upto_region 17 with fail
                have hff8 : FF (wr.alloc (.cells #[.int .i64 ((a : Int) + (b : Int)), .int .i64 (1 + u % 16)] 40)) w.heap.size g M M (farF l u n a b) := World.ownsRow.alloc hff2 _
                have hbl8 := bl_alloc hbl2 (.cells #[.int .i64 ((a : Int) + (b : Int)), .int .i64 (1 + u % 16)] 40)
                have hx8 := Blk.new wr #[.int .i64 ((a : Int) + (b : Int)), .int .i64 (1 + u % 16)] 40
                have e0 := hx8.cell 0
                have e1 := hx8.cell 1
                have hgX : g < wr.heap.size := (World.ownsRow.lt hff2 g rfl).2
                obtain ⟨⟨u1, v1⟩, u2, v2⟩ := hff8.cell k1 c1
                obtain ⟨⟨u3, v3⟩, u4, v4⟩ := hff8.cell k2 c2
                have f1 := World.ownsRow.frozenAt hff8 (k1 * 2)
                have f2 := World.ownsRow.frozenAt hff8 (k1 * 2 + 1)
                have f3 := World.ownsRow.frozenAt hff8 (k2 * 2)
                have f4 := World.ownsRow.frozenAt hff8 (k2 * 2 + 1)
                obtain ⟨w8, hw8⟩ : ∃ w8, w8 = wr.alloc (.cells #[.int .i64 ((a : Int) + (b : Int)), .int .i64 (1 + u % 16)] 40) := ⟨_, rfl⟩
                obtain ⟨X, hX⟩ : ∃ X, X = wr.heap.size := ⟨_, rfl⟩
                rw [← hw8] at hff8 hbl8 e0 e1 v1 v2 v3 v4 f1 f2 f3 f4 ⊢
                rw [← hX] at e0 e1 hgX ⊢
                have e0' : w8.cell? ⟨X, 0, none⟩ = some (.int .i64 ((a : Int) + (b : Int))) := e0
                have e1' : w8.cell? ⟨X, 1, none⟩ = some (.int .i64 (1 + u % 16)) := e1
                clear hw8 hX hx8 e0 e1 hff2 hbl2
                have HREL := Lib.hid (far_set HK1.out HK2.out HF.out hlt hbt hff8 hgw hbl8)
                go_region
                go_wp2_with fail
                go_roundw
                case rel => exact ⟨b + 1, by omega, by go_num, by go_num, HREL.out⟩
                case measure => simp [intOf]; omega
              · obtain ⟨lb, lo, rfl, hlb, hlc⟩ := rdU HH.out.2.1 (by rw [HH.out.1]; omega)
                have hd : decide (0 < (N : Int)) = true := by simp; omega
                have hd2 : decide (0 < N) = true := by simp; omega
                obtain ⟨t, ht3⟩ : ∃ t, t = (tri a + b) % N := ⟨_, rfl⟩
                have htN : t < N := by rw [ht3]; exact Nat.mod_lt _ (by omega)
                have g0 := (hbl2.cell (p := ⟨lb, lo + t, none⟩) hlb).trans (hlc t (by rw [HH.out.1]; exact htN))
                obtain ⟨z0, z1⟩ := HH.out.2.2 t htN
                have HF : Hid (farX l u a b = (uA l t, 1 + u % 16)) := by show _ = _; rw [farX, farV, if_neg (by rw [HH.out.1]; exact hN0), HH.out.1, ht3]
                have hrem : ((tri a : Int) + (b : Int)) % (N : Int) = (t : Int) := by rw [ht3]; simp
                have g1 := keep_far g0 (.cells #[.int .i64 ((a : Int) + (b : Int)), .int .i64 (1 + u % 16)] 40)
                clear hlc ht3
                go_upto_region 17 with fail
                generalize uA l t = z at *
                have hff8 : FF (wr.alloc (.cells #[.int .i64 z, .int .i64 (1 + u % 16)] 40)) w.heap.size g M M (farF l u n a b) := World.ownsRow.alloc hff2 _
                have hbl8 := bl_alloc hbl2 (.cells #[.int .i64 z, .int .i64 (1 + u % 16)] 40)
                have hx8 := Blk.new wr #[.int .i64 z, .int .i64 (1 + u % 16)] 40
                have e0 := hx8.cell 0
                have e1 := hx8.cell 1
                have hgX : g < wr.heap.size := (World.ownsRow.lt hff2 g rfl).2
                obtain ⟨⟨u1, v1⟩, u2, v2⟩ := hff8.cell k1 c1
                obtain ⟨⟨u3, v3⟩, u4, v4⟩ := hff8.cell k2 c2
                have f1 := World.ownsRow.frozenAt hff8 (k1 * 2)
                have f2 := World.ownsRow.frozenAt hff8 (k1 * 2 + 1)
                have f3 := World.ownsRow.frozenAt hff8 (k2 * 2)
                have f4 := World.ownsRow.frozenAt hff8 (k2 * 2 + 1)
                obtain ⟨w8, hw8⟩ : ∃ w8, w8 = wr.alloc (.cells #[.int .i64 z, .int .i64 (1 + u % 16)] 40) := ⟨_, rfl⟩
                obtain ⟨X, hX⟩ : ∃ X, X = wr.heap.size := ⟨_, rfl⟩
                rw [← hw8] at hff8 hbl8 e0 e1 v1 v2 v3 v4 f1 f2 f3 f4 ⊢
                rw [← hX] at e0 e1 hgX ⊢
                have e0' : w8.cell? ⟨X, 0, none⟩ = some (.int .i64 z) := e0
                have e1' : w8.cell? ⟨X, 1, none⟩ = some (.int .i64 (1 + u % 16)) := e1
                clear hw8 hX hx8 e0 e1 hff2 hbl2
                have HREL := Lib.hid (far_set HK1.out HK2.out HF.out hlt hbt hff8 hgw hbl8)
                go_region
                go_wp2_with fail
                go_roundw
                case rel => exact ⟨b + 1, by omega, by go_num, by go_num, HREL.out⟩
                case measure => simp [intOf]; omega
            · have e : b = a := by omega
              have hff3 : FF wr w.heap.size g M M (farF l u n (a + 1) 0) := hff2.congr fun p _ => by rw [e]; exact farF_row l u n a p
              have ht : Hid (tri a + b = tri (a + 1)) := by show _ = _; rw [e]; exact htri.out
              clear hff2 e
              go_wp2_with fail
              go_roundw
              case rel => exact ⟨a + 1, by omega, by go_num, by rw [ht.out], hff3, hbl2⟩
              case measure => simp [intOf]; omega
        · have e : a = n := by omega
          have hfin : FF wr w.heap.size g M M (fun p => farD l u (p / n) (p % n)) := hff.congr fun p hp => by rw [e]; exact farF_all l u n p (by rw [HMM.out]; exact hp)
          clear hff e
          go_wp2_with fail
          go_ret
          exact ⟨g, rfl, hgw, hfin, hbl⟩
end Go.Proofs.YtahgffjkkdbjeaaDoor
namespace Go.Proofs.YtahgffjkkdbjeaaDoor
open Go.RowKit
set_option maxHeartbeats 1000000 in
theorem less_any (p q r s : Nat) (w : World) (h1 : p * s ≤ 9223372036854775807) (h2 : r * q ≤ 9223372036854775807) (b1 : p ≤ 9223372036854775807) (b2 : q ≤ 9223372036854775807) (b3 : r ≤ 9223372036854775807) (b4 : s ≤ 9223372036854775807) :
    Calls Tryd.prog 25 #[.agg #[.int .i64 p, .int .i64 q], .agg #[.int .i64 r, .int .i64 s]] w fun e w' => e = .returned (.bool (decide (p * s < r * q))) ∧ Below w.heap.size w w' := by
  obtain ⟨x, hx⟩ : ∃ x, p * s = x := ⟨_, rfl⟩
  obtain ⟨y, hy⟩ : ∃ y, r * q = y := ⟨_, rfl⟩
  rw [hx] at h1 ⊢
  rw [hy] at h2 ⊢
  have w1 := wrap_nat ((p : Int) * (s : Int)) x (by rw [← hx]; simp) h1
  have w2 := wrap_nat ((r : Int) * (q : Int)) y (by rw [← hy]; simp) h2
  clear hx hy
  go_enter Tryd.func25, Tryd.ntmps25
  go_wp2_with fail
  go_ret
  exact ⟨ret_b (by simp), bl_alloc (bl_alloc (Below.refl _ _) _) _⟩
set_option maxHeartbeats 1000000 in
theorem equal_any (p q r s : Nat) (w : World) (h1 : p * s ≤ 9223372036854775807) (h2 : r * q ≤ 9223372036854775807) (b1 : p ≤ 9223372036854775807) (b2 : q ≤ 9223372036854775807) (b3 : r ≤ 9223372036854775807) (b4 : s ≤ 9223372036854775807) :
    Calls Tryd.prog 24 #[.agg #[.int .i64 p, .int .i64 q], .agg #[.int .i64 r, .int .i64 s]] w fun e w' => e = .returned (.bool (decide (p * s = r * q))) ∧ Below w.heap.size w w' := by
  obtain ⟨x, hx⟩ : ∃ x, p * s = x := ⟨_, rfl⟩
  obtain ⟨y, hy⟩ : ∃ y, r * q = y := ⟨_, rfl⟩
  rw [hx] at h1 ⊢
  rw [hy] at h2 ⊢
  have w1 := wrap_nat ((p : Int) * (s : Int)) x (by rw [← hx]; simp) h1
  have w2 := wrap_nat ((r : Int) * (q : Int)) y (by rw [← hy]; simp) h2
  clear hx hy
  go_enter Tryd.func24, Tryd.ntmps24
  go_wp2_with fail
  go_ret
  exact ⟨ret_b (by rw [Bool.eq_iff_iff]; simp; omega), bl_alloc (bl_alloc (Below.refl _ _) _) _⟩
end Go.Proofs.YtahgffjkkdbjeaaDoor
namespace Go.Proofs.YtahgffjkkdbjeaaDoor
open Go.ChangeShapes Go.WideShapes Go.RowKit Go.Deep
section
variable {H : Type} {enc : TypeId × Value → H} {P : Program}
/-- Arguments read as they did, in a world that keeps all that lay there. -/
theorem trodAll_stays (hl : laidOutB P = true) {W W' : World} {sp : Nat → Bool} (hb : Below W.heap.size W W') : ∀ {ts : List TypeId} {vs : List Value} {ds : List (DataW H)} {ps : List MemPlace}, (∀ t ∈ ts, P.readableRec t = true ∧ t < P.types.size) →
    DataW.TrodAll enc P W 0 (fun _ => true) true ts vs ds ps → (∀ p ∈ ps, p.block < W.heap.size) → (∀ p ∈ ps, sp p.block = true) → DataW.TrodAll enc P W' 0 sp true ts vs ds ps
  | [], vs, ds, ps, _, h, _, _ => by
    obtain ⟨rfl, rfl, rfl⟩ := trodAll_nil h
    exact trodAll_mk0
  | t :: ts, vs, ds, ps, ht, h, hlt, hsp => by
    obtain ⟨v, vs', d, ds', p, q, rfl, rfl, rfl, h1, h2⟩ := trodAll_cons h
    obtain ⟨hr, hrow⟩ := ht t (by simp)
    exact trodAll_cons_mk (WideElems.Trod_stays hl hr hrow h1 (fun x hx => hb.same (hlt x (List.mem_append_left _ hx))) (fun x hx => hsp x (List.mem_append_left _ hx)))
      (trodAll_stays hl hb (fun t' ht' => ht t' (by simp [ht'])) h2 (fun x hx => hlt x (List.mem_append_right _ hx)) (fun x hx => hsp x (List.mem_append_right _ hx)))
/-- What a statement's row asks of a call that returns true and keeps all that lay there. -/
theorem post_law {f : Func} {s : ChangeSpec} {W W' : World} {args : Array Value} {ds : List (DataW H)} {before : List MemPlace} {tb : TypeId} (hsv : s.vars = []) (hfn : s.fn H (ds ++ []) = { results := [.lit (.bool true)], args := ds })
    (hl : laidOutB P = true) (hpt : ∀ t ∈ f.params.toList, P.readableRec t = true ∧ t < P.types.size) (hrt : f.resultTypes = #[tb]) (htb : P.underlying tb = some .bool)
    (hW : DataW.Whole enc P f.params.toList s.vars false W args.toList ds [] before) (hb : Below W.heap.size W W') : s.post enc P f false true false false W args (.bool true) W' := by
  have hlt : ∀ p ∈ before, p.block < W.heap.size := fun p hp => hW.lt p hp
  have hW2 := hW
  obtain ⟨p, q, hA, hV, rfl, _, _⟩ := hW
  rw [hsv] at hV
  obtain ⟨_, rfl⟩ := trodVars_none hV
  rw [List.append_nil] at hlt
  refine ⟨ds, [], _, [], p, [], hW2, ?_, ?_, ?_, ?_, fun h => by cases h⟩
  · rw [hfn, hrt]
    exact trodAll_cons_mk (p := []) (p' := []) (shut_bool htb _) trodAll_mk0
  · rw [hfn]
    exact trodAll_stays hl hb hpt hA hlt (fun x hx => by simpa using hlt x hx)
  · rw [hsv, hfn]
    rfl
  · exact World.keptBut_mono (fun x hx => ⟨by simpa using hx, .inr (.inl (by simpa using hx))⟩) (hb.frame (· ∈ p))
/-- A slice that came in is read as a list. -/
theorem rd_open {α : Type} {encα : α → List Value} {k : Nat} (hk : ∀ x, (encα x).length = k) (hk0 : 0 < k) {good : α → Prop} {W : World} {t e : TypeId} (ht : P.underlying t = some (.slice e)) (hC : P.cellsOf e = k)
    (hel : ∀ (n : Nat) (cs : List Value) (x : DataW H × List MemPlace), DataW.trod enc P W 0 (fun _ => true) true n e cs = some x → ∃ a : α, cs = encα a ∧ good a) {r : Reach} {b0 : Nat} {v : Value} {d : DataW H} {ps : List MemPlace}
    (hv : Value.okWide P W r b0 t v) (h : DataW.Trod enc P W 0 (fun _ => true) true t v d ps) :
    ∃ (a : Option Addr) (n c : Nat) (l : List α), v = .slice a n c ∧ l.length = n ∧ n ≤ 9223372036854775807 ∧ Rd W a (fl encα l) ∧ ∀ i (hi : i < l.length), good l[i] := by
  obtain ⟨a, len, cap, rfl⟩ := okWide_slice ht hv
  obtain ⟨fuel, hf⟩ := h
  rcases open_slice ht hf with ⟨hcs, _⟩ | ⟨a', len', cap', m, n, D, Pl, hcs, hb, hlc, hcm, hm, hx, hi⟩
  · have e2 : (Value.slice a len cap) = .slice none 0 0 := by simpa [Value.cells] using hcs
    simp only [Value.slice.injEq] at e2
    obtain ⟨rfl, rfl, rfl⟩ := e2
    exact ⟨none, 0, 0, [], rfl, rfl, by omega, Rd.nil _ _, fun i hi => absurd hi (by simp)⟩
  · have e2 : (Value.slice a len cap) = .slice (some a') len' cap' := by simpa [Value.cells] using hcs
    simp only [Value.slice.injEq] at e2
    obtain ⟨rfl, rfl, rfl⟩ := e2
    simp only [if_true] at hm
    subst hm
    rw [hC] at hi
    have hex : ∀ i, i < len → ∃ x : α, good x ∧ ∀ j, j < k → W.cell? (a'.add (i * k + j)) = (encα x)[j]? := by
      intro i hil
      obtain ⟨cs', h1, h2⟩ := hi i (by omega)
      obtain ⟨x, rfl, hg⟩ := hel _ _ _ h2
      obtain ⟨_, _, hat⟩ := World.cells?_some h1
      refine ⟨x, hg, fun j hj => ?_⟩
      rw [← Go.Deep.add_add]
      exact hat j hj
    have hls : ∀ n, n ≤ len → ∃ l : List α, l.length = n ∧ ∀ i (hi : i < l.length), good l[i] ∧ ∀ j, j < k → W.cell? (a'.add (i * k + j)) = (encα l[i])[j]? := by
      intro n
      induction n with
      | zero => intro _; exact ⟨[], rfl, fun i hi => absurd hi (by simp)⟩
      | succ n ih =>
        intro hn
        obtain ⟨l, hl, hg⟩ := ih (by omega)
        obtain ⟨x, hx1, hx2⟩ := hex n (by omega)
        refine ⟨l ++ [x], by simp [hl], fun i hi => ?_⟩
        by_cases e3 : i < l.length
        · rw [List.getElem_append_left e3]; exact hg i e3
        · obtain rfl : i = n := by simp at hi; omega
          rw [List.getElem_append_right (by omega)]
          simpa [hl] using ⟨hx1, hx2⟩
    obtain ⟨l, hl, hg⟩ := hls len (Nat.le_refl _)
    refine ⟨some a', len, _, l, rfl, hl, by unfold maxLen at hcm; omega, ?_, fun i hi => (hg i hi).1⟩
    intro h0
    rw [fl_length hk, hl] at h0
    have hlen0 : 0 < len := by
      rcases Nat.eq_zero_or_pos len with e4 | e4
      · rw [e4] at h0; simp at h0
      · exact e4
    have hcell : ∀ i, i < len * k → W.cell? (a'.add i) = (fl encα l)[i]? := by
      intro i hi
      have hq : i / k < len := (Nat.div_lt_iff_lt_mul hk0).2 hi
      have hr : i % k < k := Nat.mod_lt _ hk0
      have e5 : i / k * k + i % k = i := by rw [Nat.mul_comm]; exact Nat.div_add_mod i k
      have h1 := (hg (i / k) (by rw [hl]; exact hq)).2 (i % k) hr
      have h2 := fl_getElem? hk l (i / k) (i % k) hr
      have hq2 : i / k < l.length := by rw [hl]; exact hq
      rw [List.getElem?_eq_getElem hq2] at h2
      simp only [Option.bind_some] at h2
      rw [e5] at h1 h2
      rw [h1, h2]
    obtain ⟨bb, off, sub⟩ := a'
    have hs0 := hcell 0 h0
    have hne : (fl encα l)[0]? = some ((fl encα l)[0]'(by rw [fl_length hk, hl]; exact h0)) := List.getElem?_eq_getElem _
    rw [hne] at hs0
    have hsub : sub = none := by
      cases sub with
      | none => rfl
      | some z =>
        simp only [Addr.add, if_true, World.cell?, Option.isSome_some] at hs0
        split at hs0 <;> cases hs0
    subst hsub
    refine ⟨bb, off, rfl, World.block_lt_of_cell? W _ hs0, fun i hi => ?_⟩
    rw [fl_length hk, hl] at hi
    have h1 := hcell i hi
    rw [List.getElem?_eq_getElem (by rw [fl_length hk, hl]; exact hi)] at h1
    rw [List.getD_eq_getElem?_getD, List.getElem?_eq_getElem (by rw [fl_length hk, hl]; exact hi)]
    refine Eq.trans ?_ h1
    by_cases hi0 : i = 0
    · subst hi0; rfl
    · simp only [Addr.add, if_neg hi0]
end
end Go.Proofs.YtahgffjkkdbjeaaDoor
namespace Go.Proofs.YtahgffjkkdbjeaaDoor
open Go.ChangeShapes Go.WideShapes Go.ChangeAt Go.RowKit Go.Deep
theorem own : ownKnob Tryd.prog.godebug = none := by kernel_rfl
theorem laidOut : laidOutB Tryd.prog = true := by kernel_rfl
/-- The cells of a table. -/
def tabCells (d : DataW Unit) : Array Value :=
  match d with
  | .agg ps => (ps.map fun x => match x with
    | .lit (.int k n) => Value.int k n
    | _ => undef).toArray
  | _ => #[]
def laidOn (P : Program) : List (String × DataW Unit) → World → World
  | [], w => w
  | (n, d) :: r, w => laidOn P r { w with heap := w.heap.modify ((P.globalNamed n).getD 0) fun
      | .cells _ t frozen => .cells (tabCells d) t frozen
      | o => o }
/-- A world that holds the tables. -/
noncomputable def laidWorld (os : Os) : World := laidOn Tryd.prog Rows.glottoAsksRow.laid (World.holding Tryd.prog os ⟨#[], #[], []⟩)
theorem list_two {α : Type} : ∀ {l : List α}, l.length = 2 → ∃ a b, l = [a, b]
  | [a, b], _ => ⟨a, b, rfl⟩
def IntOk (x : Int) : Prop := -9223372036854775808 ≤ x ∧ x ≤ 9223372036854775807
def StrOk (x : ByteArray) : Prop := x.size ≤ 9223372036854775807
def FrOk (x : Fr) : Prop := x.1 ≤ 9223372036854775807 ∧ x.2 ≤ 9223372036854775807
theorem rd_ints {H : Type} {enc : TypeId × Value → H} {W : World} (n : Nat) (cs : List Value) (x : DataW H × List MemPlace) (h : DataW.trod enc Tryd.prog W 0 (fun _ => true) true n 3 cs = some x) : ∃ a : Int, cs = encI a ∧ IntOk a := by
  obtain ⟨z, rfl, _, hw⟩ := DataW.trod_int Tryd.underlying3 h
  exact ⟨z, rfl, bounds_i64 hw⟩
theorem rd_strs {H : Type} {enc : TypeId × Value → H} {W : World} (n : Nat) (cs : List Value) (x : DataW H × List MemPlace) (h : DataW.trod enc Tryd.prog W 0 (fun _ => true) true n 9 cs = some x) : ∃ a : ByteArray, cs = encS a ∧ StrOk a := by
  obtain ⟨z, rfl, _, hw⟩ := DataW.trod_string Tryd.underlying9 h
  exact ⟨z, rfl, by unfold StrOk; unfold maxLen at hw; omega⟩
theorem cells2 : Tryd.prog.cellsOf 2 = 1 := by kernel_rfl
theorem cells3 : Tryd.prog.cellsOf 3 = 1 := by kernel_rfl
theorem cells9 : Tryd.prog.cellsOf 9 = 1 := by kernel_rfl
theorem cells40 : Tryd.prog.cellsOf 40 = 2 := by kernel_rfl
theorem rd_frs {H : Type} {enc : TypeId × Value → H} {W : World} (n : Nat) (cs : List Value) (x : DataW H × List MemPlace) (h : DataW.trod enc Tryd.prog W 0 (fun _ => true) true n 40 cs = some x) : ∃ a : Fr, cs = encFr a ∧ FrOk a := by
  obtain ⟨xs, m, _, _, hlen, hxs, hf⟩ := DataW.trod_struct Tryd.underlying40 h
  rw [cells40] at hlen
  obtain ⟨c0, c1, rfl⟩ := list_two hlen
  obtain ⟨x0, x1, rfl⟩ := list_two hxs
  have h0 : DataW.trod enc Tryd.prog W 0 (fun _ => true) true m 2 ([c0, c1].take (Tryd.prog.cellsOf 2)) = some x0 := hf 0 _ rfl
  have h1 : DataW.trod enc Tryd.prog W 0 (fun _ => true) true m 2 (([c0, c1].drop 1).take (Tryd.prog.cellsOf 2)) = some x1 := hf 1 _ rfl
  rw [cells2] at h0 h1
  obtain ⟨z0, e0, _, w0⟩ := DataW.trod_int Tryd.underlying2 h0
  obtain ⟨z1, e1, _, w1⟩ := DataW.trod_int Tryd.underlying2 h1
  refine ⟨(z0, z1), ?_, (bounds_i64 w0).2, (bounds_i64 w1).2⟩
  simp at e0 e1
  rw [e0, e1]
  rfl
set_option maxRecDepth 100000 in
theorem open_frs {H : Type} {enc : TypeId × Value → H} {W : World} {r : Reach} {b0 : Nat} {v : Value} {d : DataW H} {ps : List MemPlace} (hv : Value.okWide Tryd.prog W r b0 22 v) (h : DataW.Trod enc Tryd.prog W 0 (fun _ => true) true 22 v d ps) :
    ∃ (a : Option Addr) (n c : Nat) (l : List Fr), v = .slice a n c ∧ l.length = n ∧ n ≤ 9223372036854775807 ∧ Rd W a (fl encFr l) ∧ FitFr l := by
  obtain ⟨a, n, c, l, h1, h2, h3, h4, h5⟩ := rd_open encFr_len (by omega) (good := FrOk) Tryd.underlying22 cells40 rd_frs hv h
  refine ⟨a, n, c, l, h1, h2, h3, h4, fun i hi => ?_⟩
  have h6 := h5 i hi
  unfold FrOk at h6
  rw [show fN l i = l[i].1 by simp [fN, hi], show fD l i = l[i].2 by simp [fD, hi]]
  exact h6
end Go.Proofs.YtahgffjkkdbjeaaDoor
namespace Go.Proofs.YtahgffjkkdbjeaaDoor
open Go.ChangeShapes Go.WideShapes Go.ChangeAt Go.RowKit Go.Deep
theorem cells48 : Tryd.prog.cellsOf 48 = 1 := by kernel_rfl
def U16Ok (x : Int) : Prop := 0 ≤ x ∧ x ≤ 65535
theorem rd_u16s {H : Type} {enc : TypeId × Value → H} {W : World} (n : Nat) (cs : List Value) (x : DataW H × List MemPlace) (h : DataW.trod enc Tryd.prog W 0 (fun _ => true) true n 48 cs = some x) : ∃ a : Int, cs = encU a ∧ U16Ok a := by
  obtain ⟨z, rfl, _, hw⟩ := DataW.trod_int Tryd.underlying48 h
  exact ⟨z, rfl, bounds_u16 hw⟩
set_option maxRecDepth 100000 in
theorem open_u16s {H : Type} {enc : TypeId × Value → H} {W : World} {r : Reach} {b0 : Nat} {v : Value} {d : DataW H} {ps : List MemPlace} (hv : Value.okWide Tryd.prog W r b0 34 v) (h : DataW.Trod enc Tryd.prog W 0 (fun _ => true) true 34 v d ps) :
    ∃ (a : Option Addr) (n c : Nat) (l : List Int), v = .slice a n c ∧ l.length = n ∧ n ≤ 9223372036854775807 ∧ Rd W a (fl encU l) ∧ ∀ i, i < n → 0 ≤ uA l i ∧ uA l i ≤ 65535 := by
  obtain ⟨a, n, c, l, h1, h2, h3, h4, h5⟩ := rd_open encU_len (by omega) (good := U16Ok) Tryd.underlying34 cells48 rd_u16s hv h
  refine ⟨a, n, c, l, h1, h2, h3, h4, fun i hi => ?_⟩
  have h6 := h5 i (by omega)
  unfold U16Ok at h6
  rw [show uA l i = l[i]'(by omega) by simp [uA, h2, hi]]
  exact h6
end Go.Proofs.YtahgffjkkdbjeaaDoor
namespace Go.Proofs.YtahgffjkkdbjeaaDoor
open Go.ChangeShapes Go.WideShapes Go.RowKit Go.Deep
theorem weightsAll_mem {H : Type} {P : Program} {e : TypeId} {d : DataW H} : ∀ {l : List (DataW H)}, d ∈ l → ∀ n ∈ d.weights P e, n ∈ DataW.weightsAll P e l
  | x :: l, h, n, hn => by
    simp only [DataW.weightsAll, List.mem_append]
    rcases List.mem_cons.1 h with rfl | h
    · exact .inl hn
    · exact .inr (weightsAll_mem h n hn)
/-- Each argument's weights are bounded. -/
theorem sized_arg {H : Type} {P : Program} {ts : List TypeId} {ds : List (DataW H)} (h : (DataW.weightsEach P ts ds).all (· ≤ reachBytes) = true) {j : Nat} {t : TypeId} {d : DataW H} (ht : ts[j]? = some t) (hd : ds[j]? = some d) : ∀ y ∈ d.weights P t, y ≤ reachBytes :=
  fun y hy => of_decide_eq_true (List.all_eq_true.1 h _ (DataW.weights_mem_each ht hd y hy))
section
variable {H : Type} {enc : TypeId × Value → H} {P : Program}
/-- The cells of a slice that came in: read as a list; its elements' sizes bounded. -/
theorem rd_cellsS {α : Type} {encα : α → List Value} {k : Nat} (hk : ∀ x, (encα x).length = k) (hk0 : 0 < k) {good : α → Prop} {W : World} {t e : TypeId} (ht : P.underlying t = some (.slice e)) (hC : P.cellsOf e = k)
    (hel : ∀ (n : Nat) (cs : List Value) (x : DataW H × List MemPlace), DataW.trod enc P W 0 (fun _ => true) true n e cs = some x → (∀ y ∈ x.1.weights P e, y ≤ reachBytes) → ∃ a : α, cs = encα a ∧ good a) {fuel : Nat} {cs : List Value} {x : DataW H × List MemPlace}
    (hf : DataW.trod enc P W 0 (fun _ => true) true fuel t cs = some x) (hsz : ∀ y ∈ x.1.weights P t, y ≤ reachBytes) :
    ∃ (a : Option Addr) (n c : Nat) (l : List α), cs = [.slice a n c] ∧ l.length = n ∧ n ≤ 9223372036854775807 ∧ n * P.bytesOf e ≤ reachBytes ∧ (a = none → n = 0 ∧ c = 0) ∧ Rd W a (fl encα l) ∧ ∀ i (hi : i < l.length), good l[i] := by
  rcases open_slice ht hf with ⟨rfl, _⟩ | ⟨a', len, cap, m, n, D, Pl, rfl, hb, hlc, hcm, hm, hx, hi⟩
  · exact ⟨none, 0, 0, [], rfl, rfl, by omega, by simp, fun _ => ⟨rfl, rfl⟩, Rd.nil _ _, fun i hi => absurd hi (by simp)⟩
  · have hwt : ∀ i, i < len → ∀ y ∈ (D i).weights P e, y ≤ reachBytes := by
      intro i hil y hy
      refine hsz y ?_
      rw [hx]
      simp only [DataW.weights, ht, List.mem_cons, List.mem_append]
      exact .inr (.inl (weightsAll_mem (List.mem_map.2 ⟨i, List.mem_range.2 hil, rfl⟩) y hy))
    have hlen : len * P.bytesOf e ≤ reachBytes := by
      have h1 := hsz ((((List.range len).map D).length + ((List.range (m - len)).map fun j => D (len + j)).length) * P.bytesOf e) (by rw [hx]; simp only [DataW.weights, ht, List.mem_cons, true_or])
      refine Nat.le_trans (Nat.mul_le_mul_right _ ?_) h1
      simp
    simp only [if_true] at hm
    subst hm
    rw [hC] at hi
    have hex : ∀ i, i < len → ∃ x : α, good x ∧ ∀ j, j < k → W.cell? (a'.add (i * k + j)) = (encα x)[j]? := by
      intro i hil
      obtain ⟨cs', h1, h2⟩ := hi i (by omega)
      obtain ⟨x, rfl, hg⟩ := hel _ _ _ h2 (hwt i hil)
      obtain ⟨_, _, hat⟩ := World.cells?_some h1
      refine ⟨x, hg, fun j hj => ?_⟩
      rw [← Go.Deep.add_add]
      exact hat j hj
    have hls : ∀ n, n ≤ len → ∃ l : List α, l.length = n ∧ ∀ i (hi : i < l.length), good l[i] ∧ ∀ j, j < k → W.cell? (a'.add (i * k + j)) = (encα l[i])[j]? := by
      intro n
      induction n with
      | zero => intro _; exact ⟨[], rfl, fun i hi => absurd hi (by simp)⟩
      | succ n ih =>
        intro hn
        obtain ⟨l, hl, hg⟩ := ih (by omega)
        obtain ⟨x, hx1, hx2⟩ := hex n (by omega)
        refine ⟨l ++ [x], by simp [hl], fun i hi => ?_⟩
        by_cases e3 : i < l.length
        · rw [List.getElem_append_left e3]; exact hg i e3
        · obtain rfl : i = n := by simp at hi; omega
          rw [List.getElem_append_right (by omega)]
          simpa [hl] using ⟨hx1, hx2⟩
    obtain ⟨l, hl, hg⟩ := hls len (Nat.le_refl _)
    refine ⟨some a', len, _, l, rfl, hl, by unfold maxLen at hcm; omega, hlen, (fun e => by cases e), ?_, fun i hi => (hg i hi).1⟩
    intro h0
    rw [fl_length hk, hl] at h0
    have hlen0 : 0 < len := by
      rcases Nat.eq_zero_or_pos len with e4 | e4
      · rw [e4] at h0; simp at h0
      · exact e4
    have hcell : ∀ i, i < len * k → W.cell? (a'.add i) = (fl encα l)[i]? := by
      intro i hi
      have hq : i / k < len := (Nat.div_lt_iff_lt_mul hk0).2 hi
      have hr : i % k < k := Nat.mod_lt _ hk0
      have e5 : i / k * k + i % k = i := by rw [Nat.mul_comm]; exact Nat.div_add_mod i k
      have h1 := (hg (i / k) (by rw [hl]; exact hq)).2 (i % k) hr
      have h2 := fl_getElem? hk l (i / k) (i % k) hr
      have hq2 : i / k < l.length := by rw [hl]; exact hq
      rw [List.getElem?_eq_getElem hq2] at h2
      simp only [Option.bind_some] at h2
      rw [e5] at h1 h2
      rw [h1, h2]
    obtain ⟨bb, off, sub⟩ := a'
    have hs0 := hcell 0 h0
    have hne : (fl encα l)[0]? = some ((fl encα l)[0]'(by rw [fl_length hk, hl]; exact h0)) := List.getElem?_eq_getElem _
    rw [hne] at hs0
    have hsub : sub = none := by
      cases sub with
      | none => rfl
      | some z =>
        simp only [Addr.add, if_true, World.cell?, Option.isSome_some] at hs0
        split at hs0 <;> cases hs0
    subst hsub
    refine ⟨bb, off, rfl, World.block_lt_of_cell? W _ hs0, fun i hi => ?_⟩
    rw [fl_length hk, hl] at hi
    have h1 := hcell i hi
    rw [List.getElem?_eq_getElem (by rw [fl_length hk, hl]; exact hi)] at h1
    rw [List.getD_eq_getElem?_getD, List.getElem?_eq_getElem (by rw [fl_length hk, hl]; exact hi)]
    refine Eq.trans ?_ h1
    by_cases hi0 : i = 0
    · subst hi0; rfl
    · simp only [Addr.add, if_neg hi0]
/-- A slice that came in: read as a list; its elements' sizes bounded. -/
theorem rd_openS {α : Type} {encα : α → List Value} {k : Nat} (hk : ∀ x, (encα x).length = k) (hk0 : 0 < k) {good : α → Prop} {W : World} {t e : TypeId} (ht : P.underlying t = some (.slice e)) (hC : P.cellsOf e = k)
    (hel : ∀ (n : Nat) (cs : List Value) (x : DataW H × List MemPlace), DataW.trod enc P W 0 (fun _ => true) true n e cs = some x → (∀ y ∈ x.1.weights P e, y ≤ reachBytes) → ∃ a : α, cs = encα a ∧ good a) {r : Reach} {b0 : Nat} {v : Value} {d : DataW H} {ps : List MemPlace}
    (hv : Value.okWide P W r b0 t v) (h : DataW.Trod enc P W 0 (fun _ => true) true t v d ps) (hsz : ∀ y ∈ d.weights P t, y ≤ reachBytes) :
    ∃ (a : Option Addr) (n c : Nat) (l : List α), v = .slice a n c ∧ l.length = n ∧ n ≤ 9223372036854775807 ∧ n * P.bytesOf e ≤ reachBytes ∧ (a = none → n = 0 ∧ c = 0) ∧ Rd W a (fl encα l) ∧ ∀ i (hi : i < l.length), good l[i] := by
  obtain ⟨a, len, cap, rfl⟩ := okWide_slice ht hv
  obtain ⟨fuel, hf⟩ := h
  obtain ⟨a', n, c, l, hcs, h1⟩ := rd_cellsS hk hk0 ht hC hel hf hsz
  have e2 : (Value.slice a len cap) = .slice a' n c := by simpa [Value.cells] using hcs
  exact ⟨a', n, c, l, e2, h1⟩
end
theorem cells29 : Tryd.prog.cellsOf 29 = 1 := by kernel_rfl
theorem cells42 : Tryd.prog.cellsOf 42 = 5 := by kernel_rfl
theorem bytes3 : Tryd.prog.bytesOf 3 = 8 := by kernel_rfl
theorem bytes9 : Tryd.prog.bytesOf 9 = 16 := by kernel_rfl
theorem bytes29 : Tryd.prog.bytesOf 29 = 24 := by kernel_rfl
theorem bytes42 : Tryd.prog.bytesOf 42 = 40 := by kernel_rfl
/-- A row that came in: its numbers, at most what memory holds. -/
def RowGd (W : World) (r : Rw) : Prop := ∃ l : List Int, Rd W r.1 (fl encI l) ∧ l.length = r.2.1 ∧ r.2.1 * 8 ≤ 140737488351232 ∧ (r.1 = none → r.2.1 = 0 ∧ r.2.2 = 0) ∧ ∀ i (hi : i < l.length), IntOk l[i]
theorem rd_row {H : Type} {enc : TypeId × Value → H} {W : World} (n : Nat) (cs : List Value) (x : DataW H × List MemPlace) (h : DataW.trod enc Tryd.prog W 0 (fun _ => true) true n 29 cs = some x) (hsz : ∀ y ∈ x.1.weights Tryd.prog 29, y ≤ reachBytes) : ∃ a : Rw, cs = encR a ∧ RowGd W a := by
  obtain ⟨a, m, c, l, h1, h2, h3, h4, h5, h6, h7⟩ := rd_cellsS (encα := encI) (k := 1) (fun _ => rfl) (by omega) (good := IntOk) Tryd.underlying29 cells3 (fun n cs x h _ => rd_ints n cs x h) h hsz
  rw [bytes3] at h4
  exact ⟨(a, m, c), h1, l, h6, h2, h4, h5, h7⟩
set_option maxRecDepth 100000 in
/-- A slice of rows that came in. -/
theorem open_rows {H : Type} {enc : TypeId × Value → H} {W : World} {r : Reach} {b0 : Nat} {v : Value} {d : DataW H} {ps : List MemPlace} (hv : Value.okWide Tryd.prog W r b0 49 v) (h : DataW.Trod enc Tryd.prog W 0 (fun _ => true) true 49 v d ps) (hsz : ∀ y ∈ d.weights Tryd.prog 49, y ≤ reachBytes) :
    ∃ (a : Option Addr) (n c : Nat) (rs : List Rw) (L : List (List Int)), v = .slice a n c ∧ L.length = n ∧ n ≤ 5864062014634 ∧ Rows W a rs L ∧ (∀ i, i < n → (rwk L i).length ≤ 17592186043904) ∧ (∀ i, i < n → rA rs i = none → rN rs i = 0 ∧ rC rs i = 0) := by
  obtain ⟨a, n, c, l, h1, h2, h3, h4, h5, h6, h7⟩ := rd_openS encR_len (by omega) (good := RowGd W) Tryd.underlying49 cells29 rd_row hv h hsz
  rw [bytes29] at h4
  have hc : ∀ i, ∃ x : List Int, ∀ hi : i < l.length, Rd W (l[i]).1 (fl encI x) ∧ x.length = (l[i]).2.1 ∧ (l[i]).2.1 * 8 ≤ 140737488351232 ∧ ((l[i]).1 = none → (l[i]).2.1 = 0 ∧ (l[i]).2.2 = 0) := by
    intro i
    by_cases hi : i < l.length
    · obtain ⟨x, g1, g2, g3, g4, _⟩ := h7 i hi
      exact ⟨x, fun _ => ⟨g1, g2, g3, g4⟩⟩
    · exact ⟨[], fun h => absurd h hi⟩
  obtain ⟨f, hf⟩ := Classical.axiomOfChoice hc
  have hA : ∀ i, i < l.length → rA l i = (l.getD i (none, 0, 0)).1 := fun _ _ => rfl
  have hg : ∀ i (hi : i < l.length), rA l i = l[i].1 ∧ rN l i = l[i].2.1 ∧ rC l i = l[i].2.2 := fun i hi => by simp [rA, rN, rC, hi]
  have hr : ∀ i, i < l.length → rwk ((List.range n).map f) i = f i := fun i hi => by simp [rwk, h2 ▸ hi]
  refine ⟨a, n, c, l, (List.range n).map f, h1, by simp, by unfold reachBytes at h4; omega, ⟨h6, by simp [h2], fun i hi => ?_⟩, fun i hi => ?_, fun i hi => ?_⟩
  · have hi2 : i < l.length := by simpa [h2] using hi
    rw [hr i hi2, (hg i hi2).1, (hg i hi2).2.1]
    obtain ⟨g1, g2, g3, _⟩ := hf i hi2
    exact ⟨g1, g2.symm, by omega⟩
  · have hi2 : i < l.length := by rw [h2]; exact hi
    rw [hr i hi2]
    obtain ⟨g1, g2, g3, _⟩ := hf i hi2
    omega
  · have hi2 : i < l.length := by rw [h2]; exact hi
    rw [(hg i hi2).1, (hg i hi2).2.1, (hg i hi2).2.2]
    exact (hf i hi2).2.2.2
end Go.Proofs.YtahgffjkkdbjeaaDoor
