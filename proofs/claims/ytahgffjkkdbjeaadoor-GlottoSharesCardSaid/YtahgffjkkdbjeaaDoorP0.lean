/- Plain laws, no program: fractions in lowest terms, the common denominator, scaled distances. -/
import Derived.Test.YtahgffjkkdbjeaaDoorL1
namespace Go.Proofs.YtahgffjkkdbjeaaDoor
open Go.RowKit

def lowN (x : Fr) : Nat := x.1.toNat / Nat.gcd x.1.toNat x.2.toNat
def lowD (x : Fr) : Nat := x.2.toNat / Nat.gcd x.1.toNat x.2.toNat
def lowF (x : Fr) : Fr := (lowN x, lowD x)
def qN (d : List Fr) (k : Nat) : Nat := lowN (d.getD k (0, 1))
def qD (d : List Fr) (k : Nat) : Nat := lowD (d.getD k (0, 1))
/-- A fraction that is none: N below 0, or D below 1. -/
def badFr (x : Fr) : Bool := decide (x.2 < 1) || decide (x.1 < 0)
/-- The numbers fit in 64 bits. -/
def FitFr (d : List Fr) : Prop := ∀ i, i < d.length → fN d i ≤ 9223372036854775807 ∧ fD d i ≤ 9223372036854775807
theorem fr_nats {d : List Fr} (hb : d.any badFr = false) (hf : FitFr d) (i : Nat) (hi : i < d.length) :
    ∃ p q : Nat, fN d i = p ∧ fD d i = q ∧ p ≤ 9223372036854775807 ∧ 0 < q ∧ q ≤ 9223372036854775807 ∧ qN d i = p / Nat.gcd p q ∧ qD d i = q / Nat.gcd p q := by
  obtain ⟨h1, h2⟩ := hf i hi
  have h3 := List.any_eq_false.1 hb d[i] (List.getElem_mem hi)
  simp only [badFr, Bool.or_eq_true, decide_eq_true_eq, not_or] at h3
  have e1 : fN d i = d[i].1 := by simp [fN, hi]
  have e2 : fD d i = d[i].2 := by simp [fD, hi]
  have e3 : d.getD i (0, 1) = d[i] := by simp [hi]
  refine ⟨(fN d i).toNat, (fD d i).toNat, by omega, by omega, by omega, by omega, by omega, ?_, ?_⟩
  · rw [qN, lowN, e3, e1, e2]
  · rw [qD, lowD, e3, e1, e2]
theorem q_bounds {d : List Fr} (hb : d.any badFr = false) (hf : FitFr d) (i : Nat) (hi : i < d.length) : qN d i ≤ 9223372036854775807 ∧ 0 < qD d i ∧ qD d i ≤ 9223372036854775807 := by
  obtain ⟨p, q, _, _, hp, hq, hq2, e1, e2⟩ := fr_nats hb hf i hi
  rw [e1, e2]
  have hg : 0 < Nat.gcd p q := Nat.gcd_pos_of_pos_right _ hq
  exact ⟨Nat.le_trans (Nat.div_le_self _ _) hp, Nat.div_pos (Nat.gcd_le_right _ hq) hg, Nat.le_trans (Nat.div_le_self _ _) hq2⟩
theorem fN_low (d : List Fr) (i : Nat) (hi : i < d.length) : fN (d.map lowF) i = (qN d i : Int) := by simp [fN, qN, lowF, hi]
theorem fD_low (d : List Fr) (i : Nat) (hi : i < d.length) : fD (d.map lowF) i = (qD d i : Int) := by simp [fD, qD, lowF, hi]

/-- Distances are symmetric, and 0 from a language to itself. -/
def SymP (d : List Fr) (n a b : Nat) : Prop := (qN d (a * n + b) = qN d (b * n + a) ∧ qD d (a * n + b) = qD d (b * n + a)) ∧ (a = b → qN d (a * n + b) = 0)
instance (d : List Fr) (n a b : Nat) : Decidable (SymP d n a b) := by unfold SymP; infer_instance
def SymOk (d : List Fr) (n : Nat) : Prop := ∀ a, a < n → ∀ b, b < a + 1 → SymP d n a b
instance (d : List Fr) (n : Nat) : Decidable (SymOk d n) := by unfold SymOk; infer_instance

def cmStep (c x : Nat) : Option Nat := if 1073741824 < x then none else if 1073741824 < c * (x / Nat.gcd c x) then none else some (c * (x / Nat.gcd c x))
/-- The common denominator of the first k. -/
def cmA (d : List Fr) : Nat → Option Nat
  | 0 => some 1
  | k + 1 => (cmA d k).bind fun c => cmStep c (qD d k)
theorem cmA_none {d : List Fr} {k : Nat} (h : cmA d k = none) {m : Nat} (hm : k ≤ m) : cmA d m = none := by
  obtain ⟨j, rfl⟩ := Nat.exists_eq_add_of_le hm
  clear hm
  induction j with
  | zero => exact h
  | succ j ih => rw [← Nat.add_assoc, cmA, ih]; rfl
theorem cmStep_le {c x c' : Nat} (h : cmStep c x = some c') : c' ≤ 1073741824 ∧ x ≤ 1073741824 ∧ c' = c * (x / Nat.gcd c x) := by
  unfold cmStep at h
  split at h
  · cases h
  · split at h
    · cases h
    · simp only [Option.some.injEq] at h
      omega
theorem gcd_quot {c x : Nat} : c * (x / Nat.gcd c x) = c / Nat.gcd c x * x := by
  have h1 : Nat.gcd c x ∣ x := Nat.gcd_dvd_right _ _
  have h2 : Nat.gcd c x ∣ c := Nat.gcd_dvd_left _ _
  rw [← Nat.mul_div_assoc _ h1, Nat.mul_comm c x, Nat.mul_div_assoc _ h2, Nat.mul_comm]
theorem cmStep_dvd {c x c' : Nat} (h : cmStep c x = some c') : c ∣ c' ∧ x ∣ c' := by
  obtain ⟨_, _, e⟩ := cmStep_le h
  rw [e]
  exact ⟨Nat.dvd_mul_right _ _, by rw [gcd_quot]; exact Nat.dvd_mul_left _ _⟩
theorem cmStep_pos {c x c' : Nat} (h : cmStep c x = some c') (hc : 0 < c) (hx : 0 < x) : 0 < c' := by
  obtain ⟨_, _, e⟩ := cmStep_le h
  rw [e]
  exact Nat.mul_pos hc (Nat.div_pos (Nat.gcd_le_right _ hx) (Nat.gcd_pos_of_pos_right _ hx))
theorem cmA_some {d : List Fr} (hq : ∀ i, i < d.length → 0 < qD d i) {k c : Nat} (hk : k ≤ d.length) (h : cmA d k = some c) : 0 < c ∧ c ≤ 1073741824 ∧ ∀ i, i < k → qD d i ∣ c ∧ qD d i ≤ 1073741824 := by
  induction k generalizing c with
  | zero => simp only [cmA, Option.some.injEq] at h; subst h; exact ⟨by omega, by omega, fun i hi => absurd hi (by omega)⟩
  | succ k ih =>
    simp only [cmA, Option.bind_eq_some_iff] at h
    obtain ⟨c0, h0, h1⟩ := h
    obtain ⟨a1, a2, a3⟩ := ih (by omega) h0
    obtain ⟨b1, b2, _⟩ := cmStep_le h1
    obtain ⟨d1, d2⟩ := cmStep_dvd h1
    refine ⟨cmStep_pos h1 a1 (hq k (by omega)), b1, fun i hi => ?_⟩
    by_cases e : i = k
    · subst e; exact ⟨d2, b2⟩
    · obtain ⟨e1, e2⟩ := a3 i (by omega)
      exact ⟨Nat.dvd_trans e1 d1, e2⟩
/-- The distance k, multiplied by the common denominator c. -/
def scK (d : List Fr) (c k : Nat) : Nat := qN d k * (c / qD d k)
def overK (d : List Fr) (c k : Nat) : Bool := decide (1073741824 / (c / qD d k) < qN d k)
def OverAny (d : List Fr) (c : Nat) : Prop := ∃ k, k < d.length ∧ overK d c k = true
instance (d : List Fr) (c : Nat) : Decidable (OverAny d c) := by unfold OverAny; infer_instance
/-- The common denominator, or the first error of n and d. -/
def scaledS (n : Int) (d : List Fr) : Except Int Nat :=
  if n < 1 ∨ 24 < n then .error 3
  else if (d.length : Int) ≠ n * n ∨ d.any badFr = true then .error 2
  else if ¬ SymOk d n.toNat then .error 2
  else match cmA d d.length with
    | none => .error 7
    | some c => if OverAny d c then .error 7 else .ok c
theorem scK_le {d : List Fr} {c k : Nat} (hc : 0 < c) (hd : qD d k ∣ c) (h : overK d c k = false) : scK d c k ≤ 1073741824 := by
  unfold overK at h
  simp only [decide_eq_false_iff_not, Nat.not_lt] at h
  unfold scK
  exact Nat.le_trans (Nat.mul_le_mul_right _ h) (Nat.div_mul_le_self _ _)
end Go.Proofs.YtahgffjkkdbjeaaDoor
