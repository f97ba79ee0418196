/- Plain laws: shares of cognate words. -/
import Derived.Test.YtahgffjkkdbjeaaDoorW1
namespace Go.Proofs.YtahgffjkkdbjeaaDoor
open Go.RowKit
/-- Row k. -/
def rwk (L : List (List Int)) (k : Nat) : List Int := L.getD k []
/-- A slice of slices of numbers is read. -/
structure Rows (w : World) (a : Option Addr) (rs : List Rw) (L : List (List Int)) : Prop where
  rd : Rd w a (fl encR rs)
  len : rs.length = L.length
  row : ∀ i, i < L.length → Rd w (rA rs i) (fl encI (rwk L i)) ∧ rN rs i = (rwk L i).length ∧ rN rs i ≤ 1152921504606846976
theorem Rows.bl {w w' : World} {a : Option Addr} {rs : List Rw} {L : List (List Int)} (h : Rows w a rs L) (hb : Below w.heap.size w w') : Rows w' a rs L :=
  ⟨h.rd.bl hb, h.len, fun i hi => ⟨(h.row i hi).1.bl hb, (h.row i hi).2⟩⟩
def longR (r : Rw) : Bool := decide (24 < r.2.1)
def longL (r : List Int) : Bool := decide (24 < r.length)
theorem Rows.long {w : World} {a : Option Addr} {rs : List Rw} {L : List (List Int)} (h : Rows w a rs L) : rs.any longR = L.any longL := by
  rw [Bool.eq_iff_iff, List.any_eq_true, List.any_eq_true]
  have key : ∀ i (hi : i < rs.length) (hi2 : i < L.length), longR rs[i] = longL L[i] := fun i hi hi2 => by
    have h1 := (h.row i hi2).2.1
    simp only [rN, rwk, List.getD_eq_getElem?_getD, List.getElem?_eq_getElem hi, List.getElem?_eq_getElem hi2, Option.getD_some] at h1
    simp only [longR, longL, h1]
  constructor
  · rintro ⟨x, hx, h1⟩
    obtain ⟨i, hi, rfl⟩ := List.getElem_of_mem hx
    have hi2 : i < L.length := by rw [← h.len]; exact hi
    exact ⟨L[i], List.getElem_mem hi2, by rw [← key i hi hi2]; exact h1⟩
  · rintro ⟨x, hx, h1⟩
    obtain ⟨i, hi, rfl⟩ := List.getElem_of_mem hx
    have hi2 : i < rs.length := by rw [h.len]; exact hi
    exact ⟨rs[i], List.getElem_mem hi2, by rw [key i hi2 hi]; exact h1⟩
def RowOk (L : List (List Int)) (i : Nat) : Prop := (rwk L i).length = (rwk L 0).length ∧ (rwk L i).any under = false
instance (L : List (List Int)) (i : Nat) : Decidable (RowOk L i) := by unfold RowOk; infer_instance
def AllOk (L : List (List Int)) : Prop := ∀ i, i < L.length → RowOk L i
instance (L : List (List Int)) : Decidable (AllOk L) := by unfold AllOk; infer_instance
/-- How many languages there are, or the error. -/
def sharesE (L : List (List Int)) : Except Int Nat := if 256 < L.length ∨ L.any longL = true then .error 12 else if ¬ AllOk L then .error 2 else .ok (rwk L 0).length
/-- In row k both have a word; .. cognate words. -/
def bothR (L : List (List Int)) (a b k : Nat) : Prop := 0 ≤ iA (rwk L k) a ∧ 0 ≤ iA (rwk L k) b
instance (L : List (List Int)) (a b k : Nat) : Decidable (bothR L a b k) := by unfold bothR; infer_instance
def bothK (L : List (List Int)) (a b : Nat) : Nat → Nat
  | 0 => 0
  | k + 1 => bothK L a b k + if bothR L a b k then 1 else 0
def sameK (L : List (List Int)) (a b : Nat) : Nat → Nat
  | 0 => 0
  | k + 1 => sameK L a b k + if bothR L a b k ∧ iA (rwk L k) a = iA (rwk L k) b then 1 else 0
theorem bothK_le (L : List (List Int)) (a b : Nat) : ∀ k, bothK L a b k ≤ k
  | 0 => Nat.le_refl _
  | k + 1 => by have := bothK_le L a b k; rw [bothK]; split <;> omega
theorem sameK_le (L : List (List Int)) (a b : Nat) : ∀ k, sameK L a b k ≤ bothK L a b k
  | 0 => Nat.le_refl _
  | k + 1 => by
    have := sameK_le L a b k
    rw [sameK, bothK]
    by_cases h : bothR L a b k
    · rw [if_pos h]; split <;> omega
    · rw [if_neg (fun h2 => h h2.1), if_neg h]; omega
theorem bothR_comm (L : List (List Int)) (a b k : Nat) : bothR L a b k ↔ bothR L b a k := ⟨fun h => ⟨h.2, h.1⟩, fun h => ⟨h.2, h.1⟩⟩
theorem bothK_comm (L : List (List Int)) (a b : Nat) : ∀ k, bothK L a b k = bothK L b a k
  | 0 => rfl
  | k + 1 => by
    rw [bothK, bothK, bothK_comm L a b k]
    by_cases h : bothR L a b k
    · rw [if_pos h, if_pos ((bothR_comm L a b k).1 h)]
    · rw [if_neg h, if_neg (fun h2 => h ((bothR_comm L a b k).2 h2))]
theorem sameK_comm (L : List (List Int)) (a b : Nat) : ∀ k, sameK L a b k = sameK L b a k
  | 0 => rfl
  | k + 1 => by
    rw [sameK, sameK, sameK_comm L a b k]
    by_cases h : bothR L a b k ∧ iA (rwk L k) a = iA (rwk L k) b
    · rw [if_pos h, if_pos ⟨(bothR_comm L a b k).1 h.1, h.2.symm⟩]
    · rw [if_neg h, if_neg (fun h2 => h ⟨(bothR_comm L a b k).2 h2.1, h2.2.symm⟩)]
/-- The share of two languages. -/
def shareF (L : List (List Int)) (a b : Nat) : Fr := lowF ((sameK L a b L.length : Int), ((max (bothK L a b L.length) 1 : Nat) : Int))
theorem shareF_comm (L : List (List Int)) (a b : Nat) : shareF L a b = shareF L b a := by rw [shareF, shareF, bothK_comm, sameK_comm]
def shL (L : List (List Int)) (n : Nat) : List Fr := (List.range (n * n)).map fun k => shareF L (k / n) (k % n)
/-- The shares that are known when all pairs before (a, b) are done. -/
def shP (L : List (List Int)) (n a b : Nat) (k : Nat) : Fr := if max (k / n) (k % n) < a ∨ (max (k / n) (k % n) = a ∧ min (k / n) (k % n) < b) then shareF L (k / n) (k % n) else (0, 0)
theorem shP_row (L : List (List Int)) (n a k : Nat) : shP L n a (a + 1) k = shP L n (a + 1) 0 k := by
  unfold shP
  generalize k / n = i
  generalize k % n = j
  by_cases h : max i j < a ∨ (max i j = a ∧ min i j < a + 1)
  · rw [if_pos h, if_pos (by omega)]
  · rw [if_neg h, if_neg (by omega)]
theorem shP_all (L : List (List Int)) (n k : Nat) (hk : k < n * n) : shP L n n 0 k = shareF L (k / n) (k % n) := by
  have hn : 0 < n := by rcases Nat.eq_zero_or_pos n with h | h; · subst h; simp at hk
                        · exact h
  have h1 : k / n < n := (Nat.div_lt_iff_lt_mul hn).2 hk
  have h2 : k % n < n := Nat.mod_lt _ hn
  exact if_pos (.inl (Nat.max_lt.2 ⟨h1, h2⟩))
/-- A list of fractions, changed at one place. -/
def updF (h : Nat → Fr) (p : Nat) (v : Fr) : Nat → Fr := fun q => if q = p then v else h q
theorem map_updF (N : Nat) (f : Nat → Fr) (p : Nat) (v : Fr) : (List.range N).map (updF f p v) = ((List.range N).map f).set p v := by
  apply List.ext_getElem?
  intro i
  rw [List.getElem?_set]
  by_cases hi : i < N
  · by_cases e : p = i
    · subst e; simp [hi, updF]
    · simp [hi, updF, e]; omega
  · by_cases e : p = i
    · subst e; simp [hi]
    · simp [hi, e]
theorem shP_next (L : List (List Int)) {n a b : Nat} (ha : a < n) (hb : b ≤ a) (k : Nat) : updF (updF (shP L n a b) (a * n + b) (shareF L a b)) (b * n + a) (shareF L a b) k = shP L n a (b + 1) k := by
  have d1 : (a * n + b) / n = a := by rw [Nat.mul_comm, Nat.mul_add_div (by omega), Nat.div_eq_of_lt (by omega), Nat.add_zero]
  have d2 : (a * n + b) % n = b := by rw [Nat.mul_comm, Nat.mul_add_mod, Nat.mod_eq_of_lt (by omega)]
  have d3 : (b * n + a) / n = b := by rw [Nat.mul_comm, Nat.mul_add_div (by omega), Nat.div_eq_of_lt (by omega), Nat.add_zero]
  have d4 : (b * n + a) % n = a := by rw [Nat.mul_comm, Nat.mul_add_mod, Nat.mod_eq_of_lt (by omega)]
  unfold updF
  by_cases e1 : k = b * n + a
  · subst e1
    rw [if_pos rfl, shP, d3, d4, if_pos (by omega), shareF_comm]
  · rw [if_neg e1]
    by_cases e2 : k = a * n + b
    · subst e2
      rw [if_pos rfl, shP, d1, d2, if_pos (by omega)]
    · rw [if_neg e2]
      unfold shP
      have hk : k = k / n * n + k % n := by rw [Nat.mul_comm]; exact (Nat.div_add_mod k n).symm
      have h1 : ¬ (k / n = a ∧ k % n = b) := fun ⟨h1, h2⟩ => e2 (by rw [h1, h2] at hk; exact hk)
      have h2 : ¬ (k / n = b ∧ k % n = a) := fun ⟨h1, h2⟩ => e1 (by rw [h1, h2] at hk; exact hk)
      by_cases h : max (k / n) (k % n) < a ∨ (max (k / n) (k % n) = a ∧ min (k / n) (k % n) < b)
      · rw [if_pos h, if_pos (by omega)]
      · rw [if_neg h, if_neg (by omega)]
end Go.Proofs.YtahgffjkkdbjeaaDoor
