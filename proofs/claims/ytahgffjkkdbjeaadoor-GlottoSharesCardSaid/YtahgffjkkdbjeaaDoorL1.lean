/- The kinds of elements: numbers, strings, fractions, merges, nodes: their cells, and how they are read. -/
import Derived.Test.YtahgffjkkdbjeaaDoorL0
namespace Go.Proofs.YtahgffjkkdbjeaaDoor
open Go.RowKit

abbrev Fr := Int × Int
abbrev Mg := (Int × Int) × Fr × Int
abbrev Nd := Int × ByteArray

def iA (l : List Int) (i : Nat) : Int := (l.getD i 0)
def encI (x : Int) : List Value := [.int .i64 x]
theorem encI_len (x : Int) : (encI x).length = 1 := rfl
theorem rdI {l : List Int} {w : World} {a : Option Addr} (h : Rd w a (fl encI l)) (h0 : 0 < l.length) : ∃ b off, a = some ⟨b, off, none⟩ ∧ b < w.heap.size ∧ ∀ i, i < l.length → w.cell? ⟨b, off + i, none⟩ = some (.int .i64 (iA l i)) := by
  obtain ⟨b, off, e, hb, hc⟩ := rd_elem encI_len h (by omega) h0
  refine ⟨b, off, e, hb, fun i hi => ?_⟩
  have := hc i hi 0 (by omega); simpa [encI, iA, hi, ← Nat.add_assoc] using this

def sA (l : List ByteArray) (i : Nat) : ByteArray := (l.getD i ByteArray.empty)
def encS (x : ByteArray) : List Value := [.string x]
theorem encS_len (x : ByteArray) : (encS x).length = 1 := rfl
theorem rdS {l : List ByteArray} {w : World} {a : Option Addr} (h : Rd w a (fl encS l)) (h0 : 0 < l.length) : ∃ b off, a = some ⟨b, off, none⟩ ∧ b < w.heap.size ∧ ∀ i, i < l.length → w.cell? ⟨b, off + i, none⟩ = some (.string (sA l i)) := by
  obtain ⟨b, off, e, hb, hc⟩ := rd_elem encS_len h (by omega) h0
  refine ⟨b, off, e, hb, fun i hi => ?_⟩
  have := hc i hi 0 (by omega); simpa [encS, sA, hi, ← Nat.add_assoc] using this

def fN (l : List Fr) (i : Nat) : Int := (l.getD i (0, 1)).1
def fD (l : List Fr) (i : Nat) : Int := (l.getD i (0, 1)).2
def encFr (x : Fr) : List Value := [.int .i64 x.1, .int .i64 x.2]
theorem encFr_len (x : Fr) : (encFr x).length = 2 := rfl
theorem rdFr {l : List Fr} {w : World} {a : Option Addr} (h : Rd w a (fl encFr l)) (h0 : 0 < l.length) : ∃ b off, a = some ⟨b, off, none⟩ ∧ b < w.heap.size ∧ ∀ i, i < l.length → w.cell? ⟨b, off + i * 2, none⟩ = some (.int .i64 (fN l i)) ∧ w.cell? ⟨b, off + i * 2 + 1, none⟩ = some (.int .i64 (fD l i)) := by
  obtain ⟨b, off, e, hb, hc⟩ := rd_elem encFr_len h (by omega) h0
  refine ⟨b, off, e, hb, fun i hi => ⟨?_, ?_⟩⟩
  · have := hc i hi 0 (by omega); simpa [encFr, fN, hi, ← Nat.add_assoc] using this
  · have := hc i hi 1 (by omega); simpa [encFr, fD, hi, ← Nat.add_assoc] using this

def mA (l : List Mg) (i : Nat) : Int := (l.getD i ((0, 0), (0, 1), 0)).1.1
def mB (l : List Mg) (i : Nat) : Int := (l.getD i ((0, 0), (0, 1), 0)).1.2
def mN (l : List Mg) (i : Nat) : Int := (l.getD i ((0, 0), (0, 1), 0)).2.1.1
def mD (l : List Mg) (i : Nat) : Int := (l.getD i ((0, 0), (0, 1), 0)).2.1.2
def mS (l : List Mg) (i : Nat) : Int := (l.getD i ((0, 0), (0, 1), 0)).2.2
def encMg (x : Mg) : List Value := [.int .i64 x.1.1, .int .i64 x.1.2, .int .i64 x.2.1.1, .int .i64 x.2.1.2, .int .i64 x.2.2]
theorem encMg_len (x : Mg) : (encMg x).length = 5 := rfl
theorem rdMg {l : List Mg} {w : World} {a : Option Addr} (h : Rd w a (fl encMg l)) (h0 : 0 < l.length) : ∃ b off, a = some ⟨b, off, none⟩ ∧ b < w.heap.size ∧ ∀ i, i < l.length → w.cell? ⟨b, off + i * 5, none⟩ = some (.int .i64 (mA l i)) ∧ w.cell? ⟨b, off + i * 5 + 1, none⟩ = some (.int .i64 (mB l i)) ∧ w.cell? ⟨b, off + i * 5 + 2, none⟩ = some (.int .i64 (mN l i)) ∧ w.cell? ⟨b, off + i * 5 + 3, none⟩ = some (.int .i64 (mD l i)) ∧ w.cell? ⟨b, off + i * 5 + 4, none⟩ = some (.int .i64 (mS l i)) := by
  obtain ⟨b, off, e, hb, hc⟩ := rd_elem encMg_len h (by omega) h0
  refine ⟨b, off, e, hb, fun i hi => ⟨?_, ?_, ?_, ?_, ?_⟩⟩
  · have := hc i hi 0 (by omega); simpa [encMg, mA, hi, ← Nat.add_assoc] using this
  · have := hc i hi 1 (by omega); simpa [encMg, mB, hi, ← Nat.add_assoc] using this
  · have := hc i hi 2 (by omega); simpa [encMg, mN, hi, ← Nat.add_assoc] using this
  · have := hc i hi 3 (by omega); simpa [encMg, mD, hi, ← Nat.add_assoc] using this
  · have := hc i hi 4 (by omega); simpa [encMg, mS, hi, ← Nat.add_assoc] using this

def nP (l : List Nd) (i : Nat) : Int := (l.getD i (0, ByteArray.empty)).1
def nS (l : List Nd) (i : Nat) : ByteArray := (l.getD i (0, ByteArray.empty)).2
def encNd (x : Nd) : List Value := [.int .i64 x.1, .string x.2]
theorem encNd_len (x : Nd) : (encNd x).length = 2 := rfl
theorem rdNd {l : List Nd} {w : World} {a : Option Addr} (h : Rd w a (fl encNd l)) (h0 : 0 < l.length) : ∃ b off, a = some ⟨b, off, none⟩ ∧ b < w.heap.size ∧ ∀ i, i < l.length → w.cell? ⟨b, off + i * 2, none⟩ = some (.int .i64 (nP l i)) ∧ w.cell? ⟨b, off + i * 2 + 1, none⟩ = some (.string (nS l i)) := by
  obtain ⟨b, off, e, hb, hc⟩ := rd_elem encNd_len h (by omega) h0
  refine ⟨b, off, e, hb, fun i hi => ⟨?_, ?_⟩⟩
  · have := hc i hi 0 (by omega); simpa [encNd, nP, hi, ← Nat.add_assoc] using this
  · have := hc i hi 1 (by omega); simpa [encNd, nS, hi, ← Nat.add_assoc] using this

/-- A slice's value: address, length, capacity. -/
abbrev Rw := Option Addr × Nat × Nat
def rA (l : List Rw) (i : Nat) : Option Addr := (l.getD i (none, 0, 0)).1
def rN (l : List Rw) (i : Nat) : Nat := (l.getD i (none, 0, 0)).2.1
def rC (l : List Rw) (i : Nat) : Nat := (l.getD i (none, 0, 0)).2.2
def encR (x : Rw) : List Value := [.slice x.1 x.2.1 x.2.2]
theorem encR_len (x : Rw) : (encR x).length = 1 := rfl
theorem rdR {l : List Rw} {w : World} {a : Option Addr} (h : Rd w a (fl encR l)) (h0 : 0 < l.length) : ∃ b off, a = some ⟨b, off, none⟩ ∧ b < w.heap.size ∧ ∀ i, i < l.length → w.cell? ⟨b, off + i, none⟩ = some (.slice (rA l i) (rN l i) (rC l i)) := by
  obtain ⟨b, off, e, hb, hc⟩ := rd_elem encR_len h (by omega) h0
  refine ⟨b, off, e, hb, fun i hi => ?_⟩
  have := hc i hi 0 (by omega); simpa [encR, rA, rN, rC, hi, ← Nat.add_assoc] using this

theorem eqI_step (l1 l2 : List Int) (k : Nat) (h : l1.take k = l2.take k) (h1 : k < l1.length) (h2 : k < l2.length) (e0 : iA l1 k = iA l2 k) : l1.take (k + 1) = l2.take (k + 1) := by
  have he : l1[k] = l2[k] := by
    simp only [iA, List.getD_eq_getElem?_getD, List.getElem?_eq_getElem h1, List.getElem?_eq_getElem h2, Option.getD_some] at e0
    exact e0
  rw [List.take_succ_eq_append_getElem h1, List.take_succ_eq_append_getElem h2, h, he]
theorem neI_iA (l1 l2 : List Int) (k : Nat) (h : iA l1 k ≠ iA l2 k) : l1 ≠ l2 := fun e => h (by rw [e])

theorem eqS_step (l1 l2 : List ByteArray) (k : Nat) (h : l1.take k = l2.take k) (h1 : k < l1.length) (h2 : k < l2.length) (e0 : sA l1 k = sA l2 k) : l1.take (k + 1) = l2.take (k + 1) := by
  have he : l1[k] = l2[k] := by
    simp only [sA, List.getD_eq_getElem?_getD, List.getElem?_eq_getElem h1, List.getElem?_eq_getElem h2, Option.getD_some] at e0
    exact e0
  rw [List.take_succ_eq_append_getElem h1, List.take_succ_eq_append_getElem h2, h, he]
theorem neS_sA (l1 l2 : List ByteArray) (k : Nat) (h : sA l1 k ≠ sA l2 k) : l1 ≠ l2 := fun e => h (by rw [e])

theorem eqFr_step (l1 l2 : List Fr) (k : Nat) (h : l1.take k = l2.take k) (h1 : k < l1.length) (h2 : k < l2.length) (e0 : fN l1 k = fN l2 k) (e1 : fD l1 k = fD l2 k) : l1.take (k + 1) = l2.take (k + 1) := by
  have he : l1[k] = l2[k] := by
    simp only [fN, List.getD_eq_getElem?_getD, List.getElem?_eq_getElem h1, List.getElem?_eq_getElem h2, Option.getD_some] at e0
    simp only [fD, List.getD_eq_getElem?_getD, List.getElem?_eq_getElem h1, List.getElem?_eq_getElem h2, Option.getD_some] at e1
    exact Prod.ext e0 e1
  rw [List.take_succ_eq_append_getElem h1, List.take_succ_eq_append_getElem h2, h, he]
theorem neFr_fN (l1 l2 : List Fr) (k : Nat) (h : fN l1 k ≠ fN l2 k) : l1 ≠ l2 := fun e => h (by rw [e])
theorem neFr_fD (l1 l2 : List Fr) (k : Nat) (h : fD l1 k ≠ fD l2 k) : l1 ≠ l2 := fun e => h (by rw [e])

theorem eqMg_step (l1 l2 : List Mg) (k : Nat) (h : l1.take k = l2.take k) (h1 : k < l1.length) (h2 : k < l2.length) (e0 : mA l1 k = mA l2 k) (e1 : mB l1 k = mB l2 k) (e2 : mN l1 k = mN l2 k) (e3 : mD l1 k = mD l2 k) (e4 : mS l1 k = mS l2 k) : l1.take (k + 1) = l2.take (k + 1) := by
  have he : l1[k] = l2[k] := by
    simp only [mA, List.getD_eq_getElem?_getD, List.getElem?_eq_getElem h1, List.getElem?_eq_getElem h2, Option.getD_some] at e0
    simp only [mB, List.getD_eq_getElem?_getD, List.getElem?_eq_getElem h1, List.getElem?_eq_getElem h2, Option.getD_some] at e1
    simp only [mN, List.getD_eq_getElem?_getD, List.getElem?_eq_getElem h1, List.getElem?_eq_getElem h2, Option.getD_some] at e2
    simp only [mD, List.getD_eq_getElem?_getD, List.getElem?_eq_getElem h1, List.getElem?_eq_getElem h2, Option.getD_some] at e3
    simp only [mS, List.getD_eq_getElem?_getD, List.getElem?_eq_getElem h1, List.getElem?_eq_getElem h2, Option.getD_some] at e4
    exact Prod.ext (Prod.ext e0 e1) (Prod.ext (Prod.ext e2 e3) e4)
  rw [List.take_succ_eq_append_getElem h1, List.take_succ_eq_append_getElem h2, h, he]
theorem neMg_mA (l1 l2 : List Mg) (k : Nat) (h : mA l1 k ≠ mA l2 k) : l1 ≠ l2 := fun e => h (by rw [e])
theorem neMg_mB (l1 l2 : List Mg) (k : Nat) (h : mB l1 k ≠ mB l2 k) : l1 ≠ l2 := fun e => h (by rw [e])
theorem neMg_mN (l1 l2 : List Mg) (k : Nat) (h : mN l1 k ≠ mN l2 k) : l1 ≠ l2 := fun e => h (by rw [e])
theorem neMg_mD (l1 l2 : List Mg) (k : Nat) (h : mD l1 k ≠ mD l2 k) : l1 ≠ l2 := fun e => h (by rw [e])
theorem neMg_mS (l1 l2 : List Mg) (k : Nat) (h : mS l1 k ≠ mS l2 k) : l1 ≠ l2 := fun e => h (by rw [e])

theorem eqNd_step (l1 l2 : List Nd) (k : Nat) (h : l1.take k = l2.take k) (h1 : k < l1.length) (h2 : k < l2.length) (e0 : nP l1 k = nP l2 k) (e1 : nS l1 k = nS l2 k) : l1.take (k + 1) = l2.take (k + 1) := by
  have he : l1[k] = l2[k] := by
    simp only [nP, List.getD_eq_getElem?_getD, List.getElem?_eq_getElem h1, List.getElem?_eq_getElem h2, Option.getD_some] at e0
    simp only [nS, List.getD_eq_getElem?_getD, List.getElem?_eq_getElem h1, List.getElem?_eq_getElem h2, Option.getD_some] at e1
    exact Prod.ext e0 e1
  rw [List.take_succ_eq_append_getElem h1, List.take_succ_eq_append_getElem h2, h, he]
theorem neNd_nP (l1 l2 : List Nd) (k : Nat) (h : nP l1 k ≠ nP l2 k) : l1 ≠ l2 := fun e => h (by rw [e])
theorem neNd_nS (l1 l2 : List Nd) (k : Nat) (h : nS l1 k ≠ nS l2 k) : l1 ≠ l2 := fun e => h (by rw [e])

theorem fl_set1 {α : Type} {f : α → Value} (l : List α) (k : Nat) (x : α) : (fl (fun y => [f y]) l).set k (f x) = fl (fun y => [f y]) (l.set k x) := by
  induction l generalizing k with
  | nil => simp [fl]
  | cons y l ih =>
    have e : ∀ y l, fl (fun y => [f y]) (y :: l) = f y :: fl (fun y => [f y]) l := fun y l => by simp [fl]
    cases k with
    | zero => simp [e]
    | succ k => simp only [List.set_cons_succ, e]; rw [ih]
theorem fl_set2 (l : List Fr) (k : Nat) (x : Fr) : ((fl encFr l).set (k * 2) (.int .i64 x.1)).set (k * 2 + 1) (.int .i64 x.2) = fl encFr (l.set k x) := by
  induction l generalizing k with
  | nil => simp [fl]
  | cons y l ih =>
    have e : ∀ y l, fl encFr (y :: l) = .int .i64 y.1 :: .int .i64 y.2 :: fl encFr l := fun y l => by simp [fl, encFr]
    cases k with
    | zero => simp [e]
    | succ k =>
      rw [e, show (k + 1) * 2 = k * 2 + 1 + 1 by omega]
      simp only [List.set_cons_succ, e]
      rw [ih]
/-- A fraction is stored into a slice of the call's own. -/
theorem owns_setFr {w : World} {base t g n cap : Nat} {l : List Fr} (h : w.ownsRow base t 2 (.slice (some ⟨g, 0, none⟩) n cap) n (fl encFr l)) (k : Nat) (p q : Int) :
    ((w.setCell ⟨g, k * 2, none⟩ (.int .i64 p)).setCell ⟨g, k * 2 + 1, none⟩ (.int .i64 q)).ownsRow base t 2 (.slice (some ⟨g, 0, none⟩) n cap) n (fl encFr (l.set k (p, q))) := by
  have h1 := (h.stored (k * 2) (.int .i64 p)).1
  have h2 := (h1.stored (k * 2 + 1) (.int .i64 q)).1
  rw [← fl_set2]
  exact h2
theorem owns_setI {w : World} {base t g n cap : Nat} {l : List Int} (h : w.ownsRow base t 1 (.slice (some ⟨g, 0, none⟩) n cap) n (fl encI l)) (k : Nat) (p : Int) :
    (w.setCell ⟨g, k, none⟩ (.int .i64 p)).ownsRow base t 1 (.slice (some ⟨g, 0, none⟩) n cap) n (fl encI (l.set k p)) := by
  have h1 := (h.stored k (.int .i64 p)).1
  have e : fl encI (l.set k p) = (fl encI l).set k (.int .i64 p) := (fl_set1 (f := Value.int .i64) l k p).symm
  rw [e]
  exact h1

end Go.Proofs.YtahgffjkkdbjeaaDoor
