/- Sorting and compacting a row of sets of the call's own. -/
import Derived.Test.YtnabbmdhhddfbaaDoorA12
namespace Go.Proofs.YtnabbmdhhddfbaaDoor
open Go.RowKit Go.Shelf Go.Sort
theorem bl_putRow {a w : World} (h : Below a.heap.size a w) {g off : Nat} (hg : a.heap.size ≤ g) (d : Array U64) : Below a.heap.size a (putRow encU w g off d) :=
  ⟨h.os, h.tape, h.output, by rw [size_putRow]; exact h.size, fun k hk => by
    rw [← h.block k hk]
    simp [putRow, mapBlock, Array.getElem?_modify, show g ≠ k by omega]⟩
theorem bl_ahead {a w : World} (h : Below a.heap.size a w) (n : Nat) : Below a.heap.size a (Sort.ahead w n) := ⟨h.os, h.tape, h.output, h.size, h.block⟩
theorem bl_growS {a w : World} (h : Below a.heap.size a w) (os : Array Obj) : Below a.heap.size a (grow w os) :=
  ⟨h.os, h.tape, h.output, by have := h.size; simp [grow]; omega, fun k hk => by
    rw [← h.block k hk]
    have := h.size
    simp [grow, Array.getElem?_append_left (show k < w.heap.size by omega)]⟩
theorem owns_ahead {w : World} {base e k n : Nat} {v : Value} {xs : List Value} (h : w.ownsRow base e k v n xs) (q : Nat) : (Sort.ahead w q).ownsRow base e k v n xs := h
/-- The row sorted. -/
def srtU (d : Array U64) : Array U64 := (d.toList.mergeSort fun x y => !(ltOf cfU) y x).toArray
theorem srtU_size (d : Array U64) : (srtU d).size = d.size := by simp [srtU]
theorem sortRow_any {w : World} {base cap g : Nat} (d : Array U64) (h : w.ownsRow base 61 1 (.slice (some ⟨g, 0, none⟩) d.size cap) d.size (d.toList.map encU)) (hg : g < w.heap.size) (hsz : d.size < 4611686018427387904) :
    Calls Tryd.prog 63 #[.slice (some ⟨g, 0, none⟩) d.size cap, .func (.func 64) #[] #[]] w fun e w' =>
      e = .returned (.tuple #[]) ∧ w'.ownsRow base 61 1 (.slice (some ⟨g, 0, none⟩) d.size cap) d.size ((srtU d).toList.map encU) ∧ (∀ a : World, Below a.heap.size a w → a.heap.size ≤ g → Below a.heap.size a w') ∧ g < w'.heap.size := by
  refine (sort_any g 0 cap d w (owns_holds h) hg hsz).mono ?_
  rintro e w' ⟨he, n, os, rfl⟩
  refine ⟨he, ?_, fun a ha hag => bl_growS (bl_putRow (bl_ahead ha n) hag _) os, ?_⟩
  · have h1 := owns_putRow (m := d.size) (owns_ahead h n) (srtU d) (srtU_size d) (Nat.le_refl _)
    rw [List.take_of_length_le (by rw [Array.length_toList, srtU_size]; exact Nat.le_refl _)] at h1
    exact owns_below h1 (bl_growS (Below.refl _ _) os)
  · have := (bl_growS (Below.refl _ (putRow encU (Sort.ahead w n) g 0 (srtU d))) os).size
    rw [size_putRow] at this
    exact Nat.lt_of_lt_of_le hg this
end Go.Proofs.YtnabbmdhhddfbaaDoor
