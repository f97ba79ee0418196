/- Compacting a row of sets of the call's own. -/
import Derived.Test.YtnabbmdhhddfbaaDoorA13
namespace Go.Proofs.YtnabbmdhhddfbaaDoor
open Go.RowKit Go.Shelf Go.Sort
def cmpU (d : Array U64) : List U64 := Go.Lib.compactUpTo d d.size
theorem cmpU_le (d : Array U64) : (cmpU d).length ≤ d.size := by
  unfold cmpU Go.Lib.compactUpTo
  rw [List.length_map]
  exact Nat.le_trans (List.length_filter_le _ _) (by simp)
theorem owns_capS {w : World} {base e n cap g : Nat} {xs : List Value} (h : w.ownsRow base e 1 (.slice (some ⟨g, 0, none⟩) n cap) n xs) : n ≤ cap := by
  rcases h.2 with ⟨hv, _⟩ | ⟨g', cap', cur, hv, hg, hh, hn, _⟩
  · cases hv
  · cases hv; exact hn
theorem compactRow_any {w : World} {base cap g : Nat} (d : Array U64) (h : w.ownsRow base 61 1 (.slice (some ⟨g, 0, none⟩) d.size cap) d.size (d.toList.map encU)) (hsz : d.size ≤ 9223372036854775807) :
    Calls Tryd.prog 65 #[.slice (some ⟨g, 0, none⟩) d.size cap] w fun e w' =>
      e = .returned (.slice (some ⟨g, 0, none⟩) (cmpU d).length cap) ∧ w'.ownsRow base 61 1 (.slice (some ⟨g, 0, none⟩) (cmpU d).length cap) (cmpU d).length ((cmpU d).map encU) ∧ (∀ a : World, Below a.heap.size a w → a.heap.size ≤ g → Below a.heap.size a w') := by
  refine (compact_any g 0 cap d w (owns_holds h) hsz (owns_capS h)).mono ?_
  rintro e w' ⟨he, q, rfl⟩
  refine ⟨he, ?_, fun a ha hag => bl_putRow (bl_ahead ha q) hag _⟩
  have hle := cmpU_le d
  have hs : (cmpU d ++ List.replicate (d.size - (cmpU d).length) (0 : U64)).toArray.size = d.size := by simp; omega
  have h1 := owns_putRow (m := (cmpU d).length) (owns_ahead h q) (cmpU d ++ List.replicate (d.size - (cmpU d).length) (0 : U64)).toArray hs hle
  rw [show ((cmpU d ++ List.replicate (d.size - (cmpU d).length) (0 : U64)).toArray.toList.take (cmpU d).length) = cmpU d by simp] at h1
  exact h1
/-- The sets of the table as elements of U64. -/
def toU (l : List Nat) : List U64 := l.map fun x => Fin.ofNat _ x
theorem toU_enc {l : List Nat} (h : ∀ x, x ∈ l → x < 18446744073709551616) : (toU l).map encU = fl encV l := by
  unfold toU fl
  induction l with
  | nil => rfl
  | cons x l ih =>
    have hx := h x (by simp)
    have := ih (fun y hy => h y (by simp [hy]))
    simp only [List.map_cons, List.flatMap_cons, this]
    simp [encU, encV, Nat.mod_eq_of_lt hx]
end Go.Proofs.YtnabbmdhhddfbaaDoor
