/- A row of sets of the call's own after slices.SortFunc and slices.Compact. -/
import Derived.Test.YtnabbmdhhddfbaaDoorA10
namespace Go.Proofs.YtnabbmdhhddfbaaDoor
open Go.RowKit Go.Shelf Go.Sort
theorem owns_putRow {w : World} {base e n m cap g : Nat} {xs : List Value} (h : w.ownsRow base e 1 (.slice (some ⟨g, 0, none⟩) n cap) n xs) (d : Array U64) (hd : d.size = n) (hm : m ≤ n) :
    (putRow encU w g 0 d).ownsRow base e 1 (.slice (some ⟨g, 0, none⟩) m cap) m ((d.toList.take m).map encU) := by
  rcases h.2 with ⟨hv, _⟩ | ⟨g', cap', cur, hv, hg, hh, hn, hmx, hcs, _⟩
  · cases hv
  · cases hv
    refine ⟨by simp; omega, .inr ⟨g, cap, putCells encU 0 d cur, rfl, hg, by simp [putRow, mapBlock, Array.getElem?_modify, hh, onCells], by omega, hmx, by simp [putCells, hcs], ?_⟩⟩
    apply List.ext_getElem?
    intro i
    by_cases hi : i < m
    · have h1 : i < cur.size := by omega
      have h2 : i < d.size := by omega
      simp [putCells, List.getElem?_take, hi, h1, h2]
    · simp [List.getElem?_take, hi]
theorem owns_holds {w : World} {base e n cap g : Nat} {d : Array U64} (h : w.ownsRow base e 1 (.slice (some ⟨g, 0, none⟩) n cap) n (d.toList.map encU)) : Holds encU w g 0 d := by
  rcases h.2 with ⟨hv, _⟩ | ⟨g', cap', cur, hv, hg, hh, hn, hmx, hcs, ht⟩
  · cases hv
  · cases hv
    intro j hj
    have hl := h.1
    rw [List.length_map, Array.length_toList] at hl
    have h1 : j < cur.size := by omega
    have h2 : cur[j]? = some (encU d[j]!) := by
      have := congrArg (fun l => l[j]?) ht
      simp [List.getElem?_take, show j < n by omega, h1, hj] at this
      simp [h1, hj, this]
    refine ⟨?_, ?_⟩
    · simp [World.cell?, hh, h2]
    · simp [World.frozen?, hh]
end Go.Proofs.YtnabbmdhhddfbaaDoor
