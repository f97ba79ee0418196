/- How a slice of arrays of 24 bytes is opened. -/
import Derived.Test.YtahgffjkkdbjeaaDoorXMA
import Derived.Test.YtahgffjkkdbjeaaDoorZD
namespace Go.Proofs.YtahgffjkkdbjeaaDoor
open Go.ChangeShapes Go.WideShapes Go.RowKit Go.Deep
theorem cells50 : Tryd.prog.cellsOf 50 = 24 := by kernel_rfl
theorem cells5 : Tryd.prog.cellsOf 5 = 1 := by kernel_rfl
def A24Ok (f : Nat → Int) : Prop := ∀ j, 0 ≤ f j ∧ f j ≤ 255
theorem rd_a24 {H : Type} {enc : TypeId × Value → H} {W : World} (n : Nat) (cs : List Value) (x : DataW H × List MemPlace) (h : DataW.trod enc Tryd.prog W 0 (fun _ => true) true n 50 cs = some x) : ∃ f : Nat → Int, cs = encA f ∧ A24Ok f := by
  obtain ⟨xs, m, _, _, hlen, hxs, hf⟩ := DataW.trod_array Tryd.underlying50 h
  rw [cells50] at hlen
  rw [cells5] at hf
  have hz : ∀ i, ∃ z : Int, (0 ≤ z ∧ z ≤ 255) ∧ (i < 24 → cs[i]? = some (.int .u8 z)) := by
    intro i
    by_cases hi : i < 24
    · have h1 := hf i hi
      rw [List.getElem?_eq_getElem (by rw [hxs]; exact hi)] at h1
      obtain ⟨z, e, _, hw⟩ := DataW.trod_int Tryd.underlying5 h1
      refine ⟨z, bounds_u8 hw, fun _ => ?_⟩
      rw [Nat.mul_one] at e
      have h3 := congrArg (fun l : List Value => l[0]?) e
      simp at h3
      exact h3
    · exact ⟨0, by omega, fun h => absurd h hi⟩
  obtain ⟨f, hf2⟩ := Classical.axiomOfChoice hz
  refine ⟨f, ?_, fun j => (hf2 j).1⟩
  refine List.ext_getElem? fun i => ?_
  by_cases hi : i < 24
  · rw [(hf2 i).2 hi]
    simp [encA, hi]
  · rw [List.getElem?_eq_none (by omega), List.getElem?_eq_none (by rw [encA_len]; omega)]
set_option maxRecDepth 100000 in
/-- A slice of rows of 24 bytes that came in. -/
theorem open_a24s {H : Type} {enc : TypeId × Value → H} {W : World} {r : Reach} {b0 : Nat} {v : Value} {d : DataW H} {ps : List MemPlace} (hv : Value.okWide Tryd.prog W r b0 47 v) (h : DataW.Trod enc Tryd.prog W 0 (fun _ => true) true 47 v d ps) :
    ∃ (a : Option Addr) (n c : Nat) (l : List (Nat → Int)), v = .slice a n c ∧ l.length = n ∧ n ≤ 9223372036854775807 ∧ n ≤ c ∧ (a = none → n = 0 ∧ c = 0) ∧ Rd W a (fl encA l) ∧ ∀ i j, 0 ≤ xA l i j ∧ xA l i j ≤ 255 := by
  obtain ⟨a, n, c, l, rfl, h2, h3, h4, h5⟩ := rd_open encA_len (by omega) (good := A24Ok) Tryd.underlying47 cells50 rd_a24 hv h
  have hcap : n ≤ c ∧ (a = none → n = 0 ∧ c = 0) := by
    obtain ⟨fuel, hf⟩ := h
    rcases open_slice Tryd.underlying47 hf with ⟨hcs, _⟩ | ⟨a', len', cap', m, k, D, Pl, hcs, hb, hlc, hcm, hm, hx, hi⟩
    · have e2 : (Value.slice a n c) = .slice none 0 0 := by simpa [Value.cells] using hcs
      simp only [Value.slice.injEq] at e2
      obtain ⟨_, rfl, rfl⟩ := e2
      exact ⟨Nat.le_refl _, fun _ => ⟨rfl, rfl⟩⟩
    · have e2 : (Value.slice a n c) = .slice (some a') len' cap' := by simpa [Value.cells] using hcs
      simp only [Value.slice.injEq] at e2
      obtain ⟨rfl, rfl, rfl⟩ := e2
      exact ⟨hlc, fun e => by cases e⟩
  refine ⟨a, n, c, l, rfl, h2, h3, hcap.1, hcap.2, h4, fun i j => ?_⟩
  unfold xA
  by_cases hi : i < l.length
  · have := h5 i hi j
    simpa [hi] using this
  · simp [List.getD_eq_getElem?_getD, List.getElem?_eq_none (Nat.le_of_not_lt hi)]
end Go.Proofs.YtahgffjkkdbjeaaDoor
