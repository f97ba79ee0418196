/- What all rows of this seat share: the tables that they list, a world for the witness, how each argument is opened. -/
import Derived.Test.YtahgffjkkdbjeaaDoorWX
import Derived.Test.YtahgffjkkdbjeaaDoorP0
import Derived.Test.YtahgffjkkdbjeaaDoorCards
import Derived.Test.YtahgffjkkdbjeaaDoorTie
import Derived.WalkKit
import Derived.Deep.DeepHandedRow
import Derived.Lib.LaidTab
namespace Go.Proofs.YtahgffjkkdbjeaaDoor
open Go.ChangeShapes Go.WideShapes Go.ChangeAt Go.RowKit Go.Deep
theorem own : ownKnob Tryd.prog.godebug = none := by kernel_rfl
theorem laidOut : laidOutB Tryd.prog = true := by kernel_rfl
/-- The cells of a table. -/
def tabCells (d : DataW Unit) : Array Value :=
  match d with
  | .agg ps => (ps.map fun x => match x with
    | .lit (.int k n) => Value.int k n
    | _ => undef).toArray
  | _ => #[]
def laidOn (P : Program) : List (String × DataW Unit) → World → World
  | [], w => w
  | (n, d) :: r, w => laidOn P r { w with heap := w.heap.modify ((P.globalNamed n).getD 0) fun
      | .cells _ t frozen => .cells (tabCells d) t frozen
      | o => o }
/-- A world that holds the tables. -/
noncomputable def laidWorld (os : Os) : World := laidOn Tryd.prog Rows.glottoAsksRow.laid (World.holding Tryd.prog os ⟨#[], #[], []⟩)
theorem list_two {α : Type} : ∀ {l : List α}, l.length = 2 → ∃ a b, l = [a, b]
  | [a, b], _ => ⟨a, b, rfl⟩
def IntOk (x : Int) : Prop := -9223372036854775808 ≤ x ∧ x ≤ 9223372036854775807
def StrOk (x : ByteArray) : Prop := x.size ≤ 9223372036854775807
def FrOk (x : Fr) : Prop := x.1 ≤ 9223372036854775807 ∧ x.2 ≤ 9223372036854775807
theorem rd_ints {H : Type} {enc : TypeId × Value → H} {W : World} (n : Nat) (cs : List Value) (x : DataW H × List MemPlace) (h : DataW.trod enc Tryd.prog W 0 (fun _ => true) true n 3 cs = some x) : ∃ a : Int, cs = encI a ∧ IntOk a := by
  obtain ⟨z, rfl, _, hw⟩ := DataW.trod_int Tryd.underlying3 h
  exact ⟨z, rfl, bounds_i64 hw⟩
theorem rd_strs {H : Type} {enc : TypeId × Value → H} {W : World} (n : Nat) (cs : List Value) (x : DataW H × List MemPlace) (h : DataW.trod enc Tryd.prog W 0 (fun _ => true) true n 9 cs = some x) : ∃ a : ByteArray, cs = encS a ∧ StrOk a := by
  obtain ⟨z, rfl, _, hw⟩ := DataW.trod_string Tryd.underlying9 h
  exact ⟨z, rfl, by unfold StrOk; unfold maxLen at hw; omega⟩
theorem cells2 : Tryd.prog.cellsOf 2 = 1 := by kernel_rfl
theorem cells3 : Tryd.prog.cellsOf 3 = 1 := by kernel_rfl
theorem cells9 : Tryd.prog.cellsOf 9 = 1 := by kernel_rfl
theorem cells40 : Tryd.prog.cellsOf 40 = 2 := by kernel_rfl
theorem rd_frs {H : Type} {enc : TypeId × Value → H} {W : World} (n : Nat) (cs : List Value) (x : DataW H × List MemPlace) (h : DataW.trod enc Tryd.prog W 0 (fun _ => true) true n 40 cs = some x) : ∃ a : Fr, cs = encFr a ∧ FrOk a := by
  obtain ⟨xs, m, _, _, hlen, hxs, hf⟩ := DataW.trod_struct Tryd.underlying40 h
  rw [cells40] at hlen
  obtain ⟨c0, c1, rfl⟩ := list_two hlen
  obtain ⟨x0, x1, rfl⟩ := list_two hxs
  have h0 : DataW.trod enc Tryd.prog W 0 (fun _ => true) true m 2 ([c0, c1].take (Tryd.prog.cellsOf 2)) = some x0 := hf 0 _ rfl
  have h1 : DataW.trod enc Tryd.prog W 0 (fun _ => true) true m 2 (([c0, c1].drop 1).take (Tryd.prog.cellsOf 2)) = some x1 := hf 1 _ rfl
  rw [cells2] at h0 h1
  obtain ⟨z0, e0, _, w0⟩ := DataW.trod_int Tryd.underlying2 h0
  obtain ⟨z1, e1, _, w1⟩ := DataW.trod_int Tryd.underlying2 h1
  refine ⟨(z0, z1), ?_, (bounds_i64 w0).2, (bounds_i64 w1).2⟩
  simp at e0 e1
  rw [e0, e1]
  rfl
set_option maxRecDepth 100000 in
theorem open_frs {H : Type} {enc : TypeId × Value → H} {W : World} {r : Reach} {b0 : Nat} {v : Value} {d : DataW H} {ps : List MemPlace} (hv : Value.okWide Tryd.prog W r b0 22 v) (h : DataW.Trod enc Tryd.prog W 0 (fun _ => true) true 22 v d ps) :
    ∃ (a : Option Addr) (n c : Nat) (l : List Fr), v = .slice a n c ∧ l.length = n ∧ n ≤ 9223372036854775807 ∧ Rd W a (fl encFr l) ∧ FitFr l := by
  obtain ⟨a, n, c, l, h1, h2, h3, h4, h5⟩ := rd_open encFr_len (by omega) (good := FrOk) Tryd.underlying22 cells40 rd_frs hv h
  refine ⟨a, n, c, l, h1, h2, h3, h4, fun i hi => ?_⟩
  have h6 := h5 i hi
  unfold FrOk at h6
  rw [show fN l i = l[i].1 by simp [fN, hi], show fD l i = l[i].2 by simp [fD, hi]]
  exact h6
end Go.Proofs.YtahgffjkkdbjeaaDoor
