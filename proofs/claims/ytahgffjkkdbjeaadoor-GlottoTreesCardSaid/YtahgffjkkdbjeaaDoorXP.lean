/- How a slice of strings and a slice of merges are opened. -/
import Derived.Test.YtahgffjkkdbjeaaDoorZD
import Derived.Test.YtahgffjkkdbjeaaDoorJA
import Derived.Deep.Strs
namespace Go.Proofs.YtahgffjkkdbjeaaDoor
open Go.ChangeShapes Go.WideShapes Go.RowKit Go.Deep
def StOk (s : ByteArray) : Prop := s.size ≤ 140737488355328
set_option maxRecDepth 100000 in
theorem rd_strsS {H : Type} {enc : TypeId × Value → H} {W : World} (n : Nat) (cs : List Value) (x : DataW H × List MemPlace) (h : DataW.trod enc Tryd.prog W 0 (fun _ => true) true n 9 cs = some x) (hsz : ∀ y ∈ x.1.weights Tryd.prog 9, y ≤ reachBytes) : ∃ a : ByteArray, cs = encS a ∧ StOk a := by
  obtain ⟨s, rfl, rfl, _⟩ := DataW.trod_string Tryd.underlying9 h
  refine ⟨s, rfl, ?_⟩
  have h1 : s.data.toList.length ≤ reachBytes := hsz s.data.toList.length (by rw [DataW.weights]; exact List.mem_singleton.2 rfl)
  have h2 : s.data.toList.length = s.size := Array.length_toList
  rw [h2] at h1
  unfold reachBytes at h1
  show s.size ≤ 140737488355328
  have h3 : s.size ≤ 140737488351232 := h1
  omega
def MgOk (x : Mg) : Prop := x.2.1.1 ≤ 9223372036854775807 ∧ x.2.1.2 ≤ 9223372036854775807
set_option maxRecDepth 100000 in
theorem rd_mgs {H : Type} {enc : TypeId × Value → H} {W : World} (n : Nat) (cs : List Value) (x : DataW H × List MemPlace) (h : DataW.trod enc Tryd.prog W 0 (fun _ => true) true n 42 cs = some x) (_ : ∀ y ∈ x.1.weights Tryd.prog 42, y ≤ reachBytes) : ∃ a : Mg, cs = encMg a ∧ MgOk a := by
  obtain ⟨xs, m, _, _, hlen, hxs, hf⟩ := DataW.trod_struct Tryd.underlying42 h
  rw [cells42] at hlen
  obtain ⟨c0, c1, c2, c3, c4, rfl⟩ : ∃ c0 c1 c2 c3 c4, cs = [c0, c1, c2, c3, c4] := by
    match cs, hlen with
    | [a, b, c, d, e], _ => exact ⟨a, b, c, d, e, rfl⟩
  obtain ⟨x0, x1, x2, x3, rfl⟩ : ∃ x0 x1 x2 x3, xs = [x0, x1, x2, x3] := by
    match xs, hxs with
    | [a, b, c, d], _ => exact ⟨a, b, c, d, rfl⟩
  have h0 : DataW.trod enc Tryd.prog W 0 (fun _ => true) true m 3 ([c0, c1, c2, c3, c4].take (Tryd.prog.cellsOf 3)) = some x0 := hf 0 _ rfl
  have h1 : DataW.trod enc Tryd.prog W 0 (fun _ => true) true m 3 (([c0, c1, c2, c3, c4].drop 1).take (Tryd.prog.cellsOf 3)) = some x1 := hf 1 _ rfl
  have h2 : DataW.trod enc Tryd.prog W 0 (fun _ => true) true m 40 (([c0, c1, c2, c3, c4].drop 2).take (Tryd.prog.cellsOf 40)) = some x2 := hf 2 _ rfl
  have h3 : DataW.trod enc Tryd.prog W 0 (fun _ => true) true m 3 (([c0, c1, c2, c3, c4].drop 4).take (Tryd.prog.cellsOf 3)) = some x3 := hf 3 _ rfl
  rw [cells3] at h0 h1 h3
  rw [cells40] at h2
  obtain ⟨z0, e0, _, _⟩ := DataW.trod_int Tryd.underlying3 h0
  obtain ⟨z1, e1, _, _⟩ := DataW.trod_int Tryd.underlying3 h1
  obtain ⟨z3, e3, _, _⟩ := DataW.trod_int Tryd.underlying3 h3
  obtain ⟨q, e2, hq⟩ := rd_frs _ _ _ h2
  simp at e0 e1 e3
  have e2' : [c2, c3] = encFr q := e2
  simp [encFr] at e2'
  obtain ⟨e4, e5⟩ := e2'
  refine ⟨((z0, z1), q, z3), ?_, ?_⟩
  · rw [e0, e1, e3, e4, e5]; rfl
  · unfold FrOk at hq
    exact hq
set_option maxRecDepth 100000 in
theorem open_strs {H : Type} {enc : TypeId × Value → H} {W : World} {r : Reach} {b0 : Nat} {v : Value} {d : DataW H} {ps : List MemPlace} (hv : Value.okWide Tryd.prog W r b0 58 v) (h : DataW.Trod enc Tryd.prog W 0 (fun _ => true) true 58 v d ps) (hsz : ∀ y ∈ d.weights Tryd.prog 58, y ≤ reachBytes) :
    ∃ (a : Option Addr) (n c : Nat) (l : List ByteArray), v = .slice a n c ∧ l.length = n ∧ n ≤ 8796093022208 ∧ Rd W a (fl encS l) ∧ ∀ i, i < n → (sA l i).size ≤ 140737488355328 := by
  obtain ⟨a, n, c, l, h1, h2, h3, h4, h5, h6, h7⟩ := rd_openS encS_len (by omega) (good := StOk) Tryd.underlying58 cells9 rd_strsS hv h hsz
  rw [bytes9] at h4
  refine ⟨a, n, c, l, h1, h2, by unfold reachBytes at h4; omega, h6, fun i hi => ?_⟩
  have h8 := h7 i (by omega)
  unfold StOk at h8
  rw [show sA l i = l[i] by simp [sA, h2 ▸ hi]]
  exact h8
set_option maxRecDepth 100000 in
theorem open_mgs {H : Type} {enc : TypeId × Value → H} {W : World} {r : Reach} {b0 : Nat} {v : Value} {d : DataW H} {ps : List MemPlace} (hv : Value.okWide Tryd.prog W r b0 36 v) (h : DataW.Trod enc Tryd.prog W 0 (fun _ => true) true 36 v d ps) (hsz : ∀ y ∈ d.weights Tryd.prog 36, y ≤ reachBytes) :
    ∃ (a : Option Addr) (n c : Nat) (l : List Mg), v = .slice a n c ∧ l.length = n ∧ n ≤ 8796093022208 ∧ Rd W a (fl encMg l) ∧ FitMg l := by
  obtain ⟨a, n, c, l, h1, h2, h3, h4, h5, h6, h7⟩ := rd_openS encMg_len (by omega) (good := MgOk) Tryd.underlying36 cells42 rd_mgs hv h hsz
  rw [bytes42] at h4
  refine ⟨a, n, c, l, h1, h2, by unfold reachBytes at h4; omega, h6, fun i hi => ?_⟩
  have h8 := h7 i hi
  unfold MgOk at h8
  rw [show mN l i = l[i].2.1.1 by simp [mN, hi], show mD l i = l[i].2.1.2 by simp [mD, hi]]
  exact h8
end Go.Proofs.YtahgffjkkdbjeaaDoor
