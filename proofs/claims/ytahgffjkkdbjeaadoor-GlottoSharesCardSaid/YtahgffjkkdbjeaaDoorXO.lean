/- How arguments are opened whose parts are bounded by what the address space holds: rows of rows, strings, merges. -/
import Derived.Test.YtahgffjkkdbjeaaDoorWYA
import Derived.Test.YtahgffjkkdbjeaaDoorP7
namespace Go.Proofs.YtahgffjkkdbjeaaDoor
open Go.ChangeShapes Go.WideShapes Go.RowKit Go.Deep
theorem weightsAll_mem {H : Type} {P : Program} {e : TypeId} {d : DataW H} : ∀ {l : List (DataW H)}, d ∈ l → ∀ n ∈ d.weights P e, n ∈ DataW.weightsAll P e l
  | x :: l, h, n, hn => by
    simp only [DataW.weightsAll, List.mem_append]
    rcases List.mem_cons.1 h with rfl | h
    · exact .inl hn
    · exact .inr (weightsAll_mem h n hn)
/-- Each argument's weights are bounded. -/
theorem sized_arg {H : Type} {P : Program} {ts : List TypeId} {ds : List (DataW H)} (h : (DataW.weightsEach P ts ds).all (· ≤ reachBytes) = true) {j : Nat} {t : TypeId} {d : DataW H} (ht : ts[j]? = some t) (hd : ds[j]? = some d) : ∀ y ∈ d.weights P t, y ≤ reachBytes :=
  fun y hy => of_decide_eq_true (List.all_eq_true.1 h _ (DataW.weights_mem_each ht hd y hy))
section
variable {H : Type} {enc : TypeId × Value → H} {P : Program}
/-- The cells of a slice that came in: read as a list; its elements' sizes bounded. -/
theorem rd_cellsS {α : Type} {encα : α → List Value} {k : Nat} (hk : ∀ x, (encα x).length = k) (hk0 : 0 < k) {good : α → Prop} {W : World} {t e : TypeId} (ht : P.underlying t = some (.slice e)) (hC : P.cellsOf e = k)
    (hel : ∀ (n : Nat) (cs : List Value) (x : DataW H × List MemPlace), DataW.trod enc P W 0 (fun _ => true) true n e cs = some x → (∀ y ∈ x.1.weights P e, y ≤ reachBytes) → ∃ a : α, cs = encα a ∧ good a) {fuel : Nat} {cs : List Value} {x : DataW H × List MemPlace}
    (hf : DataW.trod enc P W 0 (fun _ => true) true fuel t cs = some x) (hsz : ∀ y ∈ x.1.weights P t, y ≤ reachBytes) :
    ∃ (a : Option Addr) (n c : Nat) (l : List α), cs = [.slice a n c] ∧ l.length = n ∧ n ≤ 9223372036854775807 ∧ n * P.bytesOf e ≤ reachBytes ∧ (a = none → n = 0 ∧ c = 0) ∧ Rd W a (fl encα l) ∧ ∀ i (hi : i < l.length), good l[i] := by
  rcases open_slice ht hf with ⟨rfl, _⟩ | ⟨a', len, cap, m, n, D, Pl, rfl, hb, hlc, hcm, hm, hx, hi⟩
  · exact ⟨none, 0, 0, [], rfl, rfl, by omega, by simp, fun _ => ⟨rfl, rfl⟩, Rd.nil _ _, fun i hi => absurd hi (by simp)⟩
  · have hwt : ∀ i, i < len → ∀ y ∈ (D i).weights P e, y ≤ reachBytes := by
      intro i hil y hy
      refine hsz y ?_
      rw [hx]
      simp only [DataW.weights, ht, List.mem_cons, List.mem_append]
      exact .inr (.inl (weightsAll_mem (List.mem_map.2 ⟨i, List.mem_range.2 hil, rfl⟩) y hy))
    have hlen : len * P.bytesOf e ≤ reachBytes := by
      have h1 := hsz ((((List.range len).map D).length + ((List.range (m - len)).map fun j => D (len + j)).length) * P.bytesOf e) (by rw [hx]; simp only [DataW.weights, ht, List.mem_cons, true_or])
      refine Nat.le_trans (Nat.mul_le_mul_right _ ?_) h1
      simp
    simp only [if_true] at hm
    subst hm
    rw [hC] at hi
    have hex : ∀ i, i < len → ∃ x : α, good x ∧ ∀ j, j < k → W.cell? (a'.add (i * k + j)) = (encα x)[j]? := by
      intro i hil
      obtain ⟨cs', h1, h2⟩ := hi i (by omega)
      obtain ⟨x, rfl, hg⟩ := hel _ _ _ h2 (hwt i hil)
      obtain ⟨_, _, hat⟩ := World.cells?_some h1
      refine ⟨x, hg, fun j hj => ?_⟩
      rw [← Go.Deep.add_add]
      exact hat j hj
    have hls : ∀ n, n ≤ len → ∃ l : List α, l.length = n ∧ ∀ i (hi : i < l.length), good l[i] ∧ ∀ j, j < k → W.cell? (a'.add (i * k + j)) = (encα l[i])[j]? := by
      intro n
      induction n with
      | zero => intro _; exact ⟨[], rfl, fun i hi => absurd hi (by simp)⟩
      | succ n ih =>
        intro hn
        obtain ⟨l, hl, hg⟩ := ih (by omega)
        obtain ⟨x, hx1, hx2⟩ := hex n (by omega)
        refine ⟨l ++ [x], by simp [hl], fun i hi => ?_⟩
        by_cases e3 : i < l.length
        · rw [List.getElem_append_left e3]; exact hg i e3
        · obtain rfl : i = n := by simp at hi; omega
          rw [List.getElem_append_right (by omega)]
          simpa [hl] using ⟨hx1, hx2⟩
    obtain ⟨l, hl, hg⟩ := hls len (Nat.le_refl _)
    refine ⟨some a', len, _, l, rfl, hl, by unfold maxLen at hcm; omega, hlen, (fun e => by cases e), ?_, fun i hi => (hg i hi).1⟩
    intro h0
    rw [fl_length hk, hl] at h0
    have hlen0 : 0 < len := by
      rcases Nat.eq_zero_or_pos len with e4 | e4
      · rw [e4] at h0; simp at h0
      · exact e4
    have hcell : ∀ i, i < len * k → W.cell? (a'.add i) = (fl encα l)[i]? := by
      intro i hi
      have hq : i / k < len := (Nat.div_lt_iff_lt_mul hk0).2 hi
      have hr : i % k < k := Nat.mod_lt _ hk0
      have e5 : i / k * k + i % k = i := by rw [Nat.mul_comm]; exact Nat.div_add_mod i k
      have h1 := (hg (i / k) (by rw [hl]; exact hq)).2 (i % k) hr
      have h2 := fl_getElem? hk l (i / k) (i % k) hr
      have hq2 : i / k < l.length := by rw [hl]; exact hq
      rw [List.getElem?_eq_getElem hq2] at h2
      simp only [Option.bind_some] at h2
      rw [e5] at h1 h2
      rw [h1, h2]
    obtain ⟨bb, off, sub⟩ := a'
    have hs0 := hcell 0 h0
    have hne : (fl encα l)[0]? = some ((fl encα l)[0]'(by rw [fl_length hk, hl]; exact h0)) := List.getElem?_eq_getElem _
    rw [hne] at hs0
    have hsub : sub = none := by
      cases sub with
      | none => rfl
      | some z =>
        simp only [Addr.add, if_true, World.cell?, Option.isSome_some] at hs0
        split at hs0 <;> cases hs0
    subst hsub
    refine ⟨bb, off, rfl, World.block_lt_of_cell? W _ hs0, fun i hi => ?_⟩
    rw [fl_length hk, hl] at hi
    have h1 := hcell i hi
    rw [List.getElem?_eq_getElem (by rw [fl_length hk, hl]; exact hi)] at h1
    rw [List.getD_eq_getElem?_getD, List.getElem?_eq_getElem (by rw [fl_length hk, hl]; exact hi)]
    refine Eq.trans ?_ h1
    by_cases hi0 : i = 0
    · subst hi0; rfl
    · simp only [Addr.add, if_neg hi0]
/-- A slice that came in: read as a list; its elements' sizes bounded. -/
theorem rd_openS {α : Type} {encα : α → List Value} {k : Nat} (hk : ∀ x, (encα x).length = k) (hk0 : 0 < k) {good : α → Prop} {W : World} {t e : TypeId} (ht : P.underlying t = some (.slice e)) (hC : P.cellsOf e = k)
    (hel : ∀ (n : Nat) (cs : List Value) (x : DataW H × List MemPlace), DataW.trod enc P W 0 (fun _ => true) true n e cs = some x → (∀ y ∈ x.1.weights P e, y ≤ reachBytes) → ∃ a : α, cs = encα a ∧ good a) {r : Reach} {b0 : Nat} {v : Value} {d : DataW H} {ps : List MemPlace}
    (hv : Value.okWide P W r b0 t v) (h : DataW.Trod enc P W 0 (fun _ => true) true t v d ps) (hsz : ∀ y ∈ d.weights P t, y ≤ reachBytes) :
    ∃ (a : Option Addr) (n c : Nat) (l : List α), v = .slice a n c ∧ l.length = n ∧ n ≤ 9223372036854775807 ∧ n * P.bytesOf e ≤ reachBytes ∧ (a = none → n = 0 ∧ c = 0) ∧ Rd W a (fl encα l) ∧ ∀ i (hi : i < l.length), good l[i] := by
  obtain ⟨a, len, cap, rfl⟩ := okWide_slice ht hv
  obtain ⟨fuel, hf⟩ := h
  obtain ⟨a', n, c, l, hcs, h1⟩ := rd_cellsS hk hk0 ht hC hel hf hsz
  have e2 : (Value.slice a len cap) = .slice a' n c := by simpa [Value.cells] using hcs
  exact ⟨a', n, c, l, e2, h1⟩
end
theorem cells29 : Tryd.prog.cellsOf 29 = 1 := by kernel_rfl
theorem cells42 : Tryd.prog.cellsOf 42 = 5 := by kernel_rfl
theorem bytes3 : Tryd.prog.bytesOf 3 = 8 := by kernel_rfl
theorem bytes9 : Tryd.prog.bytesOf 9 = 16 := by kernel_rfl
theorem bytes29 : Tryd.prog.bytesOf 29 = 24 := by kernel_rfl
theorem bytes42 : Tryd.prog.bytesOf 42 = 40 := by kernel_rfl
/-- A row that came in: its numbers, at most what memory holds. -/
def RowGd (W : World) (r : Rw) : Prop := ∃ l : List Int, Rd W r.1 (fl encI l) ∧ l.length = r.2.1 ∧ r.2.1 * 8 ≤ 140737488351232 ∧ (r.1 = none → r.2.1 = 0 ∧ r.2.2 = 0) ∧ ∀ i (hi : i < l.length), IntOk l[i]
theorem rd_row {H : Type} {enc : TypeId × Value → H} {W : World} (n : Nat) (cs : List Value) (x : DataW H × List MemPlace) (h : DataW.trod enc Tryd.prog W 0 (fun _ => true) true n 29 cs = some x) (hsz : ∀ y ∈ x.1.weights Tryd.prog 29, y ≤ reachBytes) : ∃ a : Rw, cs = encR a ∧ RowGd W a := by
  obtain ⟨a, m, c, l, h1, h2, h3, h4, h5, h6, h7⟩ := rd_cellsS (encα := encI) (k := 1) (fun _ => rfl) (by omega) (good := IntOk) Tryd.underlying29 cells3 (fun n cs x h _ => rd_ints n cs x h) h hsz
  rw [bytes3] at h4
  exact ⟨(a, m, c), h1, l, h6, h2, h4, h5, h7⟩
set_option maxRecDepth 100000 in
/-- A slice of rows that came in. -/
theorem open_rows {H : Type} {enc : TypeId × Value → H} {W : World} {r : Reach} {b0 : Nat} {v : Value} {d : DataW H} {ps : List MemPlace} (hv : Value.okWide Tryd.prog W r b0 49 v) (h : DataW.Trod enc Tryd.prog W 0 (fun _ => true) true 49 v d ps) (hsz : ∀ y ∈ d.weights Tryd.prog 49, y ≤ reachBytes) :
    ∃ (a : Option Addr) (n c : Nat) (rs : List Rw) (L : List (List Int)), v = .slice a n c ∧ L.length = n ∧ n ≤ 5864062014634 ∧ Rows W a rs L ∧ (∀ i, i < n → (rwk L i).length ≤ 17592186043904) ∧ (∀ i, i < n → rA rs i = none → rN rs i = 0 ∧ rC rs i = 0) := by
  obtain ⟨a, n, c, l, h1, h2, h3, h4, h5, h6, h7⟩ := rd_openS encR_len (by omega) (good := RowGd W) Tryd.underlying49 cells29 rd_row hv h hsz
  rw [bytes29] at h4
  have hc : ∀ i, ∃ x : List Int, ∀ hi : i < l.length, Rd W (l[i]).1 (fl encI x) ∧ x.length = (l[i]).2.1 ∧ (l[i]).2.1 * 8 ≤ 140737488351232 ∧ ((l[i]).1 = none → (l[i]).2.1 = 0 ∧ (l[i]).2.2 = 0) := by
    intro i
    by_cases hi : i < l.length
    · obtain ⟨x, g1, g2, g3, g4, _⟩ := h7 i hi
      exact ⟨x, fun _ => ⟨g1, g2, g3, g4⟩⟩
    · exact ⟨[], fun h => absurd h hi⟩
  obtain ⟨f, hf⟩ := Classical.axiomOfChoice hc
  have hA : ∀ i, i < l.length → rA l i = (l.getD i (none, 0, 0)).1 := fun _ _ => rfl
  have hg : ∀ i (hi : i < l.length), rA l i = l[i].1 ∧ rN l i = l[i].2.1 ∧ rC l i = l[i].2.2 := fun i hi => by simp [rA, rN, rC, hi]
  have hr : ∀ i, i < l.length → rwk ((List.range n).map f) i = f i := fun i hi => by simp [rwk, h2 ▸ hi]
  refine ⟨a, n, c, l, (List.range n).map f, h1, by simp, by unfold reachBytes at h4; omega, ⟨h6, by simp [h2], fun i hi => ?_⟩, fun i hi => ?_, fun i hi => ?_⟩
  · have hi2 : i < l.length := by simpa [h2] using hi
    rw [hr i hi2, (hg i hi2).1, (hg i hi2).2.1]
    obtain ⟨g1, g2, g3, _⟩ := hf i hi2
    exact ⟨g1, g2.symm, by omega⟩
  · have hi2 : i < l.length := by rw [h2]; exact hi
    rw [hr i hi2]
    obtain ⟨g1, g2, g3, _⟩ := hf i hi2
    omega
  · have hi2 : i < l.length := by rw [h2]; exact hi
    rw [(hg i hi2).1, (hg i hi2).2.1, (hg i hi2).2.2]
    exact (hf i hi2).2.2.2
end Go.Proofs.YtahgffjkkdbjeaaDoor
