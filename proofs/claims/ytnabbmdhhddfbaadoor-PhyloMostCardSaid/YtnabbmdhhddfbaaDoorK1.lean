/- From a walk to a row: a statement's post; arguments that came in read as tables and trees. -/
import Derived.ChangeSame
import Derived.OpenShut
import Derived.ProofKit
import Derived.Deep.Slices
import Derived.Test.YtnabbmdhhddfbaaDoorCards
import Derived.Test.YtnabbmdhhddfbaaDoorTie
import Derived.Deep.DeepHandedRow
import Derived.Lib.LaidTab
import Derived.Lib.SmallJoins
import Derived.Test.YtnabbmdhhddfbaaDoorA3
namespace Go.Proofs.YtnabbmdhhddfbaaDoor
open Go.ChangeShapes Go.WideShapes Go.RowKit Go.Deep
section
variable {H : Type} {enc : TypeId × Value → H} {P : Program}
/-- Arguments read as they did, in a world that keeps all that lay there. -/
theorem trodAll_stays (hl : laidOutB P = true) {W W' : World} {sp : Nat → Bool} (hb : Below W.heap.size W W') : ∀ {ts : List TypeId} {vs : List Value} {ds : List (DataW H)} {ps : List MemPlace}, (∀ t ∈ ts, P.readableRec t = true ∧ t < P.types.size) →
    DataW.TrodAll enc P W 0 (fun _ => true) true ts vs ds ps → (∀ p ∈ ps, p.block < W.heap.size) → (∀ p ∈ ps, sp p.block = true) → DataW.TrodAll enc P W' 0 sp true ts vs ds ps
  | [], vs, ds, ps, _, h, _, _ => by
    obtain ⟨rfl, rfl, rfl⟩ := trodAll_nil h
    exact trodAll_mk0
  | t :: ts, vs, ds, ps, ht, h, hlt, hsp => by
    obtain ⟨v, vs', d, ds', p, q, rfl, rfl, rfl, h1, h2⟩ := trodAll_cons h
    obtain ⟨hr, hrow⟩ := ht t (by simp)
    exact trodAll_cons_mk (WideElems.Trod_stays hl hr hrow h1 (fun x hx => hb.same (hlt x (List.mem_append_left _ hx))) (fun x hx => hsp x (List.mem_append_left _ hx)))
      (trodAll_stays hl hb (fun t' ht' => ht t' (by simp [ht'])) h2 (fun x hx => hlt x (List.mem_append_right _ hx)) (fun x hx => hsp x (List.mem_append_right _ hx)))
/-- What a statement's row asks of a call that returns true and keeps all that lay there. -/
theorem post_law {f : Func} {s : ChangeSpec} {W W' : World} {args : Array Value} {ds : List (DataW H)} {before : List MemPlace} {tb : TypeId} (hsv : s.vars = []) (hfn : s.fn H (ds ++ []) = { results := [.lit (.bool true)], args := ds })
    (hl : laidOutB P = true) (hpt : ∀ t ∈ f.params.toList, P.readableRec t = true ∧ t < P.types.size) (hrt : f.resultTypes = #[tb]) (htb : P.underlying tb = some .bool)
    (hW : DataW.Whole enc P f.params.toList s.vars false W args.toList ds [] before) (hb : Below W.heap.size W W') : s.post enc P f false true false false W args (.bool true) W' := by
  have hlt : ∀ p ∈ before, p.block < W.heap.size := fun p hp => hW.lt p hp
  have hW2 := hW
  obtain ⟨p, q, hA, hV, rfl, _, _⟩ := hW
  rw [hsv] at hV
  obtain ⟨_, rfl⟩ := trodVars_none hV
  rw [List.append_nil] at hlt
  refine ⟨ds, [], _, [], p, [], hW2, ?_, ?_, ?_, ?_, fun h => by cases h⟩
  · rw [hfn, hrt]
    exact trodAll_cons_mk (p := []) (p' := []) (shut_bool htb _) trodAll_mk0
  · rw [hfn]
    exact trodAll_stays hl hb hpt hA hlt (fun x hx => by simpa using hlt x hx)
  · rw [hsv, hfn]
    rfl
  · exact World.keptBut_mono (fun x hx => ⟨by simpa using hx, .inr (.inl (by simpa using hx))⟩) (hb.frame (· ∈ p))
end
end Go.Proofs.YtnabbmdhhddfbaaDoor
namespace Go.Proofs.YtnabbmdhhddfbaaDoor
open Go.ChangeShapes Go.WideShapes Go.ChangeAt Go.RowKit Go.Deep
theorem own : ownKnob Tryd.prog.godebug = none := by kernel_rfl
theorem laidOut : laidOutB Tryd.prog = true := by kernel_rfl
/-- The cells of a table. -/
def tabCells (d : DataW Unit) : Array Value :=
  match d with
  | .agg ps => (ps.map fun x => match x with
    | .lit (.int k n) => Value.int k n
    | _ => undef).toArray
  | _ => #[]
def laidOn (P : Program) : List (String × DataW Unit) → World → World
  | [], w => w
  | (n, d) :: r, w => laidOn P r { w with heap := w.heap.modify ((P.globalNamed n).getD 0) fun
      | .cells _ t frozen => .cells (tabCells d) t frozen
      | o => o }
/-- A world that holds the tables. -/
noncomputable def laidWorld (os : Os) : World := laidOn Tryd.prog Rows.phyloBuildsRow.laid (World.holding Tryd.prog os ⟨#[], #[], []⟩)
theorem list_two {α : Type} : ∀ {l : List α}, l.length = 2 → ∃ a b, l = [a, b]
  | [a, b], _ => ⟨a, b, rfl⟩
def IntOk (x : Int) : Prop := -9223372036854775808 ≤ x ∧ x ≤ 9223372036854775807
end Go.Proofs.YtnabbmdhhddfbaaDoor
namespace Go.Proofs.YtnabbmdhhddfbaaDoor
open Go.ChangeShapes Go.WideShapes Go.RowKit Go.Deep
theorem weightsAll_mem {H : Type} {P : Program} {e : TypeId} {d : DataW H} : ∀ {l : List (DataW H)}, d ∈ l → ∀ n ∈ d.weights P e, n ∈ DataW.weightsAll P e l
  | x :: l, h, n, hn => by
    simp only [DataW.weightsAll, List.mem_append]
    rcases List.mem_cons.1 h with rfl | h
    · exact .inl hn
    · exact .inr (weightsAll_mem h n hn)
/-- Each argument's weights are bounded. -/
theorem sized_arg {H : Type} {P : Program} {ts : List TypeId} {ds : List (DataW H)} (h : (DataW.weightsEach P ts ds).all (· ≤ reachBytes) = true) {j : Nat} {t : TypeId} {d : DataW H} (ht : ts[j]? = some t) (hd : ds[j]? = some d) : ∀ y ∈ d.weights P t, y ≤ reachBytes :=
  fun y hy => of_decide_eq_true (List.all_eq_true.1 h _ (DataW.weights_mem_each ht hd y hy))
section
variable {H : Type} {enc : TypeId × Value → H} {P : Program}
/-- The cells of a slice that came in: read as a list; its elements' sizes bounded. -/
theorem rd_cellsS {α : Type} {encα : α → List Value} {k : Nat} (hk : ∀ x, (encα x).length = k) (hk0 : 0 < k) {good : α → Prop} {W : World} {t e : TypeId} (ht : P.underlying t = some (.slice e)) (hC : P.cellsOf e = k)
    (hel : ∀ (n : Nat) (cs : List Value) (x : DataW H × List MemPlace), DataW.trod enc P W 0 (fun _ => true) true n e cs = some x → (∀ y ∈ x.1.weights P e, y ≤ reachBytes) → ∃ a : α, cs = encα a ∧ good a) {fuel : Nat} {cs : List Value} {x : DataW H × List MemPlace}
    (hf : DataW.trod enc P W 0 (fun _ => true) true fuel t cs = some x) (hsz : ∀ y ∈ x.1.weights P t, y ≤ reachBytes) :
    ∃ (a : Option Addr) (n c : Nat) (l : List α), cs = [.slice a n c] ∧ l.length = n ∧ n ≤ 9223372036854775807 ∧ (n ≤ c ∧ c ≤ 9223372036854775807) ∧ n * P.bytesOf e ≤ reachBytes ∧ (a = none → n = 0 ∧ c = 0) ∧ Rd W a (fl encα l) ∧ ∀ i (hi : i < l.length), good l[i] := by
  rcases open_slice ht hf with ⟨rfl, _⟩ | ⟨a', len, cap, m, n, D, Pl, rfl, hb, hlc, hcm, hm, hx, hi⟩
  · exact ⟨none, 0, 0, [], rfl, rfl, by omega, ⟨by omega, by omega⟩, by simp, fun _ => ⟨rfl, rfl⟩, Rd.nil _ _, fun i hi => absurd hi (by simp)⟩
  · have hwt : ∀ i, i < len → ∀ y ∈ (D i).weights P e, y ≤ reachBytes := by
      intro i hil y hy
      refine hsz y ?_
      rw [hx]
      simp only [DataW.weights, ht, List.mem_cons, List.mem_append]
      exact .inr (.inl (weightsAll_mem (List.mem_map.2 ⟨i, List.mem_range.2 hil, rfl⟩) y hy))
    have hlen : len * P.bytesOf e ≤ reachBytes := by
      have h1 := hsz ((((List.range len).map D).length + ((List.range (m - len)).map fun j => D (len + j)).length) * P.bytesOf e) (by rw [hx]; simp only [DataW.weights, ht, List.mem_cons, true_or])
      refine Nat.le_trans (Nat.mul_le_mul_right _ ?_) h1
      simp
    simp only [if_true] at hm
    subst hm
    rw [hC] at hi
    have hex : ∀ i, i < len → ∃ x : α, good x ∧ ∀ j, j < k → W.cell? (a'.add (i * k + j)) = (encα x)[j]? := by
      intro i hil
      obtain ⟨cs', h1, h2⟩ := hi i (by omega)
      obtain ⟨x, rfl, hg⟩ := hel _ _ _ h2 (hwt i hil)
      obtain ⟨_, _, hat⟩ := World.cells?_some h1
      refine ⟨x, hg, fun j hj => ?_⟩
      rw [← Go.Deep.add_add]
      exact hat j hj
    have hls : ∀ n, n ≤ len → ∃ l : List α, l.length = n ∧ ∀ i (hi : i < l.length), good l[i] ∧ ∀ j, j < k → W.cell? (a'.add (i * k + j)) = (encα l[i])[j]? := by
      intro n
      induction n with
      | zero => intro _; exact ⟨[], rfl, fun i hi => absurd hi (by simp)⟩
      | succ n ih =>
        intro hn
        obtain ⟨l, hl, hg⟩ := ih (by omega)
        obtain ⟨x, hx1, hx2⟩ := hex n (by omega)
        refine ⟨l ++ [x], by simp [hl], fun i hi => ?_⟩
        by_cases e3 : i < l.length
        · rw [List.getElem_append_left e3]; exact hg i e3
        · obtain rfl : i = n := by simp at hi; omega
          rw [List.getElem_append_right (by omega)]
          simpa [hl] using ⟨hx1, hx2⟩
    obtain ⟨l, hl, hg⟩ := hls len (Nat.le_refl _)
    refine ⟨some a', len, _, l, rfl, hl, by unfold maxLen at hcm; omega, ⟨hlc, by unfold maxLen at hcm; omega⟩, hlen, (fun e => by cases e), ?_, fun i hi => (hg i hi).1⟩
    intro h0
    rw [fl_length hk, hl] at h0
    have hlen0 : 0 < len := by
      rcases Nat.eq_zero_or_pos len with e4 | e4
      · rw [e4] at h0; simp at h0
      · exact e4
    have hcell : ∀ i, i < len * k → W.cell? (a'.add i) = (fl encα l)[i]? := by
      intro i hi
      have hq : i / k < len := (Nat.div_lt_iff_lt_mul hk0).2 hi
      have hr : i % k < k := Nat.mod_lt _ hk0
      have e5 : i / k * k + i % k = i := by rw [Nat.mul_comm]; exact Nat.div_add_mod i k
      have h1 := (hg (i / k) (by rw [hl]; exact hq)).2 (i % k) hr
      have h2 := fl_getElem? hk l (i / k) (i % k) hr
      have hq2 : i / k < l.length := by rw [hl]; exact hq
      rw [List.getElem?_eq_getElem hq2] at h2
      simp only [Option.bind_some] at h2
      rw [e5] at h1 h2
      rw [h1, h2]
    obtain ⟨bb, off, sub⟩ := a'
    have hs0 := hcell 0 h0
    have hne : (fl encα l)[0]? = some ((fl encα l)[0]'(by rw [fl_length hk, hl]; exact h0)) := List.getElem?_eq_getElem _
    rw [hne] at hs0
    have hsub : sub = none := by
      cases sub with
      | none => rfl
      | some z =>
        simp only [Addr.add, if_true, World.cell?, Option.isSome_some] at hs0
        split at hs0 <;> cases hs0
    subst hsub
    refine ⟨bb, off, rfl, World.block_lt_of_cell? W _ hs0, fun i hi => ?_⟩
    rw [fl_length hk, hl] at hi
    have h1 := hcell i hi
    rw [List.getElem?_eq_getElem (by rw [fl_length hk, hl]; exact hi)] at h1
    rw [List.getD_eq_getElem?_getD, List.getElem?_eq_getElem (by rw [fl_length hk, hl]; exact hi)]
    refine Eq.trans ?_ h1
    by_cases hi0 : i = 0
    · subst hi0; rfl
    · simp only [Addr.add, if_neg hi0]
/-- A slice that came in: read as a list; its elements' sizes bounded. -/
theorem rd_openS {α : Type} {encα : α → List Value} {k : Nat} (hk : ∀ x, (encα x).length = k) (hk0 : 0 < k) {good : α → Prop} {W : World} {t e : TypeId} (ht : P.underlying t = some (.slice e)) (hC : P.cellsOf e = k)
    (hel : ∀ (n : Nat) (cs : List Value) (x : DataW H × List MemPlace), DataW.trod enc P W 0 (fun _ => true) true n e cs = some x → (∀ y ∈ x.1.weights P e, y ≤ reachBytes) → ∃ a : α, cs = encα a ∧ good a) {r : Reach} {b0 : Nat} {v : Value} {d : DataW H} {ps : List MemPlace}
    (hv : Value.okWide P W r b0 t v) (h : DataW.Trod enc P W 0 (fun _ => true) true t v d ps) (hsz : ∀ y ∈ d.weights P t, y ≤ reachBytes) :
    ∃ (a : Option Addr) (n c : Nat) (l : List α), v = .slice a n c ∧ l.length = n ∧ n ≤ 9223372036854775807 ∧ (n ≤ c ∧ c ≤ 9223372036854775807) ∧ n * P.bytesOf e ≤ reachBytes ∧ (a = none → n = 0 ∧ c = 0) ∧ Rd W a (fl encα l) ∧ ∀ i (hi : i < l.length), good l[i] := by
  obtain ⟨a, len, cap, rfl⟩ := okWide_slice ht hv
  obtain ⟨fuel, hf⟩ := h
  obtain ⟨a', n, c, l, hcs, h1⟩ := rd_cellsS hk hk0 ht hC hel hf hsz
  have e2 : (Value.slice a len cap) = .slice a' n c := by simpa [Value.cells] using hcs
  exact ⟨a', n, c, l, e2, h1⟩
end
theorem cellsInt : Tryd.prog.cellsOf 3 = 1 := by kernel_rfl
theorem cellsStr : Tryd.prog.cellsOf 9 = 1 := by kernel_rfl
theorem cellsU64 : Tryd.prog.cellsOf 44 = 1 := by kernel_rfl
theorem cellsNd : Tryd.prog.cellsOf 60 = 2 := by kernel_rfl
theorem cellsVs : Tryd.prog.cellsOf 22 = 1 := by kernel_rfl
theorem cellsTab : Tryd.prog.cellsOf 24 = 2 := by kernel_rfl
theorem bytesU64 : Tryd.prog.bytesOf 44 = 8 := by kernel_rfl
theorem bytesNd : Tryd.prog.bytesOf 60 = 24 := by kernel_rfl
def VOk (x : Nat) : Prop := x < 18446744073709551616
def NdOk (x : Nd) : Prop := IntOk x.1 ∧ x.2.size ≤ 140737488355328
theorem rd_u64s {H : Type} {enc : TypeId × Value → H} {W : World} (n : Nat) (cs : List Value) (x : DataW H × List MemPlace) (h : DataW.trod enc Tryd.prog W 0 (fun _ => true) true n 44 cs = some x) (_ : ∀ y ∈ x.1.weights Tryd.prog 44, y ≤ reachBytes) : ∃ a : Nat, cs = encV a ∧ VOk a := by
  obtain ⟨z, rfl, _, hw⟩ := DataW.trod_int Tryd.underlying44 h
  have hb := bounds_u64 hw
  refine ⟨z.toNat, ?_, by unfold VOk; omega⟩
  show _ = [Value.int .u64 ((z.toNat : Nat) : Int)]
  rw [Int.toNat_of_nonneg hb.1]
theorem rd_nds {H : Type} {enc : TypeId × Value → H} {W : World} (n : Nat) (cs : List Value) (x : DataW H × List MemPlace) (h : DataW.trod enc Tryd.prog W 0 (fun _ => true) true n 60 cs = some x) (hsz : ∀ y ∈ x.1.weights Tryd.prog 60, y ≤ reachBytes) : ∃ a : Nd, cs = encNd a ∧ NdOk a := by
  obtain ⟨y0, y1, m, rfl, hlen, h0, h1⟩ := trod_struct2 Tryd.underlying60 h
  rw [cellsNd] at hlen
  obtain ⟨c0, c1, rfl⟩ := list_two hlen
  simp only [cellsInt, cellsStr] at h0 h1
  obtain ⟨z0, e0, e00, w0⟩ := DataW.trod_int Tryd.underlying3 h0
  obtain ⟨z1, e1, e11, w1⟩ := DataW.trod_string Tryd.underlying9 h1
  refine ⟨(z0, z1), ?_, bounds_i64 w0, ?_⟩
  · simp at e0 e1
    rw [e0, e1]
    rfl
  · have h2 : z1.data.toList.length ≤ reachBytes := hsz z1.data.toList.length (by
      rw [e00, e11]
      simp only [DataW.weights, Tryd.underlying60]
      show _ ∈ DataW.weightsEach Tryd.prog [_, _] [_, _]
      simp only [DataW.weightsEach, DataW.weights]
      simp)
    have h3 : z1.data.toList.length = z1.size := Array.length_toList
    rw [h3] at h2
    unfold reachBytes at h2
    have h4 : z1.size ≤ 140737488351232 := h2
    show z1.size ≤ _
    omega
set_option maxRecDepth 100000 in
/-- A tree that came in. -/
theorem open_nds {H : Type} {enc : TypeId × Value → H} {W : World} {r : Reach} {b0 : Nat} {v : Value} {d : DataW H} {ps : List MemPlace} (hv : Value.okWide Tryd.prog W r b0 27 v) (h : DataW.Trod enc Tryd.prog W 0 (fun _ => true) true 27 v d ps) (hsz : ∀ y ∈ d.weights Tryd.prog 27, y ≤ reachBytes) :
    ∃ (a : Option Addr) (n c : Nat) (l : List Nd), v = .slice a n c ∧ l.length = n ∧ n ≤ 1152921504606846976 ∧ n ≤ c ∧ c ≤ 9223372036854775807 ∧ Rd W a (fl encNd l) ∧ (∀ i, i < n → (nS l i).size ≤ 9223372036854775807) ∧ ∀ i, i < n → IntOk (nP l i) := by
  obtain ⟨a, n, c, l, h1, h2, h3, ⟨h4a, h4b⟩, h4, h5, h6, h7⟩ := rd_openS encNd_len (by omega) (good := NdOk) Tryd.underlying27 cellsNd rd_nds hv h hsz
  rw [bytesNd] at h4
  have hg : ∀ i, i < n → NdOk (nP l i, nS l i) := fun i hi => by
    have h8 := h7 i (by omega)
    have e : (nP l i, nS l i) = l[i]'(by omega) := by simp [nP, nS, h2 ▸ hi]
    rw [e]; exact h8
  refine ⟨a, n, c, l, h1, h2, by unfold reachBytes at h4; omega, h4a, h4b, h6, fun i hi => ?_, fun i hi => (hg i hi).1⟩
  have h9 : (nS l i).size ≤ 140737488355328 := (hg i hi).2
  omega
set_option maxRecDepth 100000 in
/-- A table that came in. -/
theorem open_tab {H : Type} {enc : TypeId × Value → H} {W : World} {r : Reach} {b0 : Nat} {v : Value} {d : DataW H} {ps : List MemPlace} (hv : Value.okWide Tryd.prog W r b0 24 v) (h : DataW.Trod enc Tryd.prog W 0 (fun _ => true) true 24 v d ps) (hsz : ∀ y ∈ d.weights Tryd.prog 24, y ≤ reachBytes) :
    ∃ (L : Int) (a : Option Addr) (n c : Nat) (l : List Nat), v = .agg #[.int .i64 L, .slice a n c] ∧ IntOk L ∧ l.length = n ∧ n ≤ 1152921504606846976 ∧ n ≤ c ∧ c ≤ 9223372036854775807 ∧ Rd W a (fl encV l) ∧ FitV l := by
  obtain ⟨cs, rfl, hcs⟩ := okWide_struct Tryd.underlying24 hv
  obtain ⟨fuel, hf⟩ := h
  obtain ⟨y0, y1, m, hdp, hlen, h0, h1⟩ := trod_struct2 Tryd.underlying24 hf
  obtain ⟨rfl, rfl⟩ := Prod.mk.inj hdp
  have hlen2 : cs.toList.length = 2 := by rw [Array.length_toList, hcs, cellsTab]
  obtain ⟨c0, c1, hc⟩ := list_two hlen2
  have hc2 : cs = #[c0, c1] := by rw [← Array.toList_inj]; exact hc
  subst hc2
  simp only [cellsInt, cellsVs, Value.cells] at h0 h1
  obtain ⟨z0, e0, e00, w0⟩ := DataW.trod_int Tryd.underlying3 h0
  have hsz1 : ∀ y ∈ y1.1.weights Tryd.prog 22, y ≤ reachBytes := fun y hy => hsz y (by
    simp only [DataW.weights, Tryd.underlying24]
    show _ ∈ DataW.weightsEach Tryd.prog [_, _] [_, _]
    simp only [DataW.weightsEach, List.mem_append]
    exact .inr (.inl hy))
  obtain ⟨a, n, c, l, g1, g2, g3, ⟨g4a, g4b⟩, g4, g5, g6, g7⟩ := rd_cellsS encV_len (by omega) (good := VOk) Tryd.underlying22 cellsU64 rd_u64s h1 hsz1
  rw [bytesU64] at g4
  refine ⟨z0, a, n, c, l, ?_, bounds_i64 w0, g2, by unfold reachBytes at g4; omega, g4a, g4b, g6, fun i hi => ?_⟩
  · simp at e0 g1
    rw [e0, g1]
  · rw [vA_get hi]; exact g7 i hi
end Go.Proofs.YtnabbmdhhddfbaaDoor
