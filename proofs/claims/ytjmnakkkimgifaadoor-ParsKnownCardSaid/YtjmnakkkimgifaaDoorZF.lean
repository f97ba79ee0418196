/- Sorting rows of trees by their parents. pars.Trees. pars.Trees: the walk. pars.Trees at every number; slices.Values of rows of trees; pars.Best. The helper of the statements that makes a tree of its parents. The examples of the statements: what they come to (plain). works: the example of all statements of package 33. Grown trees (plain). The statements' grown trees. -/
import Derived.Test.YtjmnakkkimgifaaDoorZE
import Derived.Test.YtjmnakkkimgifaaDoorZD
import Derived.Test.YtjmnakkkimgifaaDoorZC
import Derived.Test.YtjmnakkkimgifaaDoorZB
namespace Go.Proofs.YtjmnakkkimgifaaDoor
open Go Go.RowKit Go.Shelf Go.Sort
section
variable {α : Type} [Inhabited α] {enc : α → Value}
theorem grownBy_sort {w : World} {g n : Nat} {os : Array Obj} (d : Array α) : w.grownBy (sortWorld enc w g 0 n d os) (some g) := by
  refine ⟨rfl, rfl, rfl, by simp [sortWorld], fun k hk hne => ?_⟩
  unfold sortWorld
  rw [heap_grow_old _ _ (by simpa using hk)]
  have : g ≠ k := fun e => hne (by rw [e])
  simp [putRow, mapBlock, Sort.ahead, Array.getElem?_modify, this]
theorem owns_sort {w : World} {base e n cap g N : Nat} {xs : List Value} {os : Array Obj} (h : w.ownsRow base e 1 (.slice (some ⟨g, 0, none⟩) n cap) n xs) (d : Array α) (hd : d.size = n) :
    (sortWorld enc w g 0 N d os).ownsRow base e 1 (.slice (some ⟨g, 0, none⟩) n cap) n (d.toList.map enc) := by
  rcases h.2 with ⟨hv, _⟩ | ⟨g', cap', cur, hv, hg, hh, hn, hmx, hcs, _⟩
  · cases hv
  · cases hv
    have hlt := (Array.getElem?_eq_some_iff.1 hh).1
    refine ⟨by simp; omega, .inr ⟨g, cap, putCells enc 0 d cur, rfl, hg, ?_, by omega, hmx, by simp [putCells, hcs], ?_⟩⟩
    · unfold sortWorld
      rw [heap_grow_old _ _ (by simpa using hlt)]
      simp [putRow, mapBlock, Sort.ahead, Array.getElem?_modify, hh, onCells]
    · apply List.ext_getElem?
      intro i
      by_cases hi : i < n
      · have h1 : i < cur.size := by omega
        have h2 : i < d.size := by omega
        simp [putCells, hi, h1, h2]
      · rw [List.getElem?_eq_none (by simp; omega), List.getElem?_eq_none (by simp; omega)]
theorem holds_of_owns {w : World} {base e n cap g : Nat} {d : Array α} (h : w.ownsRow base e 1 (.slice (some ⟨g, 0, none⟩) n cap) n (d.toList.map enc)) : Holds enc w g 0 d := by
  rcases h.2 with ⟨hv, _⟩ | ⟨g', cap', cur, hv, hg, hh, hn, hmx, hcs, ht⟩
  · cases hv
  · cases hv
    intro j hj
    have hl := h.1
    rw [List.length_map, Array.length_toList] at hl
    have h1 : j < cur.size := by omega
    have h2 : cur[j]? = some (enc d[j]!) := by
      have := congrArg (fun l => l[j]?) ht
      simp [show j < n by omega, h1, hj] at this
      simp [h1, hj, this]
    refine ⟨?_, ?_⟩
    · simp [World.cell?, hh, h2]
    · simp [World.frozen?, hh]
end
theorem cmpP_self : ∀ l : List Int, cmpP l l = 0
  | [] => rfl
  | x :: l => by
    show (if x = x then cmpP l l else x - x) = 0
    rw [if_pos rfl]; exact cmpP_self l
theorem asc_range : ∀ (l : List Nat) (a : Nat), l.Pairwise (· < ·) → (∀ x, x ∈ l → a ≤ x ∧ x < a + l.length) → l = List.range' a l.length
  | [], _, _, _ => rfl
  | x :: l, a, hp, hb => by
    obtain ⟨h1, h2⟩ := List.pairwise_cons.1 hp
    have hx := hb x (by simp)
    have ih := asc_range l (a + 1) h2 (fun y hy => by
      have := h1 y hy
      have := (hb y (by simp [hy])).2
      rw [List.length_cons] at this
      omega)
    have e : x = a := by
      cases l with
      | nil => rw [List.length_cons, List.length_nil] at hx; omega
      | cons y l =>
        have hy : y = a + 1 := by
          have := congrArg (fun l => l.head?) ih
          simpa [List.range'] using this
        have := h1 y (by simp)
        omega
    rw [List.length_cons, List.range'_succ, ← ih, e]
/-- What sorting by places gives (plain). -/
theorem sort_place {N : Nat} (pos : Fin N → Nat) (hp : ∀ i, pos i < N) (hi : ∀ i j, pos i = pos j → i = j) (L : List (Fin N)) (hL : L.Perm (List.finRange N)) (hs : L.Pairwise fun x y => ¬ pos y < pos x) : L.map pos = List.range N := by
  have h1 : L.Nodup := hL.nodup_iff.2 (List.nodup_finRange N)
  have hlen : (L.map pos).length = N := by rw [List.length_map, hL.length_eq, List.length_finRange]
  have h2 : (L.map pos).Pairwise (· < ·) := List.Pairwise.map pos (fun a b h => h) ((hs.and h1).imp fun {a b} h => by
    have h3 : pos a ≠ pos b := fun e => h.2 (hi a b e)
    omega)
  have h := asc_range (L.map pos) 0 h2 (fun x hx => by
    obtain ⟨i, _, rfl⟩ := List.mem_map.1 hx
    have := hp i
    omega)
  rw [hlen] at h
  rw [h, List.range_eq_range']
/-- The signs of the comparisons in a list in order. -/
def sgnB (S : List (List Int)) : Bool := (List.range S.length).all fun a => (List.range S.length).all fun b => decide (cmpP (S.getD a []) (S.getD b []) < 0) == decide (a < b)
theorem sgnB_iff {S : List (List Int)} (h : sgnB S = true) {a b : Nat} (ha : a < S.length) (hb : b < S.length) : cmpP (S.getD a []) (S.getD b []) < 0 ↔ a < b := by
  unfold sgnB at h
  have h1 := List.all_eq_true.1 (List.all_eq_true.1 h a (List.mem_range.2 ha)) b (List.mem_range.2 hb)
  rw [beq_iff_eq] at h1
  constructor
  · intro q; rw [decide_eq_true q] at h1; simpa using h1.symm
  · intro q; rw [decide_eq_true q] at h1; simpa using h1
theorem sgnB_inj {S : List (List Int)} (h : sgnB S = true) {a b : Nat} (ha : a < S.length) (hb : b < S.length) (e : S.getD a [] = S.getD b []) : a = b := by
  have h1 := sgnB_iff h ha hb
  have h2 := sgnB_iff h hb ha
  rw [e, cmpP_self] at h1 h2
  omega
/-- Where a list stands among those in order. -/
def plcS (S : List (List Int)) (p : List Int) : Nat := S.idxOf p
theorem plcS_at {S : List (List Int)} {p : List Int} (h : p ∈ S) : plcS S p < S.length ∧ S.getD (plcS S p) [] = p := by
  have h1 := List.idxOf_lt_length_of_mem h
  refine ⟨h1, ?_⟩
  unfold plcS
  rw [List.getD_eq_getElem?_getD, List.getElem?_eq_getElem h1, List.getElem_idxOf h1]
  rfl
set_option maxRecDepth 100000 in
set_option maxHeartbeats 4000000 in
theorem sortTs_any {w : World} {base N cap g m : Nat} {T : Nat → List Nd} {rs : Nat → Rw} (S : List (List Int)) (h : TsW w base (.slice (some ⟨g, 0, none⟩) (N + 1) cap) (N + 1) T rs) (hN : N < 1000000) (hm : ∀ i, i < N + 1 → (T i).length = m) (hm2 : m ≤ 1000)
    (hp : ∀ i, i < N + 1 → ∀ j, j < m → -1000 ≤ nP (T i) j ∧ nP (T i) j ≤ 1000) (hS : S.Perm ((List.range (N + 1)).map fun i => parL (T i))) (hg : sgnB S = true) :
    Calls Tryd.prog 32 #[.slice (some ⟨g, 0, none⟩) (N + 1) cap, .func (.func 33) #[] #[]] w fun e w' => e = .returned (.tuple #[]) ∧ (∃ rs' T', TsW w' base (.slice (some ⟨g, 0, none⟩) (N + 1) cap) (N + 1) T' rs' ∧ ∀ k, k < N + 1 → parL (T' k) = S.getD k [] ∧ ∃ i, i < N + 1 ∧ T' k = T i) ∧ ∀ a : World, a.heap.size ≤ base → Below a.heap.size a w → Below a.heap.size a w' := by
  have hSl : S.length = N + 1 := by rw [hS.length_eq, List.length_map, List.length_range]
  have hmem : ∀ i, i < N + 1 → parL (T i) ∈ S := fun i hi => hS.mem_iff.2 (List.mem_map.2 ⟨i, List.mem_range.2 hi, rfl⟩)
  have hnd : ((List.range (N + 1)).map fun i => parL (T i)).Nodup := by
    refine hS.nodup_iff.1 ?_
    refine List.pairwise_iff_getElem.2 fun i j hi hj hij e' => ?_
    have := sgnB_inj hg hi hj (by rw [List.getD_eq_getElem?_getD, List.getD_eq_getElem?_getD, List.getElem?_eq_getElem hi, List.getElem?_eq_getElem hj, e'])
    omega
  have hinj : ∀ i j, i < N + 1 → j < N + 1 → parL (T i) = parL (T j) → i = j := fun i j hi hj e => by
    have h1 := List.pairwise_iff_getElem.1 hnd
    rcases Nat.lt_trichotomy i j with q | q | q
    · exact absurd (by rw [List.getElem_map, List.getElem_map, List.getElem_range, List.getElem_range]; exact e) (h1 i j (by simpa using hi) (by simpa using hj) q)
    · exact q
    · exact absurd (by rw [List.getElem_map, List.getElem_map, List.getElem_range, List.getElem_range]; exact e.symm) (h1 j i (by simpa using hj) (by simpa using hi) q)
  have hplt : ∀ i : Fin (N + 1), plcS S (parL (T i)) < N + 1 := fun i => by have := (plcS_at (hmem i i.isLt)).1; omega
  have hpin : ∀ i j : Fin (N + 1), plcS S (parL (T i)) = plcS S (parL (T j)) → i = j := fun i j e => by
    have h1 := (plcS_at (hmem i i.isLt)).2
    have h2 := (plcS_at (hmem j j.isLt)).2
    rw [e, h2] at h1
    exact Fin.ext (hinj i j i.isLt j.isLt h1.symm)
  have hlt : ∀ i j : Fin (N + 1), ltOf (fun i j : Fin (N + 1) => cmpP (parL (T i)) (parL (T j))) i j = decide (plcS S (parL (T i)) < plcS S (parL (T j))) := fun i j => by
    unfold ltOf
    have h1 := plcS_at (hmem i i.isLt)
    have h2 := plcS_at (hmem j j.isLt)
    have := sgnB_iff hg h1.1 h2.1
    rw [h1.2, h2.2] at this
    rw [Bool.eq_iff_iff, decide_eq_true_eq, decide_eq_true_eq]
    exact this
  have hO : SWO (ltOf fun i j : Fin (N + 1) => cmpP (parL (T i)) (parL (T j))) :=
    ⟨fun x => by rw [hlt]; simp, fun x y z h1 h2 => by rw [hlt, decide_eq_true_eq] at *; omega, fun x y z h1 h2 => by rw [hlt, decide_eq_false_iff_not] at *; omega⟩
  have hT : ∀ x y : Fin (N + 1), (ltOf fun i j : Fin (N + 1) => cmpP (parL (T i)) (parL (T j))) x y = false → (ltOf fun i j : Fin (N + 1) => cmpP (parL (T i)) (parL (T j))) y x = false → x = y := fun x y h1 h2 => by
    rw [hlt, decide_eq_false_iff_not] at h1 h2
    exact hpin x y (by omega)
  obtain ⟨enc, henc⟩ : ∃ enc : Fin (N + 1) → Value, enc = fun i : Fin (N + 1) => slR (rs i.val) := ⟨_, rfl⟩
  have henc' : ∀ i : Fin (N + 1), enc i = slR (rs i.val) := fun i => by rw [henc]
  have hone : OneCell enc := fun i => by rw [henc']; rfl
  have hfl : ∀ L : List (Fin (N + 1)), fl encR (L.map fun i : Fin (N + 1) => rs i.val) = L.map enc := fun L => by
    induction L with
    | nil => rfl
    | cons x L ih =>
      show encR (rs x) ++ fl encR _ = enc x :: _
      rw [ih, henc']; rfl
  have hrng : (List.range (N + 1)).map rs = (List.finRange (N + 1)).map fun i : Fin (N + 1) => rs i.val := by
    apply List.ext_getElem?
    intro i
    by_cases hi : i < N + 1
    · simp [hi]
    · rw [List.getElem?_eq_none (by simp; omega), List.getElem?_eq_none (by simp; omega)]
  have hrows := h.rows
  rw [hrng, hfl] at hrows
  have hrows' : w.ownsRow base 33 1 (.slice (some ⟨g, 0, none⟩) (N + 1) cap) (N + 1) ((List.finRange (N + 1)).toArray.toList.map enc) := hrows
  have hsz : (List.finRange (N + 1)).toArray.size = N + 1 := by simp
  have hgb : base ≤ g ∧ g < w.heap.size := h.rows.lt g rfl
  have hcmp : CmpLays1 Tryd.prog 33 #[] enc (fun i j : Fin (N + 1) => cmpP (parL (T i)) (parL (T j))) g 0 (List.finRange (N + 1)).toArray.size w := by
    intro q os dk _ x y
    have hgr := grownBy_sort (enc := enc) (w := w) (g := g) (n := q) (os := os) dk
    obtain ⟨W, hW⟩ : ∃ W, W = sortWorld enc w g 0 q dk os := ⟨_, rfl⟩
    rw [← hW] at hgr ⊢
    have hrd : ∀ i, i < N + 1 → ∃ a c, rs i = (a, m, c) ∧ Rd W a (fl encNd (T i)) := fun i hi => by
      obtain ⟨a, c, e, hr⟩ := h.rd hi
      rw [hm i hi] at e
      refine ⟨a, c, e, rd_block hr hgr.size fun b o e2 hb => hgr.block b hb (fun e3 => ?_)⟩
      have e3 := Option.some.inj e3
      rcases h.far i hi with q | q
      · rw [e, e2] at q; cases q
      · exact q (by rw [e, e2, e3]; rfl)
    obtain ⟨a, c, ea, hra⟩ := hrd x x.isLt
    obtain ⟨b, d, eb, hrb⟩ := hrd y y.isLt
    have hC := Lib.hid (cmpFunc_any a b m c d (T x) (T y) W (hm x x.isLt) (hm y y.isLt) hm2 hra hrb (fun j hj => ⟨hp x x.isLt j hj, hp y y.isLt j hj⟩))
    rw [henc', henc', ea, eb]
    clear hW hgr hrd hra hrb ea eb
    show Calls Tryd.prog 33 #[.slice a m c, .slice b m d] W _
    go_enter Tryd.func33, Tryd.ntmps33
    go_wp2_with fail
    refine hC.out.mono ?_
    rintro e w2 ⟨rfl, hG⟩
    have HG := Lib.hid hG
    clear hG
    go_wp2_with fail
    go_ret
    obtain ⟨os, e⟩ := HG.out
    exact ⟨rfl, 0, os, e⟩
  have hR := Any.slices_SortFunc_total Tryd.sortTrees enc hone (fun i j : Fin (N + 1) => cmpP (parL (T i)) (parL (T j))) hO 33 #[] g 0 cap (List.finRange (N + 1)).toArray w (enters_of Tryd.func33 (by kernel_rfl) rfl) hcmp (holds_of_owns hrows') hgb.2 (by rw [hsz]; omega) hT
  rw [hsz] at hR
  refine hR.mono ?_
  rintro e w' ⟨rfl, q, os, rfl⟩
  obtain ⟨L, hL⟩ : ∃ L : List (Fin (N + 1)), L = (List.finRange (N + 1)).toArray.toList.mergeSort fun x y => !(ltOf fun i j : Fin (N + 1) => cmpP (parL (T i)) (parL (T j))) y x := ⟨_, rfl⟩
  rw [← hL]
  have hLp : L.Perm (List.finRange (N + 1)) := by rw [hL]; exact List.mergeSort_perm _ _
  have hLs : L.Pairwise fun x y : Fin (N + 1) => ¬ plcS S (parL (T y.val)) < plcS S (parL (T x.val)) := by
    rw [hL]
    have h1 := List.pairwise_mergeSort (le := fun x y => !(ltOf fun i j : Fin (N + 1) => cmpP (parL (T i)) (parL (T j))) y x) (fun a b c h1 h2 => by
      rw [Bool.not_eq_true'] at *
      rw [hlt, decide_eq_false_iff_not] at *
      omega) (fun a b => by
      rw [hlt, hlt, Bool.or_eq_true, Bool.not_eq_true', Bool.not_eq_true', decide_eq_false_iff_not, decide_eq_false_iff_not]
      omega) (List.finRange (N + 1)).toArray.toList
    exact h1.imp fun {a b} h => by
      rw [Bool.not_eq_true', hlt, decide_eq_false_iff_not] at h
      exact h
  have hpl := sort_place (fun i : Fin (N + 1) => plcS S (parL (T i))) hplt hpin L hLp hLs
  have hlen : L.length = N + 1 := by rw [hLp.length_eq, List.length_finRange]
  have hgr := grownBy_sort (enc := enc) (w := w) (g := g) (n := q) (os := os) L.toArray
  have hown := owns_sort (enc := enc) (N := q) (os := os) h.rows L.toArray (by simpa using hlen)
  have hat : ∀ k (hk : k < N + 1), plcS S (parL (T (L[k]'(by omega)))) = k := fun k hk => by
    have := congrArg (fun l => l[k]?) hpl
    simp only [List.getElem?_map, List.getElem?_eq_getElem (show k < L.length by omega), Option.map_some, List.getElem?_range hk] at this
    exact Option.some.inj this
  refine ⟨rfl, ⟨fun k => if hk : k < N + 1 then rs (L[k]'(by omega)) else (none, 0, 0), fun k => if hk : k < N + 1 then T (L[k]'(by omega)) else [], ⟨?_, fun i hi => ?_, fun i hi => ?_, fun i j hi hj hij => ?_, fun i hi => ?_⟩, fun k hk => ?_⟩, fun a ha hb => bl_grown hb hgr (fun r e => by have := Option.some.inj e; omega)⟩
  · have e : (List.range (N + 1)).map (fun k => if hk : k < N + 1 then rs (L[k]'(by omega)) else (none, 0, 0)) = L.map fun i : Fin (N + 1) => rs i.val := by
      apply List.ext_getElem?
      intro i
      by_cases hi : i < N + 1
      · simp [hi, show i < L.length by omega]
      · rw [List.getElem?_eq_none (by simp; omega), List.getElem?_eq_none (by simp; omega)]
    rw [e, hfl]
    exact hown
  · simp only [dif_pos hi]
    exact (h.row _ (Fin.isLt _)).kept hgr (h.far _ (Fin.isLt _))
  · simp only [dif_pos hi]
    exact h.len _ (Fin.isLt _)
  · simp only [dif_pos hi, dif_pos hj]
    refine h.dis _ _ (Fin.isLt _) (Fin.isLt _) fun e => hij ?_
    have h1 := hat i hi
    have h2 := hat j hj
    rw [← h1, ← h2, e]
  · simp only [dif_pos hi]
    exact h.far _ (Fin.isLt _)
  · simp only [dif_pos hk]
    refine ⟨?_, _, Fin.isLt _, rfl⟩
    have h1 := (plcS_at (hmem _ (L[k]'(by omega)).isLt)).2
    rw [hat k hk] at h1
    exact h1.symm
end Go.Proofs.YtjmnakkkimgifaaDoor
namespace Go.Proofs.YtjmnakkkimgifaaDoor
open Go Go.RowKit Go.Shelf
/-- A number below 100 as a text. -/
def dgB (i : Nat) : ByteArray := ⟨(Go.Lib.decDigits i).toArray⟩
theorem dgB_size (i : Nat) (h : i < 100) : (dgB i).size ≤ 2 := by
  have : (Go.Lib.decDigits i).length ≤ 2 := by
    rw [Go.Lib.decDigits]
    split
    · simp
    · rw [Go.Lib.decDigits, dif_pos (by omega)]; simp
  simp only [dgB, ByteArray.size, List.size_toArray]
  exact this
/-- The name of node v of a tree of m leaves. -/
def nmV (m v : Nat) : ByteArray := if v + 1 < m then ⟨#[73]⟩ ++ dgB v else ⟨#[76]⟩ ++ dgB (v + 1 - m)
def prtT (m : Nat) (ps : List Int) (u : Nat) : List Nd := (List.range ps.length).map fun v => (iA ps v, if v < u then nmV m v else ByteArray.empty)
def nmT (m : Nat) (ps : List Int) : List Nd := (List.range ps.length).map fun v => (iA ps v, nmV m v)
theorem prtT_len (m : Nat) (ps : List Int) (u : Nat) : (prtT m ps u).length = ps.length := by simp [prtT]
theorem prtT_zero (m : Nat) (ps : List Int) : prtT m ps 0 = mkN ps := by
  unfold prtT mkN
  apply List.ext_getElem?
  intro i
  by_cases hi : i < ps.length
  · simp [hi, iA]
  · rw [List.getElem?_eq_none (by simp; omega), List.getElem?_eq_none (by simp; omega)]
theorem prtT_all (m : Nat) (ps : List Int) {u : Nat} (h : ps.length ≤ u) : prtT m ps u = nmT m ps := by
  unfold prtT nmT
  refine List.map_congr_left fun v hv => ?_
  rw [if_pos (by have := List.mem_range.1 hv; omega)]
theorem parL_mkN (ps : List Int) : parL (mkN ps) = ps := by
  unfold parL mkN
  rw [List.map_map]
  have e : ((fun x : Nd => x.1) ∘ fun p : Int => ((p, ByteArray.empty) : Nd)) = id := rfl
  rw [e, List.map_id]
theorem parL_nmT (m : Nat) (ps : List Int) : parL (nmT m ps) = ps := by
  unfold parL nmT
  apply List.ext_getElem?
  intro i
  by_cases hi : i < ps.length
  · simp [hi, iA]
  · rw [List.getElem?_eq_none (by simp; omega), List.getElem?_eq_none (by omega)]
theorem nP_of_parL (t : List Nd) (j : Nat) : nP t j = iA (parL t) j := parL_at.symm
/-- No tree that grows has names. -/
theorem grownL_mkN (ps : List Int) (v : Nat) : grownL (mkN ps) v = mkN (parL (grownL (mkN ps) v)) := by
  have hS : ∀ u, nS (nG (mkN ps)) u = ByteArray.empty := fun u => by
    unfold nS nG mkN
    rw [List.getD_eq_getElem?_getD]
    by_cases h : u < ps.length
    · rw [List.getElem?_append_left (by simpa using h)]; simp [h]
    · rw [List.getElem?_append_right (by simpa using h), List.length_map]
      match u - ps.length with
      | 0 => rfl
      | 1 => rfl
      | q + 2 => rfl
  generalize mkN ps = t at *
  unfold grownL numL numS parL mkN
  simp only [List.map_append, List.map_map]
  congr 1
  · exact List.map_congr_left fun x _ => by simp only [Function.comp]; rw [hS]
  · exact List.map_congr_left fun x _ => by simp only [Function.comp]; rw [hS]
/-- What is known of the trees of k + 1 leaves. -/
theorem okS_at {A B : List (List Int)} {n : Nat} (h : okS A B n = true) {i : Nat} (hi : i < A.length) : (A.getD i []).length = n ∧ okP (mkN (A.getD i [])) = true ∧ ∀ v, v < n → okG (mkN (A.getD i [])) v = true := by
  unfold okS at h
  rw [Bool.and_eq_true, List.all_eq_true] at h
  have h1 := h.1 (A.getD i []) (by rw [List.getD_eq_getElem?_getD, List.getElem?_eq_getElem hi]; exact List.getElem_mem hi)
  rw [Bool.and_eq_true, Bool.and_eq_true, decide_eq_true_eq, List.all_eq_true] at h1
  exact ⟨h1.1.1, h1.1.2, fun v hv => h1.2 v (List.mem_range.2 hv)⟩
theorem flat_at {α β : Type} (f : α → List β) (n : Nat) (z : α) (y : β) : ∀ (A : List α), (∀ a, a ∈ A → (f a).length = n) → (A.flatMap f).length = A.length * n ∧ ∀ i v, i < A.length → v < n → (A.flatMap f).getD (i * n + v) y = (f (A.getD i z)).getD v y
  | [], _ => ⟨by simp, fun i v h => absurd h (by simp)⟩
  | a :: A, h => by
    have ha := h a (by simp)
    obtain ⟨h1, h2⟩ := flat_at f n z y A (fun b hb => h b (by simp [hb]))
    refine ⟨by rw [List.flatMap_cons, List.length_append, h1, ha, List.length_cons, Nat.add_mul]; omega, fun i v hi hv => ?_⟩
    rw [List.flatMap_cons, List.getD_eq_getElem?_getD]
    cases i with
    | zero =>
      rw [List.getElem?_append_left (by rw [ha]; omega), Nat.zero_mul, Nat.zero_add, List.getD_eq_getElem?_getD]; rfl
    | succ i =>
      rw [List.getElem?_append_right (by rw [ha, Nat.add_mul]; omega), ha, show (i + 1) * n + v - n = i * n + v by rw [Nat.add_mul]; omega, ← List.getD_eq_getElem?_getD]
      exact h2 i v (by simpa using hi) hv
theorem okS_next {A B : List (List Int)} {n : Nat} (h : okS A B n = true) : B.length = A.length * n ∧ ∀ i v, i < A.length → v < n → mkN (B.getD (i * n + v) []) = grownL (mkN (A.getD i [])) v := by
  have hl : ∀ a, a ∈ A → a.length = n := fun a ha => by
    unfold okS at h
    rw [Bool.and_eq_true, List.all_eq_true] at h
    have h1 := h.1 a ha
    rw [Bool.and_eq_true, Bool.and_eq_true, decide_eq_true_eq] at h1
    exact h1.1.1
  have hB : (A.flatMap fun ps => (List.range ps.length).map fun v => (grownL (mkN ps) v).map (·.1)) = B := by
    unfold okS at h
    rw [Bool.and_eq_true, decide_eq_true_eq] at h
    exact h.2
  obtain ⟨h1, h2⟩ := flat_at (fun ps : List Int => (List.range ps.length).map fun v => (grownL (mkN ps) v).map (·.1)) n ([] : List Int) ([] : List Int) A (fun a ha => by simp [hl a ha])
  rw [hB] at h1 h2
  refine ⟨h1, fun i v hi hv => ?_⟩
  rw [h2 i v hi hv, grownL_mkN]
  have hi2 : (A.getD i []).length = n := hl _ (by rw [List.getD_eq_getElem?_getD, List.getElem?_eq_getElem hi]; exact List.getElem_mem hi)
  rw [List.getD_eq_getElem?_getD, List.getElem?_map, List.getElem?_range (by omega)]
  rfl
/-- A row of v gets a text. -/
theorem fl_nd_setS (t : List Nd) (j : Nat) (s : ByteArray) : (fl encNd t).set (j * 2 + 1) (.string s) = fl encNd (t.set j (nP t j, s)) := by
  induction t generalizing j with
  | nil => simp [fl]
  | cons x t ih =>
    have e : ∀ (x : Nd) l, fl encNd (x :: l) = .int .i64 x.1 :: .string x.2 :: fl encNd l := fun x l => by simp [fl, encNd]
    cases j with
    | zero =>
      rw [Nat.zero_mul, Nat.zero_add]
      rw [e, List.set_cons_succ, List.set_cons_zero, List.set_cons_zero, e]
      rfl
    | succ j =>
      rw [show (j + 1) * 2 + 1 = (j * 2 + 1) + 1 + 1 by omega, e, List.set_cons_succ, List.set_cons_succ, List.set_cons_succ, ih, e]
      rfl
theorem TsW.setS {w : World} {base n : Nat} {v : Value} {T : Nat → List Nd} {rs : Nat → Rw} (h : TsW w base v n T rs) {i j b c : Nat} (hi : i < n) (hx : rs i = (some ⟨b, 0, none⟩, (T i).length, c)) (s : ByteArray) :
    TsW (w.setCell ⟨b, j * 2 + 1, none⟩ (.string s)) base v n (fun r => if r = i then (T i).set j (nP (T i) j, s) else T r) rs := by
  have hob : (slR (rs i)).ownBlock = some b := by rw [hx]; rfl
  refine ⟨?_, fun r hr => ?_, fun r hr => ?_, h.dis, h.far⟩
  · refine ownsRow_setCell_other (a := ⟨b, j * 2 + 1, none⟩) h.rows (fun e => ?_) _
    rcases h.far i hi with q | q
    · rw [hob] at q; cases q
    · exact q (by rw [hob, e])
  · by_cases e : r = i
    · subst e
      simp only [if_pos, List.length_set]
      have h1 := h.row r hr
      rw [hx] at h1 ⊢
      have h2 := (World.ownsRow.stored h1 (j * 2 + 1) (.string s)).1
      rw [fl_nd_setS] at h2
      exact h2
    · simp only [if_neg e]
      refine ownsRow_setCell_other (a := ⟨b, j * 2 + 1, none⟩) (h.row r hr) (fun e2 => ?_) _
      rcases h.dis r i hr hi e with h1 | h1
      · rw [h1] at e2; cases e2
      · exact h1 (by rw [hob]; exact e2)
  · by_cases e : r = i
    · subst e
      simp only [if_pos, List.length_set]; exact h.len r hr
    · simp only [if_neg e]; exact h.len r hr
theorem TsW.at {w : World} {base n : Nat} {v : Value} {T : Nat → List Nd} {rs : Nat → Rw} (h : TsW w base v n T rs) {i : Nat} (hi : i < n) (h0 : 0 < (T i).length) : ∃ b c, rs i = (some ⟨b, 0, none⟩, (T i).length, c) ∧ base ≤ b ∧ b < w.heap.size := by
  have h1 := h.row i hi
  have h2 := h.len i hi
  obtain ⟨x, hx⟩ : ∃ x, x = rs i := ⟨_, rfl⟩
  rw [← hx] at h1 h2 ⊢
  obtain ⟨A, m, cp⟩ := x
  have h2' : m = (T i).length := h2
  subst h2'
  obtain ⟨a', cap, he, h3⟩ := owns_slice h1
  rcases h3 with h3 | ⟨g', h4, h5, h6⟩
  · omega
  · have he' : Value.slice A (T i).length cp = .slice a' (T i).length cap := he
    injection he' with e1 e2 e3
    exact ⟨g', cp, by rw [e1, h6], h4, h5⟩
theorem prtT_set {m : Nat} {ps : List Int} {u : Nat} (hu : u < ps.length) : (prtT m ps u).set u (nP (prtT m ps u) u, nmV m u) = prtT m ps (u + 1) := by
  apply List.ext_getElem?
  intro i
  rw [List.getElem?_set]
  by_cases e : u = i
  · subst e
    rw [if_pos rfl, if_pos (by rw [prtT_len]; exact hu)]
    unfold prtT nP
    simp [hu]
  · rw [if_neg e]
    unfold prtT
    by_cases hi : i < ps.length
    · rw [List.getElem?_map, List.getElem?_map, List.getElem?_range hi]
      simp only [Option.map_some]
      by_cases q : i < u
      · rw [if_pos q, if_pos (by omega)]
      · rw [if_neg q, if_neg (by omega)]
    · rw [List.getElem?_eq_none (by simp; omega), List.getElem?_eq_none (by simp; omega)]
theorem nP_set {t : List Nd} {u : Nat} {p : Int} {s : ByteArray} (hu : u < t.length) : nP (t.set u (p, s)) u = p := by
  unfold nP
  rw [List.getD_eq_getElem?_getD, List.getElem?_set, if_pos rfl, if_pos hu]
  rfl
theorem prtT_set2 {m : Nat} {ps : List Int} {u : Nat} {s : ByteArray} (hu : u < ps.length) : ((prtT m ps u).set u (nP (prtT m ps u) u, s)).set u (nP ((prtT m ps u).set u (nP (prtT m ps u) u, s)) u, nmV m u) = prtT m ps (u + 1) := by
  rw [nP_set (by rw [prtT_len]; exact hu), List.set_set, prtT_set hu]
theorem trP_len (k : Nat) (h : k < 5) : 0 < (trP k).length ∧ (trP k).length ≤ 105 := by
  match k, h with
  | 0, _ => decide
  | 1, _ => decide
  | 2, _ => decide
  | 3, _ => decide
  | 4, _ => decide
set_option maxRecDepth 100000 in
theorem sgn_so (k : Nat) (h : k < 5) : sgnB (soP (k + 1)) = true := by
  match k, h with
  | 0, _ => decide +kernel
  | 1, _ => decide +kernel
  | 2, _ => decide +kernel
  | 3, _ => decide +kernel
  | 4, _ => decide +kernel
set_option maxRecDepth 100000 in
theorem trP_bd (k : Nat) (h : k < 5) : ((trP k).all fun ps => decide (ps.length = 2 * k + 1) && ps.all fun p => decide (-1 ≤ p) && decide (p ≤ 9)) = true := by
  match k, h with
  | 0, _ => decide +kernel
  | 1, _ => decide +kernel
  | 2, _ => decide +kernel
  | 3, _ => decide +kernel
  | 4, _ => decide +kernel
theorem trP_row {k i : Nat} (h : k < 5) (hi : i < (trP k).length) : ((trP k).getD i []).length = 2 * k + 1 ∧ ∀ j, -1 ≤ iA ((trP k).getD i []) j ∧ iA ((trP k).getD i []) j ≤ 9 := by
  have h1 := List.all_eq_true.1 (trP_bd k h) ((trP k).getD i []) (by rw [List.getD_eq_getElem?_getD, List.getElem?_eq_getElem hi]; exact List.getElem_mem hi)
  rw [Bool.and_eq_true, decide_eq_true_eq] at h1
  refine ⟨h1.1, fun j => ?_⟩
  unfold iA
  rw [List.getD_eq_getElem?_getD]
  cases hj : ((trP k).getD i [])[j]? with
  | none => exact ⟨by decide, by decide⟩
  | some x =>
    have hm : x ∈ (trP k).getD i [] := List.mem_of_getElem? hj
    have h2 := List.all_eq_true.1 h1.2 x hm
    rw [Bool.and_eq_true, decide_eq_true_eq, decide_eq_true_eq] at h2
    exact h2
/-- What Trees answers. -/
def trE (n : Int) : Int := if 1 ≤ n ∧ n ≤ 5 then 0 else 3
def trL (n : Int) : List (List Nd) := if 1 ≤ n ∧ n ≤ 5 then (soP n.toNat).map (nmT n.toNat) else []
end Go.Proofs.YtjmnakkkimgifaaDoor
namespace Go.Proofs.YtjmnakkkimgifaaDoor
open Go Go.RowKit Go.Shelf
/-- The trees of k + 1 leaves, without names. -/
def TrN (k i : Nat) : List Nd := mkN ((trP k).getD i [])
theorem TrN_ok {k i : Nat} (h : k < 4) (hi : i < (trP k).length) : (TrN k i).length = 2 * k + 1 ∧ okP (TrN k i) = true ∧ ∀ v, v < 2 * k + 1 → okG (TrN k i) v = true := by
  obtain ⟨h1, h2, h3⟩ := okS_at (trP_ok k h) hi
  exact ⟨by unfold TrN mkN; rw [List.length_map, h1], h2, h3⟩
theorem TrN_next {k : Nat} (h : k < 4) : (trP (k + 1)).length = (trP k).length * (2 * k + 1) ∧ ∀ i v, i < (trP k).length → v < 2 * k + 1 → TrN (k + 1) (i * (2 * k + 1) + v) = grownL (TrN k i) v := okS_next (trP_ok k h)
set_option maxRecDepth 100000 in
set_option maxHeartbeats 4000000 in
theorem trees_in (N : Nat) (hN : N < 5) (w : World) :
    Calls Tryd.prog 9 #[.int .i64 ((N + 1 : Nat) : Int)] w fun e w' => ∃ v rs T, e = .returned (.tuple #[v, .int .i64 0]) ∧ TsW w' w.heap.size v (trP N).length T rs ∧ (∀ k, k < (trP N).length → T k = nmT (N + 1) ((soP (N + 1)).getD k [])) ∧ Below w.heap.size w w' := by
  have hb1 := bl_alloc (Below.refl _ w) (.cells #[.int .i64 (-1), .string ByteArray.empty] 41)
  have hb2 := bl_alloc hb1 (.cells #[.slice (some ⟨w.heap.size, 0, none⟩) 1 1] 33)
  have ho0 := owns_made (w := w) (base := w.heap.size) (e := 41) (k := 2) (n := 1) (cs := #[.int .i64 (-1), .string ByteArray.empty]) (Nat.le_refl _) rfl (by decide)
  have ho1 := owns_made (w := w.alloc (.cells #[.int .i64 (-1), .string ByteArray.empty] 41)) (base := w.heap.size) (e := 33) (k := 1) (n := 1) (cs := #[.slice (some ⟨w.heap.size, 0, none⟩) 1 1]) hb1.size rfl (by decide)
  rw [World.size_alloc] at ho1
  have HT0 : Hid (TsW ((w.alloc (.cells #[.int .i64 (-1), .string ByteArray.empty] 41)).alloc (.cells #[.slice (some ⟨w.heap.size, 0, none⟩) 1 1] 33)) w.heap.size (.slice (some ⟨w.heap.size + 1, 0, none⟩) 1 1) (trP 0).length (TrN 0) (fun _ => (some ⟨w.heap.size, 0, none⟩, 1, 1))) := by
    refine ⟨ho1, fun i hi => ?_, fun i hi => ?_, fun i j hi hj hij => ?_, fun i hi => ?_⟩
    · obtain rfl : i = 0 := by have : (trP 0).length = 1 := rfl; omega
      exact owns_below ho0 (bl_alloc (Below.refl _ _) _)
    · obtain rfl : i = 0 := by have : (trP 0).length = 1 := rfl; omega
      rfl
    · have : (trP 0).length = 1 := rfl
      omega
    · right
      intro e
      have := Option.some.inj (show some w.heap.size = some (w.heap.size + 1) from e)
      omega
  have HB0 := Lib.hid hb2
  clear hb1 hb2 ho0 ho1
  have d1 : decide (((N + 1 : Nat) : Int) < 1) = false := by simp; omega
  have d2 : decide (5 < ((N + 1 : Nat) : Int)) = false := by simp; omega
  obtain ⟨M, hM⟩ : ∃ M, M = N + 1 := ⟨_, rfl⟩
  rw [← hM] at d1 d2 ⊢
  have hM5 : M ≤ 5 := by omega
  have hM1 : 1 ≤ M := by omega
  have HMN := Lib.hid hM
  clear hM
  go_enter Tryd.func9, Tryd.ntmps9
  go_wp2_with fail
  go_loopw [4, 5] (fun v x wr => ∃ (K : Nat) (rs : Nat → Rw), 1 ≤ K ∧ K ≤ M ∧ x = .int .i64 K ∧ Hid (TsW wr w.heap.size v (trP (K - 1)).length (TrN (K - 1)) rs) ∧ Hid (Below w.heap.size w wr)) (fun _ x _ => M - (intOf x).toNat)
  case atStart => exact ⟨1, _, by omega, by omega, rfl, HT0, HB0⟩
  case round =>
    clear HT0 HB0
    obtain ⟨K, rs, hK1, hK, rfl, hT, hB⟩ := hrel
    have hp0 := trP_len (K - 1) (by omega)
    by_cases hlt : K < M
    · obtain ⟨g, cap, rfl, hg1, hg2, hcell⟩ := hT.out.cell hp0.1
      obtain ⟨z, hz⟩ : ∃ z, z = 2 * (K - 1) + 1 := ⟨_, rfl⟩
      have hz9 : z ≤ 9 := by omega
      have hz1 : 1 ≤ z := by omega
      have hNX := TrN_next (k := K - 1) (by omega)
      rw [show K - 1 + 1 = K by omega, ← hz] at hNX
      have HNX := Lib.hid hNX
      have HOK : Hid (∀ i, i < (trP (K - 1)).length → (TrN (K - 1) i).length = z ∧ okP (TrN (K - 1) i) = true ∧ ∀ v, v < z → okG (TrN (K - 1) i) v = true) := fun i hi => by rw [hz]; exact TrN_ok (by omega) hi
      have HRW : Hid (∀ i, i < (trP K).length → (TrN K i).length = z + 2) := fun i hi => by
        have hb := (trP_row (k := K) (i := i) (by omega) hi).1
        unfold TrN mkN
        rw [List.length_map, hb]; omega
      obtain ⟨p, hp⟩ : ∃ p, p = (trP (K - 1)).length := ⟨_, rfl⟩
      rw [← hp] at hT hp0 hcell HNX HOK ⊢
      obtain ⟨TK, hTK⟩ : ∃ T, T = TrN (K - 1) := ⟨_, rfl⟩
      rw [← hTK] at hT HNX HOK
      have HC := Lib.hid hcell
      clear hcell hp hz hNX hTK
      go_wp2_with fail
      obtain ⟨wo, rfl⟩ : ∃ wo : World, wo = wr := ⟨_, rfl⟩
      go_loopw [6, 29] (fun v x wr => ∃ (i : Nat) (rs6 : Nat → Rw), i ≤ p ∧ x = .int .i64 i ∧ Hid (TsW wr wo.heap.size v (i * z) (TrN K) rs6) ∧ Hid (Below wo.heap.size wo wr)) (fun _ x _ => p - (intOf x).toNat)
      case atStart => exact ⟨0, fun _ => (none, 0, 0), by omega, rfl, by rw [Nat.zero_mul]; exact TsW.zero _ _ _ _, Below.refl _ _⟩
      case round =>
        obtain ⟨i, rs6, hi, rfl, h6, hB6⟩ := hrel
        by_cases hlt2 : i < p
        · obtain ⟨b, c, hri, hb1, hb2⟩ := hT.out.at (i := i) hlt2 (by rw [(HOK.out i hlt2).1]; omega)
          rw [(HOK.out i hlt2).1] at hri
          have e1 : wr.cell? ⟨g, i, none⟩ = some (.slice (some ⟨b, 0, none⟩) z c) := by
            have h := (hB6.out.cell (p := ⟨g, i, none⟩) hg2).trans (HC.out i hlt2)
            rw [hri] at h; exact h
          have HRI := Lib.hid hri
          clear hri
          go_wp2_with fail
          obtain ⟨wp, rfl⟩ : ∃ wp : World, wp = wr := ⟨_, rfl⟩
          go_loopw [6, 35] (fun v x wr => ∃ (u n : Nat) (rs6 : Nat → Rw), u ≤ z ∧ x = .int .i64 u ∧ Hid (n = i * z + u) ∧ Hid (TsW wr wo.heap.size v n (TrN K) rs6) ∧ Hid (Below wo.heap.size wo wr)) (fun _ x _ => z - (intOf x).toNat)
          case atStart => exact ⟨0, i * z, rs6, by omega, rfl, rfl, h6, hB6⟩
          case round =>
            clear h6 hB6 e1
            obtain ⟨u, n, rs6, hu, rfl, hnn, h6, hB6⟩ := hrel
            by_cases hlt3 : u < z
            · have hmul : i * z + z ≤ p * z := by
                have := Nat.mul_le_mul_right z (show i + 1 ≤ p by omega)
                rw [Nat.add_mul, Nat.one_mul] at this
                exact this
              have hpz : p * z ≤ 105 * 9 := Nat.mul_le_mul hp0.2 hz9
              have hcnt : n ≤ 1000 := by have := hnn.out; omega
              have hnK : n < (trP K).length := by rw [HNX.out.1, hnn.out]; omega
              obtain ⟨q1, q2, q3⟩ := HOK.out i hlt2
              have hrd : Rd wr (some ⟨b, 0, none⟩) (fl encNd (TK i)) := by
                obtain ⟨a', c', e', hr⟩ := (hT.out.bl hB6.out).rd hlt2
                rw [HRI.out] at e'
                injection e' with e1 e2
                rw [← e1] at hr
                exact hr
              have HG := Lib.hid (grown_any b 0 z c u (TK i) wr q1 hz1 (by omega) hrd q2 hlt3 (q3 u hlt3))
              have HE : Hid (TrN K n = grownL (TK i) u) := by show _ = _; rw [hnn.out]; exact HNX.out.2 i u hlt2 hlt3
              have HLG : Hid ((grownL (TK i) u).length = z + 2) := by show _ = _; rw [← HE.out]; exact HRW.out n hnK
              clear q1 q2 q3 hrd hmul hpz hnK
              go_wp2_with fail
              refine HG.out.mono ?_
              rintro e w7 ⟨g7, rfl, ho7, hb7⟩
              have hT7 := h6.out.bl hb7
              have hX7 := h6.out.apart (k := z + 2) (x := (some ⟨g7, 0, none⟩, z + 2, z + 2)) ho7 (Nat.le_refl _)
              have hsz7 := hb7.size
              have HO7 := Lib.hid ho7
              have HT7 := Lib.hid hT7
              have HX7 := Lib.hid hX7
              have HB7 := Lib.hid (bl_trans hB6.out hb7)
              have hbs7 := HB7.out.size
              clear ho7 hb7 hT7 HG hX7 hsz7
              obtain ⟨z2, hz2⟩ : ∃ z2, z2 = z + 2 := ⟨_, rfl⟩
              rw [← hz2] at HO7 HLG HX7 ⊢
              have HZ2 := Lib.hid hz2
              obtain ⟨v6, hv6⟩ : ∃ v, v = u6 := ⟨_, rfl⟩
              rw [← hv6] at HT7 HX7 ⊢
              clear hz2 hv6
              go_wp2_with (at_builtin; refine push_T rfl (.tmp 38) (.tmp 42) rfl wo.heap.size v6 ((List.range n).map rs6) n (by simp) rfl (HT7.out.rows.alloc _) _ _ (some ⟨g7, 0, none⟩, z2, z2) rfl (Blk.new _ _ _) (by omega) (by rw [World.size_alloc]; omega) ?_; intro g8 cap8 w8 h81 h82 h83 h84; have H81 := Lib.hid h81; have H82 := Lib.hid h82; have H83 := Lib.hid h83; clear h81 h82 h83)
              have hal := bl_alloc (Below.refl _ w7) (.cells #[.slice (some ⟨g7, 0, none⟩) z2 z2] 33)
              have hp2 := (HT7.out.bl hal).push (v' := .slice (some ⟨g8, 0, none⟩) (n + 1) cap8) (x := (some ⟨g7, 0, none⟩, z2, z2)) (X := grownL (TK i) u) H81.out H82.out
                (by rcases H83.out with h | h
                    · exact .inl h.symm
                    · exact .inr (by rw [h]; rfl))
                (by rw [HLG.out]; exact owns_mono (owns_below HO7.out hal) (by have := hB6.out.size; omega)) HLG.out.symm HX7.out.1 HX7.out.2
              have HT8 : Hid (TsW w8 wo.heap.size (.slice (some ⟨g8, 0, none⟩) (n + 1) cap8) (n + 1) (TrN K) (fun j => if j = n then (some ⟨g7, 0, none⟩, z2, z2) else rs6 j)) := hp2.congr fun j hj => by
                by_cases e : j = n
                · rw [if_pos e, e, HE.out]
                · rw [if_neg e]
              have HB8 : Hid (Below wo.heap.size wo w8) := bl_grown (bl_trans HB7.out hal) H82.out (fun r e => ((HT7.out.lt (B := r)).1 e).1)
              have HNN : Hid (n + 1 = i * z + (u + 1)) := by show _ = _; have := hnn.out; omega
              clear hal hp2 H81 H82 H83 HO7 HT7 HX7 HB7 h6 hB6 hnn
              go_roundw
              case rel => exact ⟨u + 1, n + 1, _, by omega, by go_num, HNN, HT8, HB8⟩
              case measure => simp [intOf]; omega
            · obtain rfl : u = z := by omega
              have HT6 : Hid (TsW wr wo.heap.size u6 ((i + 1) * u) (TrN K) rs6) := by
                have e : (i + 1) * u = n := by rw [hnn.out, Nat.add_mul, Nat.one_mul]
                rw [e]; exact h6.out
              clear h6
              go_wp2_with fail
              go_roundw
              case rel => exact ⟨i + 1, rs6, by omega, by go_num, HT6, hB6⟩
              case measure => simp [intOf]; omega
        · obtain rfl : i = p := by omega
          have HT6 : Hid (TsW wr w.heap.size u6 (trP (K + 1 - 1)).length (TrN (K + 1 - 1)) rs6) := by
            rw [show K + 1 - 1 = K by omega, HNX.out.1]
            exact h6.out.mono hB.out.size
          have HB6 := Lib.hid (bl_trans hB.out hB6.out)
          clear h6
          go_wp2_with fail
          go_roundw
          case rel => exact ⟨K + 1, rs6, by omega, by omega, by go_num, HT6, HB6⟩
          case measure => simp [intOf]; omega
    · obtain rfl : K = M := by omega
      obtain ⟨g, cap, rfl, hg1, hg2, hcell⟩ := hT.out.cell hp0.1
      obtain ⟨z, hz⟩ : ∃ z, z = 2 * (K - 1) + 1 := ⟨_, rfl⟩
      have hz9 : z ≤ 9 := by omega
      have hz1 : 1 ≤ z := by omega
      have HPL : Hid (∀ i, i < (trP (K - 1)).length → ((trP (K - 1)).getD i []).length = z) := fun i hi => by
        have hb := (trP_row (k := K - 1) (i := i) (by omega) hi).1
        rw [hb, hz]
      have HNE : Hid (trP (K - 1) = trP N) := by show _ = _; rw [HMN.out]; rfl
      obtain ⟨p, hp⟩ : ∃ p, p = (trP (K - 1)).length := ⟨_, rfl⟩
      obtain ⟨P, hP⟩ : ∃ P : Nat → List Int, P = fun i => (trP (K - 1)).getD i [] := ⟨_, rfl⟩
      have HTN : Hid (∀ i, TrN (K - 1) i = mkN (P i)) := fun i => by rw [hP]; rfl
      have HP : Hid (∀ i, (trP (K - 1)).getD i [] = P i) := fun i => by rw [hP]
      have HPL2 : Hid (∀ i, i < p → (P i).length = z) := fun i hi => by rw [hP]; exact HPL.out i (by omega)
      rw [← hp] at hT hp0 hcell ⊢
      have HPP := Lib.hid hp
      have HT1 : Hid (TsW wr w.heap.size (.slice (some ⟨g, 0, none⟩) p cap) p (fun j => if j < 0 then nmT K (P j) else mkN (P j)) rs) := hT.out.congr fun j _ => by
        rw [if_neg (by omega), HTN.out]
      have HC := Lib.hid hcell
      clear hcell hp hz hT hP HPL HTN
      go_wp2_with fail
      go_loopw [49] (fun x wr => ∃ (i : Nat), i ≤ p ∧ x = .int .i64 i ∧ Hid (TsW wr w.heap.size (.slice (some ⟨g, 0, none⟩) p cap) p (fun j => if j < i then nmT K (P j) else mkN (P j)) rs) ∧ Hid (Below w.heap.size w wr)) (fun x _ => p - (intOf x).toNat)
      case atStart => exact ⟨0, by omega, rfl, HT1, hB⟩
      case round =>
        clear HT1 hB HC
        obtain ⟨i, hi, rfl, hT, hB⟩ := hrel
        by_cases hlt2 : i < p
        · have hTi : (if i < i then nmT K (P i) else mkN (P i)) = mkN (P i) := if_neg (by omega)
          have hli : (mkN (P i)).length = z := by unfold mkN; rw [List.length_map]; exact HPL2.out i hlt2
          obtain ⟨b, c, hri, hb1, hb2⟩ := hT.out.at (i := i) hlt2 (by simp only [hTi]; rw [hli]; omega)
          simp only [hTi] at hri
          rw [hli] at hri
          obtain ⟨g', cap', he, _, _, hcell⟩ := hT.out.cell (by omega)
          cases he
          have e1 : wr.cell? ⟨g, i, none⟩ = some (.slice (some ⟨b, 0, none⟩) z c) := by
            have h := hcell i hlt2
            rw [hri] at h; exact h
          have HRI := Lib.hid hri
          have HT2 : Hid (TsW wr w.heap.size (.slice (some ⟨g, 0, none⟩) p cap) p (fun j => if j = i then prtT K (P i) 0 else if j < i then nmT K (P j) else mkN (P j)) rs) := hT.out.congr fun j _ => by
            by_cases e : j = i
            · rw [if_pos e, e, if_neg (by omega), prtT_zero]
            · rw [if_neg e]
          clear hri hTi hli hcell hT
          go_wp2_with fail
          obtain ⟨wo, rfl⟩ : ∃ wo : World, wo = wr := ⟨_, rfl⟩
          go_loopw [55] (fun x wr => ∃ (u : Nat), u ≤ z ∧ x = .int .i64 u ∧ Hid (TsW wr w.heap.size (.slice (some ⟨g, 0, none⟩) p cap) p (fun j => if j = i then prtT K (P i) u else if j < i then nmT K (P j) else mkN (P j)) rs) ∧ Hid (Below w.heap.size w wr)) (fun x _ => z - (intOf x).toNat)
          case atStart => exact ⟨0, by omega, rfl, HT2, hB⟩
          case round =>
            clear HT2 hB e1
            obtain ⟨u, hu, rfl, hT, hB⟩ := hrel
            by_cases hlt3 : u < z
            · have hrow := hT.out.row i hlt2
              simp only [if_pos] at hrow
              rw [HRI.out, prtT_len, HPL2.out i hlt2] at hrow
              obtain ⟨b', o', e', _, hcc⟩ := rdNd (rd_of_owns hrow) (by rw [prtT_len, HPL2.out i hlt2]; omega)
              cases e'
              obtain ⟨_, c1⟩ := hcc u (by rw [prtT_len, HPL2.out i hlt2]; exact hlt3)
              have f1 := World.ownsRow.frozenAt hrow (u * 2 + 1)
              rw [Nat.zero_add] at c1
              obtain ⟨y, hy⟩ : ∃ y, y = nS (prtT K (P i) u) u := ⟨_, rfl⟩
              rw [← hy] at c1
              have HI : Hid (∀ W, Calls Tryd.prog 31 #[.int .i64 (u : Int)] W fun e w' => e = .returned (.string (dgB u)) ∧ w' = W) := fun W => Tryd.strconv_Itoa_small u (by omega) W
              have hs1 := dgB_size u (by omega)
              have hT2 : TsW (wr.setCell ⟨b, u * 2 + 1, none⟩ (.string (⟨#[73]⟩ ++ dgB u))) w.heap.size (.slice (some ⟨g, 0, none⟩) p cap) p (fun j => if j = i then (prtT K (P i) u).set u (nP (prtT K (P i) u) u, ⟨#[73]⟩ ++ dgB u) else if j < i then nmT K (P j) else mkN (P j)) rs := (hT.out.setS (i := i) (j := u) hlt2 (by simp only [if_pos]; rw [HRI.out, prtT_len, HPL2.out i hlt2]) (⟨#[73]⟩ ++ dgB u)).congr fun j _ => by
                by_cases e : j = i
                · simp only [if_pos e, if_pos]
                · simp only [if_neg e]
              have hB2 : Below w.heap.size w (wr.setCell ⟨b, u * 2 + 1, none⟩ (.string (⟨#[73]⟩ ++ dgB u))) := bl_set hB.out _ _ _ _ hb1
              have hrow2 := hT2.row i hlt2
              simp only [if_pos] at hrow2
              rw [HRI.out, List.length_set, prtT_len, HPL2.out i hlt2] at hrow2
              have f2 := World.ownsRow.frozenAt hrow2 (u * 2 + 1)
              have HT2 := Lib.hid hT2
              have HB2 := Lib.hid hB2
              clear hrow hcc hy hT2 hB2 hrow2
              by_cases hlf : u + 1 < K
              · have d3 : decide ((K : Int) - 1 ≤ (u : Int)) = false := by simp; omega
                have d4 : decide ((K : Int) ≤ (u : Int) + 1) = false := by simp; omega
                have HNM : Hid (nmV K u = ⟨#[73]⟩ ++ dgB u) := if_pos hlf
                have HT3 : Hid (TsW (wr.setCell ⟨b, u * 2 + 1, none⟩ (.string (⟨#[73]⟩ ++ dgB u))) w.heap.size (.slice (some ⟨g, 0, none⟩) p cap) p (fun j => if j = i then prtT K (P i) (u + 1) else if j < i then nmT K (P j) else mkN (P j)) rs) := HT2.out.congr fun j _ => by
                  by_cases e : j = i
                  · rw [if_pos e, if_pos e, ← HNM.out, prtT_set (by rw [HPL2.out i hlt2]; exact hlt3)]
                  · rw [if_neg e, if_neg e]
                clear HT2 hT hB hlf HNM
                go_wp2_with fail
                refine (HI.out _).mono ?_
                rintro e w5 ⟨rfl, rfl⟩
                go_wp2_with fail
                go_roundw
                case rel => exact ⟨u + 1, by omega, by go_num, HT3, HB2⟩
                case measure => simp [intOf]; omega
              · have d3 : decide ((K : Int) - 1 ≤ (u : Int)) = true := by simp; omega
                have d4 : decide ((K : Int) ≤ (u : Int) + 1) = true := by simp; omega
                have HNM : Hid (nmV K u = ⟨#[76]⟩ ++ dgB (u + 1 - K)) := if_neg hlf
                have hT3 : TsW ((wr.setCell ⟨b, u * 2 + 1, none⟩ (.string (⟨#[73]⟩ ++ dgB u))).setCell ⟨b, u * 2 + 1, none⟩ (.string (⟨#[76]⟩ ++ dgB (u + 1 - K)))) w.heap.size (.slice (some ⟨g, 0, none⟩) p cap) p (fun j => if j = i then prtT K (P i) (u + 1) else if j < i then nmT K (P j) else mkN (P j)) rs := (HT2.out.setS (i := i) (j := u) hlt2 (by simp only [if_pos]; rw [HRI.out, List.length_set, prtT_len, HPL2.out i hlt2]) (⟨#[76]⟩ ++ dgB (u + 1 - K))).congr fun j _ => by
                  by_cases e : j = i
                  · simp only [if_pos e, if_pos]
                    rw [← HNM.out, prtT_set2 (by rw [HPL2.out i hlt2]; exact hlt3)]
                  · simp only [if_neg e]
                have HT3 := Lib.hid hT3
                have hB3 : Below w.heap.size w ((wr.setCell ⟨b, u * 2 + 1, none⟩ (.string (⟨#[73]⟩ ++ dgB u))).setCell ⟨b, u * 2 + 1, none⟩ (.string (⟨#[76]⟩ ++ dgB (u + 1 - K)))) := bl_set HB2.out _ _ _ _ hb1
                have HB3 := Lib.hid hB3
                have HI2 : Hid (∀ W, Calls Tryd.prog 31 #[.int .i64 ((u : Int) - (K : Int) + 1)] W fun e w' => e = .returned (.string (dgB (u + 1 - K))) ∧ w' = W) := fun W => by
                  rw [show (u : Int) - (K : Int) + 1 = ((u + 1 - K : Nat) : Int) by omega]
                  exact Tryd.strconv_Itoa_small (u + 1 - K) (by omega) W
                have hs2 := dgB_size (u + 1 - K) (by omega)
                clear HT2 hT hB HNM hT3 hB3 HB2
                go_wp2_with fail
                refine (HI.out _).mono ?_
                rintro e w5 ⟨rfl, rfl⟩
                go_wp2_with fail
                refine (HI2.out _).mono ?_
                rintro e w6 ⟨rfl, rfl⟩
                go_wp2_with fail
                go_roundw
                case rel => exact ⟨u + 1, by omega, by go_num, HT3, HB3⟩
                case measure => simp [intOf]; omega
            · obtain rfl : u = z := by omega
              have HT3 : Hid (TsW wr w.heap.size (.slice (some ⟨g, 0, none⟩) p cap) p (fun j => if j < i + 1 then nmT K (P j) else mkN (P j)) rs) := hT.out.congr fun j _ => by
                by_cases e : j = i
                · rw [if_pos e, if_pos (by omega), e, prtT_all _ _ (by rw [HPL2.out i hlt2]; exact Nat.le_refl _)]
                · rw [if_neg e]
                  by_cases q : j < i
                  · rw [if_pos q, if_pos (by omega)]
                  · rw [if_neg q, if_neg (by omega)]
              clear hT
              go_wp2_with fail
              go_roundw
              case rel => exact ⟨i + 1, by omega, by go_num, HT3, hB⟩
              case measure => simp [intOf]; omega
        · obtain rfl : i = p := by omega
          obtain ⟨q, rfl⟩ : ∃ q, i = q + 1 := ⟨i - 1, by omega⟩
          have hT2 : TsW wr w.heap.size (.slice (some ⟨g, 0, none⟩) (q + 1) cap) (q + 1) (fun j => nmT K (P j)) rs := hT.out.congr fun j hj => by rw [if_pos hj]
          have hso : (soP (N + 1)).Perm ((List.range (q + 1)).map fun j => parL (nmT K (P j))) := by
            have h1 := List.isPerm_iff.1 (soP_perm N hN)
            refine h1.trans ?_
            have e : (List.range (q + 1)).map (fun j => parL (nmT K (P j))) = trP N := by
              rw [← HNE.out]
              apply List.ext_getElem?
              intro j
              by_cases hj : j < q + 1
              · rw [List.getElem?_map, List.getElem?_range hj, Option.map_some, parL_nmT, ← HP.out, List.getD_eq_getElem?_getD, List.getElem?_eq_getElem (by rw [← HPP.out]; exact hj)]
                rfl
              · rw [List.getElem?_eq_none (by simp; omega), List.getElem?_eq_none (by rw [← HPP.out]; omega)]
            rw [e]
          have HSO := Lib.hid (sortTs_any (m := z) (soP (N + 1)) hT2 (by omega) (fun j hj => by unfold nmT; rw [List.length_map, List.length_range]; exact HPL2.out j hj) (by omega) (fun j hj u hu => by
            rw [nP_of_parL, parL_nmT, ← HP.out]
            have := (trP_row (k := K - 1) (i := j) (by omega) (by rw [← HPP.out]; exact hj)).2 u
            omega) hso (sgn_so N hN))
          clear hT hT2 hso
          go_wp2_with fail
          refine HSO.out.mono ?_
          rintro e w9 ⟨rfl, ⟨rs', T', hT9, hk9⟩, hb9⟩
          have HT9 := Lib.hid hT9
          have HK9 := Lib.hid hk9
          have HB9 := Lib.hid (hb9 w (Nat.le_refl _) hB.out)
          clear hT9 hk9 hb9 HSO
          go_wp2_with fail
          go_ret2
          refine ⟨_, rs', T', rfl, ?_, fun k hk => ?_, HB9.out⟩
          · rw [← HNE.out, ← HPP.out]; exact HT9.out
          · obtain ⟨h1, j, hj, h2⟩ := HK9.out k (by rw [HPP.out, HNE.out]; exact hk)
            rw [h2, parL_nmT] at h1
            rw [h2, h1, HMN.out]
end Go.Proofs.YtjmnakkkimgifaaDoor
namespace Go.Proofs.YtjmnakkkimgifaaDoor
open Go Go.RowKit Go.Shelf
attribute [local go_sem] Oper.semAt_some
theorem soP_len (k : Nat) (h : k < 5) : (soP (k + 1)).length = (trP k).length := (List.isPerm_iff.1 (soP_perm k h)).length_eq
theorem trL_in {N : Nat} (h : N < 5) : trE ((N + 1 : Nat) : Int) = 0 ∧ trL ((N + 1 : Nat) : Int) = (soP (N + 1)).map (nmT (N + 1)) := by
  unfold trE trL
  rw [if_pos (by omega), if_pos (by omega), Int.toNat_natCast]
  exact ⟨rfl, rfl⟩
def TrsPost (n : Int) (w : World) (e : Ending) (w' : World) : Prop := ∃ v rs, e = .returned (.tuple #[v, .int .i64 (trE n)]) ∧ TsW w' w.heap.size v (trL n).length (vT (trL n)) rs ∧ Below w.heap.size w w'
set_option maxRecDepth 100000 in
set_option maxHeartbeats 1000000 in
theorem trees_any (n : Int) (w : World) (h1 : -9223372036854775808 ≤ n) (h2 : n ≤ 9223372036854775807) :
    Calls Tryd.prog 9 #[.int .i64 n] w (TrsPost n w) := by
  by_cases h : 1 ≤ n ∧ n ≤ 5
  · obtain ⟨N, rfl⟩ : ∃ N : Nat, n = ((N + 1 : Nat) : Int) := ⟨(n - 1).toNat, by omega⟩
    obtain ⟨e1, e2⟩ := trL_in (N := N) (by omega)
    refine (trees_in N (by omega) w).mono ?_
    rintro e w' ⟨v, rs, T, rfl, hT, hk, hb⟩
    unfold TrsPost
    rw [e1, e2, List.length_map, soP_len N (by omega)]
    refine ⟨v, rs, rfl, hT.congr fun i hi => ?_, hb⟩
    rw [hk i hi]
    unfold vT
    rw [List.getD_eq_getElem?_getD, List.getD_eq_getElem?_getD, List.getElem?_map, List.getElem?_eq_getElem (show i < (soP (N + 1)).length by rw [soP_len N (by omega)]; exact hi)]
    rfl
  · have hE : Hid (trE n = 3) := if_neg h
    have hL : Hid (trL n = []) := if_neg h
    by_cases h0 : n < 1
    · have d1 : decide (n < 1) = true := by simp; omega
      clear h
      go_enter Tryd.func9, Tryd.ntmps9
      go_wp2_with fail
      go_ret2
      refine ⟨.slice none 0 0, fun _ => (none, 0, 0), by rw [hE.out]; rfl, ?_, Below.refl _ _⟩
      rw [hL.out]; exact TsW.zero _ _ _ _
    · have h5 : 5 < n := by omega
      have d1 : decide (n < 1) = false := by simp; omega
      have d2 : decide (5 < n) = true := by simp; omega
      clear h
      go_enter Tryd.func9, Tryd.ntmps9
      go_wp2_with fail
      go_ret2
      refine ⟨.slice none 0 0, fun _ => (none, 0, 0), by rw [hE.out]; rfl, ?_, Below.refl _ _⟩
      rw [hL.out]; exact TsW.zero _ _ _ _
/-- How an element of the rows stands. -/
def EvN (rs : Nat → Rw) (T : Nat → List Nd) (k : Nat) (O : Nat → Prop) (x : Value) (W : World) : Prop := ∃ b c, rs k = (some ⟨b, 0, none⟩, (T k).length, c) ∧ x = slR (rs k) ∧ ¬ O b ∧ Rd W (some ⟨b, 0, none⟩) (fl encNd (T k))
set_option maxRecDepth 100000 in
set_option maxHeartbeats 4000000 in
theorem values_gives (m n base g cap X : Nat) (T : Nat → List Nd) (rs : Nat → Rw) (w : World) (hm : 1 ≤ m) (hn : n ≤ 1152921504606846976) (h0 : 0 < n) (hX : Blk w X #[.slice (some ⟨g, 0, none⟩) n cap] 23) (hT : TsW w base (.slice (some ⟨g, 0, none⟩) n cap) n T rs) (hl : ∀ i, i < n → 0 < (T i).length) :
    GivesT Fence.wide m Tryd.prog 62 #[.pointer (some ⟨X, 0, none⟩)] (EvN rs T) n (fun B => B = X ∨ B = g ∨ ∃ i, i < n ∧ (slR (rs i)).ownBlock = some B) w := fun l J W O hW hJb hY hO hJ0 => by
  have hR0 : Hid (Rd W (some ⟨g, 0, none⟩) (fl encR ((List.range n).map rs))) := (rd_of_owns hT.rows).bl hW
  have hRR0 : Hid (∀ j, 0 ≤ j → j < n → Rd W (rs j).1 (fl encNd (T j))) := fun j _ hj => by
    obtain ⟨a, c, e, hr⟩ := hT.rd hj
    rw [e]; exact hr.bl hW
  have HRS : Hid (∀ j, j < n → ∃ b c, rs j = (some ⟨b, 0, none⟩, (T j).length, c)) := fun j hj => by
    obtain ⟨b, c, e, _⟩ := hT.at hj (hl j hj)
    exact ⟨b, c, e⟩
  have HDI : Hid (∀ i j, i < n → j < n → i ≠ j → (slR (rs i)).ownBlock ≠ (slR (rs j)).ownBlock) := fun i j hi hj hij => by
    rcases hT.dis i j hi hj hij with q | q
    · obtain ⟨b, c, e, _⟩ := hT.at hi (hl i hi)
      rw [e] at q; cases q
    · exact q
  have HFA : Hid (∀ i, i < n → (slR (rs i)).ownBlock ≠ some g) := fun i hi e => by
    rcases hT.far i hi with q | q
    · rw [q] at e; cases e
    · exact q e
  have HO0 : Hid (∀ B, O B → B < W.heap.size ∧ B ≠ g ∧ ∀ j, 0 ≤ j → j < n → (slR (rs j)).ownBlock ≠ some B) := fun B hB => by
    obtain ⟨h1, h2⟩ := hO B hB
    exact ⟨h1, fun e => h2 (.inr (.inl e)), fun j _ hj e => h2 (.inr (.inr ⟨j, hj, e⟩))⟩
  have HJB := Lib.hid hJb
  have HY := Lib.hid hY
  have HJ0 := Lib.hid hJ0
  have c0 : W.cell? ⟨X, 0, none⟩ = some (.slice (some ⟨g, 0, none⟩) n cap) := (hX.below hW).cell 0
  have hgs : g < W.heap.size := Nat.lt_of_lt_of_le (hT.rows.lt g rfl).2 hW.size
  have HRB : Hid (∀ i, i < n → ∀ B, (slR (rs i)).ownBlock = some B → B < W.heap.size) := fun i hi B e => Nat.lt_of_lt_of_le ((hT.row i hi).lt B e).2 hW.size
  clear hX hT hl hW hJb hY hO hJ0
  refine callsIn_of_wp Tryd.func62 rfl trivial ?_ rfl
  simp only [Tryd.ntmps62, List.size_toArray, List.length_cons, List.length_nil, Nat.reduceAdd, Nat.reduceSub, Array.replicate_succ, Array.replicate_zero, List.push_toArray, List.append_toArray, List.nil_append, List.cons_append]
  gi_wp2
  gi_loopw [7] (fun x wx => ∃ i : Nat, i ≤ n ∧ x = .int .i64 i ∧ Hid (Rd wx (some ⟨g, 0, none⟩) (fl encR ((List.range n).map rs))) ∧ Hid (∀ j, i ≤ j → j < n → Rd wx (rs j).1 (fl encNd (T j))) ∧ W.heap.size ≤ wx.heap.size ∧ ∃ O, Hid (J i O wx) ∧ Hid (∀ B, O B → B < wx.heap.size ∧ B ≠ g ∧ ∀ j, i ≤ j → j < n → (slR (rs j)).ownBlock ≠ some B)) (fun x _ => n - (intOf x).toNat)
  case atStart => exact ⟨0, by omega, rfl, hR0, hRR0, Nat.le_refl _, O, HJ0, HO0⟩
  case round =>
    clear hR0 hRR0 HJ0 HO0 c0
    obtain ⟨i, hi, rfl, hR, hRR, hsz, O2, hJ, hO⟩ := hrel
    by_cases hlt : i < n
    · obtain ⟨b', o', e', _, hc⟩ := rdR hR.out (by simp; omega)
      cases e'
      have c1 := hc i (by simpa using hlt)
      rw [Nat.zero_add] at c1
      simp [rA, rN, rC, hlt] at c1
      obtain ⟨b, c, hrs⟩ := HRS.out i hlt
      rw [hrs] at c1
      have hrd := hRR.out i (Nat.le_refl _) hlt
      rw [hrs] at hrd
      have hob : (slR (rs i)).ownBlock = some b := by rw [hrs]; rfl
      have hE : EvN rs T i O2 (.slice (some ⟨b, 0, none⟩) (T i).length c) wr := ⟨b, c, hrs, by rw [hrs]; rfl, fun h => ((hO.out b h).2.2 i (Nat.le_refl _) hlt) hob, hrd⟩
      obtain ⟨fn, tmps, assign, body, hy, hR2⟩ := HY.out i O2 _ wr hJ.out hlt (fun B hB => (hO.out B hB).1) hE
      have HOB := Lib.hid hob
      clear hc hrs hrd hob hE
      gi_wp2
      refine hR2.mono ?_
      rintro e W3 ⟨rfl, O', hJ3, hst⟩
      have hbl : b < W.heap.size := HRB.out i hlt b HOB.out
      have hgO : ¬ (O2 g ∨ (Value.slice (some ⟨b, 0, none⟩) (T i).length c).ownBlock = some g) := fun h => by
        rcases h with h | h
        · exact (hO.out g h).2.1 rfl
        · exact HFA.out i hlt (by rw [HOB.out]; exact h)
      have HR3 : Hid (Rd W3 (some ⟨g, 0, none⟩) (fl encR ((List.range n).map rs))) := hst.rd hR.out (fun b o e => by cases e; exact hgO)
      have HRR3 : Hid (∀ j, i + 1 ≤ j → j < n → Rd W3 (rs j).1 (fl encNd (T j))) := fun j hj hjn => by
        refine hst.rd (hRR.out j (by omega) hjn) (fun b2 o2 e h => ?_)
        obtain ⟨b3, c3, e3⟩ := HRS.out j hjn
        have hob3 : (slR (rs j)).ownBlock = some b3 := by rw [e3]; rfl
        rw [e3] at e
        cases e
        rcases h with h | h
        · exact (hO.out _ h).2.2 j (by omega) hjn hob3
        · exact HDI.out i j hlt hjn (by omega) (by rw [HOB.out, hob3]; exact h)
      have HS3 : W.heap.size ≤ W3.heap.size := Nat.le_trans hsz hst.size
      have HO3 : Hid (∀ B, O' B → B < W3.heap.size ∧ B ≠ g ∧ ∀ j, i + 1 ≤ j → j < n → (slR (rs j)).ownBlock ≠ some B) := fun B hB => by
        refine ⟨hst.lt B hB, ?_⟩
        rcases hst.old B hB with (h | h) | h
        · exact ⟨(hO.out B h).2.1, fun j hj hjn => (hO.out B h).2.2 j (by omega) hjn⟩
        · have hbB := Option.some.inj (show some b = some B from h)
          refine ⟨fun e => hgO (.inr (by rw [← e]; exact h)), fun j hj hjn e => HDI.out i j hlt hjn (by omega) (by rw [HOB.out, e, hbB])⟩
        · exact ⟨by omega, fun j _ hjn e => by have := HRB.out j hjn B e; omega⟩
      have HJ3 := Lib.hid hJ3
      clear hJ3 hst hy hR2 hR hRR hJ hO hgO
      gi_wp2
      try go_wp2_with fail
      go_roundw
      case rel => exact ⟨i + 1, by omega, by go_num, HR3, HRR3, HS3, O', HJ3, HO3⟩
      case measure => simp [intOf]; omega
    · obtain rfl : i = n := by omega
      gi_wp2
      go_end0
      exact ⟨⟨_, rfl⟩, O2, hJ.out⟩
theorem EvN.put {rs : Nat → Rw} {T : Nat → List Nd} {k : Nat} {O : Nat → Prop} {x : Value} {W : World} {l : Nat} {o o' : Obj} (h : EvN rs T k O x W) (hl : W.heap[l]? = some o) (hc : o.isCells = false) : EvN rs T k O x (W.putObj l o') := by
  obtain ⟨b, c, e, h1, h2, h3⟩ := h
  exact ⟨b, c, e, h1, h2, rd_walk h3 (grownBy_putObj' W l o') (fun r e => by cases e; exact ⟨o, hl, hc⟩)⟩
theorem values_any (a : Option Addr) (n c : Nat) (w : World) :
    Calls Tryd.prog 38 #[.slice a n c] w fun e w' => e = .returned (.func (.func 62) #[] #[.pointer (some ⟨w.heap.size, 0, none⟩)]) ∧ w' = w.alloc (.cells #[.slice a n c] 23) := by
  go_enter Tryd.func38, Tryd.ntmps38
  go_wp2
  go_ret
  exact ⟨rfl, rfl⟩
theorem trL_tree {n : Int} {k : Nat} (hk : k < (trL n).length) : 1 ≤ n ∧ n ≤ 5 ∧ (vT (trL n) k).length = 2 * (n.toNat - 1) + 1 ∧ ∀ v, (nS (vT (trL n) k) v).size ≤ 100 := by
  by_cases h : 1 ≤ n ∧ n ≤ 5
  · obtain ⟨N, rfl⟩ : ∃ N : Nat, n = ((N + 1 : Nat) : Int) := ⟨(n - 1).toNat, by omega⟩
    obtain ⟨e1, e2⟩ := trL_in (N := N) (by omega)
    rw [e2] at hk ⊢
    rw [List.length_map] at hk
    have e3 : vT ((soP (N + 1)).map (nmT (N + 1))) k = nmT (N + 1) ((soP (N + 1)).getD k []) := by
      unfold vT
      rw [List.getD_eq_getElem?_getD, List.getD_eq_getElem?_getD, List.getElem?_map, List.getElem?_eq_getElem hk]
      rfl
    have hlen : ((soP (N + 1)).getD k []).length = 2 * N + 1 := by
      have h1 := soP_asc N (by omega)
      rw [Bool.and_eq_true, List.all_eq_true] at h1
      have h2 := h1.2 ((soP (N + 1)).getD k []) (by rw [List.getD_eq_getElem?_getD, List.getElem?_eq_getElem hk]; exact List.getElem_mem hk)
      simpa using h2
    rw [e3]
    refine ⟨by omega, by omega, by unfold nmT; rw [List.length_map, List.length_range, hlen]; omega, fun v => ?_⟩
    unfold nS nmT
    rw [List.getD_eq_getElem?_getD, List.getElem?_map]
    have hN5 : N < 5 := by omega
    by_cases hv : v < ((soP (N + 1)).getD k []).length
    · rw [List.getElem?_range hv]
      show (nmV (N + 1) v).size ≤ 100
      unfold nmV
      split
      · rw [ByteArray.size_append]
        have := dgB_size v (by rw [hlen] at hv; omega)
        have e : (ByteArray.mk #[73]).size = 1 := rfl
        omega
      · rw [ByteArray.size_append]
        have := dgB_size (v + 1 - (N + 1)) (by rw [hlen] at hv; omega)
        have e : (ByteArray.mk #[76]).size = 1 := rfl
        omega
    · rw [List.getElem?_eq_none (by rw [List.length_range]; omega)]
      show ByteArray.empty.size ≤ 100
      decide
  · have e : trL n = [] := if_neg h
    rw [e] at hk
    exact absurd hk (by simp)
/-- What Best answers. -/
def bstE (L : Int) (l : List Nat) : Int := if chkT L l ≠ 0 then chkT L l else trE L
def bstI (L : Int) (l : List Nat) : Nat := minI (fun k => lenS L l (vT (trL L) k)) (trL L).length
def bstT (L : Int) (l : List Nat) : List Nd := vT (trL L) (bstI L l)
def BsPost (L : Int) (l : List Nat) (w : World) (e : Ending) (w' : World) : Prop :=
  ∃ v, e = .returned (.tuple #[v, .int .i64 (if bstE L l = 0 then lenS L l (bstT L l) else 0 : Nat), .int .i64 (bstE L l)]) ∧ (bstE L l ≠ 0 → v = .slice none 0 0) ∧ (bstE L l = 0 → ∃ b o c, v = .slice (some ⟨b, o, none⟩) (bstT L l).length c ∧ Rd w' (some ⟨b, o, none⟩) (fl encNd (bstT L l))) ∧ Below w.heap.size w w'
set_option maxRecDepth 100000 in
set_option maxHeartbeats 4000000 in
theorem best_any (L : Int) (a : Option Addr) (N c : Nat) (l : List Nat) (w : World) (hL1 : -9223372036854775808 ≤ L) (hL2 : L ≤ 9223372036854775807) (hl : l.length = N) (hN : N ≤ 1152921504606846976) (hA : Rd w a (fl encV l)) (hF : FitV l) :
    Calls Tryd.prog 11 #[.agg #[.int .i64 L, .slice a N c]] w (BsPost L l w) := by
  have hb0 := bl_alloc (Below.refl _ w) (.cells #[.int .i64 L, .slice a N c] 30)
  have hX := Blk.new w #[.int .i64 L, .slice a N c] 30
  have HC := Lib.hid (tchk_any L a N c l (w.alloc (.cells #[.int .i64 L, .slice a N c] 30)) hl hN (hA.bl hb0) hF)
  have HA0 := Lib.hid hA
  have HL := Lib.hid hl
  have HF := Lib.hid hF
  have HX := Lib.hid hX
  have HB0 := Lib.hid hb0
  obtain ⟨X, hXe⟩ : ∃ x, x = w.heap.size := ⟨_, rfl⟩
  have HXE := Lib.hid hXe
  rw [← hXe] at HX
  clear hl hA hF hX hb0 hXe
  go_enter Tryd.func11, Tryd.ntmps11
  go_wp2_with fail
  refine HC.out.mono ?_
  rintro e w2 ⟨rfl, hb2⟩
  have HB2 := Lib.hid (bl_trans HB0.out hb2)
  have HX2 := Lib.hid (HX.out.below hb2)
  clear hb2 HC HX HB0
  rw [← HXE.out]
  by_cases h0 : chkT L l = 0
  · have HE : Hid (bstE L l = trE L) := if_neg (fun e => e h0)
    have e0 : w2.cell? ⟨X, 0, none⟩ = some (.int .i64 L) := HX2.out.cell 0
    rw [h0]
    clear h0
    go_wp2_with fail
    refine (trees_any L w2 hL1 hL2).mono ?_
    rintro e w3 ⟨v, rs, rfl, hT, hb3⟩
    have HB3 := Lib.hid (bl_trans HB2.out hb3)
    have HX3 := Lib.hid (HX2.out.below hb3)
    have HT := Lib.hid hT
    clear hb3 hT HB2 HX2 e0
    by_cases h1 : trE L = 0
    · have hLr : 1 ≤ L ∧ L ≤ 5 := by
        unfold trE at h1
        by_cases q : 1 ≤ L ∧ L ≤ 5
        · exact q
        · rw [if_neg q] at h1; cases h1
      have hlen : 0 < (trL L).length ∧ (trL L).length ≤ 105 := by
        obtain ⟨M, rfl⟩ : ∃ M : Nat, L = ((M + 1 : Nat) : Int) := ⟨(L - 1).toNat, by omega⟩
        rw [(trL_in (N := M) (by omega)).2, List.length_map, soP_len M (by omega)]
        exact trP_len M (by omega)
      have HE0 : Hid (bstE L l = 0) := by show _ = _; rw [HE.out, h1]
      rw [h1]
      obtain ⟨g, cap, rfl, hg1, hg2, _⟩ := HT.out.cell hlen.1
      have HRA : Hid (Rd w3 a (fl encV l)) := HA0.out.bl HB3.out
      obtain ⟨q, hq⟩ : ∃ q, q = (trL L).length := ⟨_, rfl⟩
      rw [← hq] at HT hlen ⊢
      have HQ := Lib.hid hq
      have hb1 : Below w3.heap.size w3 w3.drew := bl_drewN (Below.refl _ w3) 1
      have hb5 := bl_trans hb1 (bl_alloc (Below.refl _ w3.drew) (.cells #[.slice (some ⟨g, 0, none⟩) q cap] 23))
      have HSH := Lib.hid (shortest_any L a N c l 62 (enters_of Tryd.func62 (by kernel_rfl) rfl) #[.pointer (some ⟨w3.drew.heap.size, 0, none⟩)] q (vT (trL L)) _ _ (w3.drew.alloc (.cells #[.slice (some ⟨g, 0, none⟩) q cap] 23)) HL.out hN (HRA.out.bl hb5) HF.out
        (values_gives 9 q w2.heap.size g cap w3.drew.heap.size (vT (trL L)) rs _ (by omega) (by omega) hlen.1 (Blk.new _ _ _) (HT.out.bl hb5) (fun i hi => by
          have := (trL_tree (n := L) (k := i) (by rw [← HQ.out]; exact hi)).2.2.1
          omega))
        (fun B h => by
          have hs := hb5.size
          rcases h with h | h | ⟨i, hi, h⟩
          · rw [h, World.size_alloc]; omega
          · rw [h]; omega
          · have := (HT.out.lt.2 i hi h).2; omega)
        (fun k O x W hk h => by
          obtain ⟨b, c', e, h1, h2, h3⟩ := h
          exact ⟨b, 0, c', by rw [h1, e]; rfl, h2, h3⟩)
        (fun k O x W l o o' h hl hc => h.put hl hc)
        (fun k hk => by
          obtain ⟨_, _, h1, h2⟩ := trL_tree (n := L) (k := k) (by rw [← HQ.out]; exact hk)
          exact ⟨by omega, fun v _ => Nat.le_trans (h2 v) (by omega)⟩))
      have hX5 := HX3.out.below hb5
      have e0 : w3.cell? ⟨X, 0, none⟩ = some (.int .i64 L) := HX3.out.cell 0
      have e1 : w3.cell? ⟨X, 1, none⟩ = some (.slice a N c) := HX3.out.cell 1
      have j0 : (w3.drew.alloc (.cells #[.slice (some ⟨g, 0, none⟩) q cap] 23)).cell? ⟨X, 0, none⟩ = some (.int .i64 L) := hX5.cell 0
      have j1 : (w3.drew.alloc (.cells #[.slice (some ⟨g, 0, none⟩) q cap] 23)).cell? ⟨X, 1, none⟩ = some (.slice a N c) := hX5.cell 1
      have HX5 := Lib.hid hX5
      have HB5 := Lib.hid hb5
      clear hb1 hb5 hX5 h1 hq hLr
      go_upto_region 7 with fail
      go_cut [8, 9] (fun x y wx => y = .int .i64 (minV (fun k => lenS L l (vT (trL L) k)) q : Nat) ∧ Hid (∃ b o c, x = .slice (some ⟨b, o, none⟩) (vT (trL L) (minI (fun k => lenS L l (vT (trL L) k)) q)).length c ∧ Rd wx (some ⟨b, o, none⟩) (fl encNd (vT (trL L) (minI (fun k => lenS L l (vT (trL L) k)) q)))) ∧ Hid (Below w3.heap.size w3 wx))
      case first =>
        go_region_held3 (fun w' => w'.cell? ⟨X, 0, none⟩ = some (.int .i64 L) ∧ w'.cell? ⟨X, 1, none⟩ = some (.slice a N c)) (go_keep) (first | (go_at_call 38; refine (values_any (some ⟨g, 0, none⟩) q cap _).mono ?_; rintro e w5 ⟨rfl, rfl⟩) | (go_at_call 37; refine HSH.out.mono ?_; rintro e w6 ⟨v, rfl, hv0, hv1, hb6⟩; have k0 : w6.cell? ⟨X, 0, none⟩ = some (.int .i64 L) := (HX5.out.below hb6).cell 0; have k1 : w6.cell? ⟨X, 1, none⟩ = some (.slice a N c) := (HX5.out.below hb6).cell 1; have HV1 := Lib.hid (hv1 hlen.1); have HB6 := Lib.hid (bl_trans HB5.out hb6); clear hv0 hv1 hb6))
        all_goals
          go_wp2_with fail
          go_meet
          exact ⟨rfl, HV1, HB6⟩
      case rest =>
        obtain ⟨rfl, hv, hb6⟩ := hcut
        go_wp2_with fail
        go_ret3
        have hI : bstT L l = vT (trL L) (minI (fun k => lenS L l (vT (trL L) k)) q) := by unfold bstT bstI; rw [HQ.out]
        refine ⟨u8, ?_, fun h => absurd HE0.out h, fun _ => ?_, bl_trans HB3.out hb6.out⟩
        · rw [HE0.out, if_pos rfl, hI]
          unfold minV
          rw [if_neg (by omega)]; rfl
        · rw [hI]; exact hv.out
    · have HE1 : Hid (bstE L l ≠ 0) := by show _ ≠ _; rw [HE.out]; exact h1
      obtain ⟨E, hEE⟩ : ∃ E, trE L = E := ⟨_, rfl⟩
      rw [hEE] at HE h1 ⊢
      have d0 : (E == 0) = false := by simp [h1]
      have d1 : (E != 0) = true := by simp [h1]
      clear hEE h1 HT
      go_wp2_with fail
      go_ret3
      exact ⟨.slice none 0 0, by rw [if_neg HE1.out, HE.out]; rfl, fun _ => rfl, fun h => absurd h HE1.out, HB3.out⟩
  · have HE : Hid (bstE L l = chkT L l) := if_pos h0
    obtain ⟨E, hEE⟩ : ∃ E, chkT L l = E := ⟨_, rfl⟩
    rw [hEE] at HE h0 ⊢
    have d0 : (E == 0) = false := by simp [h0]
    have d1 : (E != 0) = true := by simp [h0]
    have HE1 : Hid (bstE L l ≠ 0) := by show _ ≠ _; rw [HE.out]; exact h0
    clear hEE h0
    go_wp2_with fail
    go_ret3
    exact ⟨.slice none 0 0, by rw [if_neg HE1.out, HE.out]; rfl, fun _ => rfl, fun h => absurd h HE1.out, HB2.out⟩
end Go.Proofs.YtjmnakkkimgifaaDoor
namespace Go.Proofs.YtjmnakkkimgifaaDoor
open Go Go.RowKit Go.Shelf
/-- The name of node v of a written tree with m inner nodes. -/
def ndN (m v : Nat) : ByteArray := if v < m then ⟨#[73, UInt8.ofNat (48 + v)]⟩ else ⟨#[76, UInt8.ofNat (48 + (v - m))]⟩
def ndL (m : Nat) (P : List Int) : List Nd := (List.range P.length).map fun v => (iA P v, ndN m v)
theorem ndL_snoc {m : Nat} {P : List Int} {k : Nat} (hk : k < P.length) : ndL m (P.take (k + 1)) = ndL m (P.take k) ++ [(iA P k, ndN m k)] := by
  unfold ndL
  rw [List.length_take, List.length_take, show min (k + 1) P.length = k + 1 by omega, show min k P.length = k by omega, List.range_succ, List.map_append]
  congr 1
  · refine List.map_congr_left fun v hv => ?_
    have := List.mem_range.1 hv
    unfold iA
    rw [List.getD_eq_getElem?_getD, List.getD_eq_getElem?_getD, List.getElem?_take, List.getElem?_take, if_pos (by omega), if_pos (by omega)]
  · show [(iA (P.take (k + 1)) k, ndN m k)] = _
    unfold iA
    rw [List.getD_eq_getElem?_getD, List.getElem?_take, if_pos (by omega)]
    rfl
theorem toNat_dig {i : Nat} (h : i < 10) : (UInt8.ofNat (48 + i)).toNat = 48 + i := by
  rw [UInt8.toNat_ofNat_of_lt']; show 48 + i < 256; omega
theorem run_two (w : World) (a b : UInt8) : (convert 32 9 (.slice (some ⟨w.heap.size, 0, none⟩) 2 2)).run Tryd.prog (w.alloc (.cells #[.int .u8 (a.toNat : Int), .int .u8 (b.toNat : Int)] 5)) = .ok (.string ⟨#[a, b]⟩) (w.alloc (.cells #[.int .u8 (a.toNat : Int), .int .u8 (b.toNat : Int)] 5)) := by
  refine run_convert_bytes_back _ 32 9 5 ⟨w.heap.size, 0, none⟩ 2 [a, b] Tryd.underlying32 Tryd.underlying5 Tryd.underlying9 fun j hj => ?_
  have h1 := (Blk.new w #[.int .u8 (a.toNat : Int), .int .u8 (b.toNat : Int)] 5).cell j
  rcases j with _ | _ | j
  · simp [Addr.add]
  · simp [Addr.add]
  · simp at hj; omega
set_option maxRecDepth 100000 in
set_option maxHeartbeats 4000000 in
theorem nodes_any (m : Nat) (a : Option Addr) (n c : Nat) (P : List Int) (w : World) (hm : m ≤ 10) (hP : P.length = n) (hn : n ≤ 10) (hA : Rd w a (fl encI P)) :
    Calls Tryd.prog 26 #[.int .i64 m, .slice a n c] w fun e w' => ∃ v, e = .returned v ∧ w'.ownsRow w.heap.size 41 2 v n (fl encNd (ndL m P)) ∧ Below w.heap.size w w' := by
  have HP := Lib.hid hP
  have HA := Lib.hid hA
  clear hP hA
  go_enter Tryd.func26, Tryd.ntmps26
  go_wp2_with fail
  go_loopw [5, 6] (fun v x wr => ∃ k : Nat, k ≤ n ∧ x = .int .i64 k ∧ Hid (wr.ownsRow w.heap.size 41 2 v k (fl encNd (ndL m (P.take k)))) ∧ Hid (Below w.heap.size w wr)) (fun _ x _ => n - (intOf x).toNat)
  case atStart => exact ⟨0, by omega, rfl, World.ownsRow_nil _ _ _ _, Below.refl _ _⟩
  case round =>
    obtain ⟨k, hk, rfl, hO, hB⟩ := hrel
    by_cases hlt : k < n
    · have hc := (HA.out.bl hB.out)
      obtain ⟨b, o, rfl, hb, hcc⟩ := rdI hc (by rw [HP.out]; omega)
      have G := hcc k (by rw [HP.out]; exact hlt)
      obtain ⟨p, hp⟩ : ∃ p, p = iA P k := ⟨_, rfl⟩
      rw [← hp] at G
      have HPK := Lib.hid hp
      have HSN : Hid (ndL m (P.take (k + 1)) = ndL m (P.take k) ++ [(p, ndN m k)]) := by show _ = _; rw [hp]; exact ndL_snoc (by rw [HP.out]; exact hlt)
      have HLN : Hid ((ndL m (P.take k)).length = k) := by show _ = _; unfold ndL; rw [List.length_map, List.length_range, List.length_take, HP.out]; omega
      clear hc hcc hp
      have q1 := run_two wr 73 (UInt8.ofNat (48 + k))
      rw [toNat_dig (show k < 10 by omega)] at q1
      have e73 : ((73 : UInt8).toNat : Int) = 73 := rfl
      have e48 : ((48 + k : Nat) : Int) = 48 + (k : Int) := by omega
      rw [e73, e48] at q1
      by_cases hlf : k < m
      · have d1 : decide ((m : Int) ≤ (k : Int)) = false := by simp; omega
        have d2 : decide (m ≤ k) = false := by simp; omega
        have HNM : Hid (ndN m k = ⟨#[73, UInt8.ofNat (48 + k)]⟩) := if_pos hlf
        rw [HNM.out] at HSN
        obtain ⟨s, hs⟩ : ∃ s : ByteArray, s = ⟨#[73, UInt8.ofNat (48 + k)]⟩ := ⟨_, rfl⟩
        rw [← hs] at HSN q1
        have hb1 := bl_alloc (Below.refl _ wr) (.cells #[.int .u8 73, .int .u8 (48 + (k : Int))] 5)
        have HOO := Lib.hid (owns_below hO.out hb1)
        have HBB := Lib.hid (bl_trans hB.out (bl_alloc hb1 (.cells #[.int .i64 p, .string s] 41)))
        have hsz := hB.out.size
        clear hlf e73 e48 HNM hs hb1 hO hB
        go_wp2_with (at_builtin; refine push_Nd rfl (.tmp 29) (.tmp 36) rfl w.heap.size u5 (ndL m (P.take k)) k HLN.out.symm rfl (HOO.out.alloc _) _ _ (p, s) rfl (Blk.new2 _ _ _ _) (by omega) (by simp only [World.size_alloc]; omega) ?_; intro g8 cap8 w8 h81 h82 h83 h84; rw [← HSN.out] at h81; have H81 := Lib.hid h81; have H82 := Lib.hid h82; clear h81 h82 h83)
        have HB8 : Hid (Below w.heap.size w w8) := bl_grown HBB.out H82.out (fun r e => (HOO.out.lt r e).1)
        clear H82 HBB HOO q1
        go_roundw
        case rel => exact ⟨k + 1, by omega, by go_num, H81, HB8⟩
        case measure => simp [intOf]; omega
      · have d1 : decide ((m : Int) ≤ (k : Int)) = true := by simp; omega
        have d2 : decide (m ≤ k) = true := by simp; omega
        have HNM : Hid (ndN m k = ⟨#[76, UInt8.ofNat (48 + (k - m))]⟩) := if_neg hlf
        rw [HNM.out] at HSN
        have hb1 := bl_alloc (Below.refl _ wr) (.cells #[.int .u8 73, .int .u8 (48 + (k : Int))] 5)
        have q2 := run_two (wr.alloc (.cells #[.int .u8 73, .int .u8 (48 + (k : Int))] 5)) 76 (UInt8.ofNat (48 + (k - m)))
        rw [toNat_dig (show k - m < 10 by omega)] at q2
        have e76 : ((76 : UInt8).toNat : Int) = 76 := rfl
        have e49 : ((48 + (k - m) : Nat) : Int) = 48 + ((k : Int) - (m : Int)) := by omega
        rw [e76, e49, World.size_alloc] at q2
        obtain ⟨s0, hs0⟩ : ∃ s : ByteArray, s = ⟨#[73, UInt8.ofNat (48 + k)]⟩ := ⟨_, rfl⟩
        rw [← hs0] at q1
        obtain ⟨s, hs⟩ : ∃ s : ByteArray, s = ⟨#[76, UInt8.ofNat (48 + (k - m))]⟩ := ⟨_, rfl⟩
        rw [← hs] at HSN q2
        have hmk : (m : Int) ≤ (k : Int) := by omega
        have hb2 := bl_alloc hb1 (.cells #[.int .u8 76, .int .u8 (48 + ((k : Int) - (m : Int)))] 5)
        have HOO := Lib.hid (owns_below hO.out hb2)
        have HBB := Lib.hid (bl_trans hB.out (bl_alloc hb2 (.cells #[.int .i64 p, .string s] 41)))
        have hzb := Blk.new ((wr.alloc (.cells #[.int .u8 73, .int .u8 (48 + (k : Int))] 5)).alloc (.cells #[.int .u8 76, .int .u8 (48 + ((k : Int) - (m : Int)))] 5)) #[.int .i64 p, .string s] 41
        simp only [World.size_alloc] at hzb
        have HZB := Lib.hid hzb
        have hsz := hB.out.size
        clear hzb hlf e73 e48 e76 e49 HNM hs hs0 hb1 hb2 hO hB
        go_wp2_with (at_builtin; refine push_Nd rfl (.tmp 29) (.tmp 36) rfl w.heap.size u5 (ndL m (P.take k)) k HLN.out.symm rfl (HOO.out.alloc _) _ _ (p, s) rfl HZB.out (by omega) (by simp only [World.size_alloc]; omega) ?_; intro g8 cap8 w8 h81 h82 h83 h84; rw [← HSN.out] at h81; have H81 := Lib.hid h81; have H82 := Lib.hid h82; clear h81 h82 h83)
        have HB8 : Hid (Below w.heap.size w w8) := bl_grown HBB.out H82.out (fun r e => (HOO.out.lt r e).1)
        clear H82 HBB HOO q1 q2
        go_roundw
        case rel => exact ⟨k + 1, by omega, by go_num, H81, HB8⟩
        case measure => simp [intOf]; omega
    · obtain rfl : k = n := by omega
      have HO2 : Hid (wr.ownsRow w.heap.size 41 2 u5 k (fl encNd (ndL m P))) := by
        have h := hO.out
        rw [List.take_of_length_le (by rw [HP.out]; exact Nat.le_refl _)] at h; exact h
      clear hO
      go_wp2_with fail
      go_ret
      exact ⟨u5, rfl, HO2.out, hB.out⟩
end Go.Proofs.YtjmnakkkimgifaaDoor
namespace Go.Proofs.YtjmnakkkimgifaaDoor
open Go Go.RowKit Go.Shelf
theorem dg_app (c : UInt8) {v : Nat} (h : v < 10) : (⟨#[c]⟩ ++ dgB v : ByteArray) = ⟨#[c, UInt8.ofNat (48 + v)]⟩ := by
  unfold dgB
  rw [Lib.decDigits, dif_pos h]
  rfl
theorem nmV_nd {m v : Nat} (h1 : 1 ≤ m) (h : v < 10) : nmV m v = ndN (m - 1) v := by
  unfold nmV ndN
  by_cases e : v + 1 < m
  · rw [if_pos e, if_pos (by omega), dg_app _ h]
  · rw [if_neg e, if_neg (by omega), dg_app _ (by omega), show v + 1 - m = v - (m - 1) by omega]
theorem nmT_nd {m : Nat} {ps : List Int} (h1 : 1 ≤ m) (h : ps.length ≤ 10) : nmT m ps = ndL (m - 1) ps := by
  unfold nmT ndL
  exact List.map_congr_left fun v hv => by rw [nmV_nd h1 (by have := List.mem_range.1 hv; omega)]
theorem trL_nd {n : Int} : trL n = if 1 ≤ n ∧ n ≤ 5 then (soP n.toNat).map (ndL (n.toNat - 1)) else [] := by
  unfold trL
  by_cases h : 1 ≤ n ∧ n ≤ 5
  · rw [if_pos h, if_pos h]
    obtain ⟨N, rfl⟩ : ∃ N : Nat, n = ((N + 1 : Nat) : Int) := ⟨(n - 1).toNat, by omega⟩
    rw [Int.toNat_natCast]
    refine List.map_congr_left fun ps hp => nmT_nd (by omega) ?_
    have h1 := soP_asc N (by omega)
    rw [Bool.and_eq_true, List.all_eq_true] at h1
    have := h1.2 ps hp
    rw [decide_eq_true_eq] at this
    omega
  · rw [if_neg h, if_neg h]
def exF : List Nd := ndL 3 [-1, 0, 0, 1, 1, 2, 2]
def exC : List Nd := ndL 3 [-1, 0, 1, 2, 2, 1, 0]
theorem exF_ok : TreeOk exF := by decide +kernel
theorem exC_ok : TreeOk exC := by decide +kernel
theorem ex_len : chkP 4 [3, 5, 15] exF = 0 ∧ lenL 4 [3, 5, 15] exF = [1, 2, 0] := by decide +kernel
theorem ex_bin : binB exF exF.length = true ∧ binB exC exC.length = true := by decide +kernel
theorem ex_trees : trL 3 = [ndL 2 [-1, 0, 0, 1, 1], ndL 2 [-1, 0, 1, 0, 1], ndL 2 [-1, 0, 1, 1, 0]] := by
  rw [trL_nd, if_pos (by decide)]
  rfl
theorem ex_best : bstE 4 [3, 5, 5] = 0 ∧ bstT 4 [3, 5, 5] = ndL 3 [-1, 0, 0, 1, 2, 1, 2] ∧ lenS 4 [3, 5, 5] (bstT 4 [3, 5, 5]) = 4 := by
  unfold bstT bstI
  rw [trL_nd]
  decide +kernel
theorem ex_near : nearE exF = 0 ∧ (nearT exF).length = 4 := by
  have h : nearE exF = 0 := by
    unfold nearE
    rw [show chkE exF = 0 from if_pos exF_ok, if_neg (by simp), if_pos ex_bin.1]
  refine ⟨h, ?_⟩
  unfold nearT
  rw [if_pos h, near_len rfl exF_ok (binB_iff.1 ex_bin.1)]
  rfl
set_option maxRecDepth 100000 in
theorem ex_climb : clbE 4 [5] exC = 0 ∧ topL 4 [5] exC = ndL 3 [-1, 0, 1, 2, 1, 2, 0] ∧ lenS 4 [5] (topL 4 [5] exC) = 1 := by decide +kernel
end Go.Proofs.YtjmnakkkimgifaaDoor
namespace Go.Proofs.YtjmnakkkimgifaaDoor
open Go Go.RowKit Go.Shelf
theorem nodes_at (m : Nat) (P : List Int) (B n : Nat) (w : World) (hm : m ≤ 10) (hP : P.length = n) (h0 : 0 < n) (hn : n ≤ 10) (hB : Blk w B (fl encI P).toArray 3) :
    Calls Tryd.prog 26 #[.int .i64 m, .slice (some ⟨B, 0, none⟩) n n] w fun e w' => ∃ g c, e = .returned (.slice (some ⟨g, 0, none⟩) n c) ∧ w'.ownsRow w.heap.size 41 2 (.slice (some ⟨g, 0, none⟩) n c) n (fl encNd (ndL m P)) ∧ n ≤ c ∧ c ≤ 9223372036854775807 ∧ Below w.heap.size w w' := by
  refine (nodes_any m (some ⟨B, 0, none⟩) n n P w hm hP hn (Rd.of_blk hB)).mono ?_
  rintro e w' ⟨v, rfl, ho, hb⟩
  obtain ⟨g, c, rfl, _, _⟩ := ho.form h0
  exact ⟨g, c, rfl, ho, (own_cap ho).1, by have := (own_cap ho).2; unfold maxLen at this; omega, hb⟩
set_option maxHeartbeats 1000000 in
theorem table_any (w : World) : Calls Tryd.prog 22 #[] w fun e w' => ∃ B, e = .returned (.agg #[.int .i64 4, .slice (some ⟨B, 0, none⟩) 3 3]) ∧ Rd w' (some ⟨B, 0, none⟩) (fl encV [3, 5, 15]) ∧ Below w.heap.size w w' := by
  have hb := Blk.new2 w (.cells #[.int .i64 4, .slice (some ⟨w.heap.size + 1, 0, none⟩) 3 3] 30) (fl encV [3, 5, 15]).toArray 52
  have hbl : Below w.heap.size w ((w.alloc (.cells #[.int .i64 4, .slice (some ⟨w.heap.size + 1, 0, none⟩) 3 3] 30)).alloc (.cells (fl encV [3, 5, 15]).toArray 52)) := bl_alloc (bl_alloc (Below.refl _ _) _) _
  have HB := Lib.hid hb
  have HBL := Lib.hid hbl
  clear hb hbl
  go_enter Tryd.func22, Tryd.ntmps22
  go_wp2_with fail
  exact bodyPost_ret (v := .agg #[.int .i64 4, .slice (some ⟨w.heap.size + 1, 0, none⟩) 3 3]) (by simp [results, Tryd.results22, go_sem]) rfl ⟨w.heap.size + 1, rfl, Rd.of_blk HB.out, HBL.out⟩
set_option maxHeartbeats 1000000 in
theorem with_any (a : Option Addr) (n c : Nat) (w : World) : Calls Tryd.prog 25 #[.slice a n c] w fun e w' => e = .returned (.agg #[.int .i64 4, .slice a n c]) ∧ Below w.heap.size w w' := by
  have hbl : Below w.heap.size w (w.alloc (.cells #[.int .i64 4, .slice a n c] 30)) := bl_alloc (Below.refl _ _) _
  have HBL := Lib.hid hbl
  clear hbl
  go_enter Tryd.func25, Tryd.ntmps25
  go_wp2_with fail
  exact bodyPost_ret (v := .agg #[.int .i64 4, .slice a n c]) (by simp [results, Tryd.results25, go_sem]) rfl ⟨rfl, HBL.out⟩
set_option maxHeartbeats 1000000 in
theorem four_any33 (w : World) : Calls Tryd.prog 24 #[] w fun e w' => ∃ g c, e = .returned (.slice (some ⟨g, 0, none⟩) 7 c) ∧ Rd w' (some ⟨g, 0, none⟩) (fl encNd exF) ∧ 7 ≤ c ∧ c ≤ 9223372036854775807 ∧ Below w.heap.size w w' := by
  have HC := Lib.hid (nodes_at 3 [-1, 0, 0, 1, 1, 2, 2] w.heap.size 7 (w.alloc (.cells (fl encI [-1, 0, 0, 1, 1, 2, 2]).toArray 3)) (by omega) rfl (by omega) (by omega) (Blk.new _ _ _))
  have HB := Lib.hid (bl_alloc (Below.refl _ w) (.cells (fl encI [-1, 0, 0, 1, 1, 2, 2]).toArray 3))
  go_enter Tryd.func24, Tryd.ntmps24
  go_wp2_with fail
  refine HC.out.mono ?_
  rintro e w2 ⟨g, c, rfl, ho, hc1, hc2, hb⟩
  have HO := Lib.hid (rd_of_owns ho)
  have HB2 := Lib.hid (bl_trans HB.out hb)
  clear ho hb HC HB
  go_wp2_with fail
  go_ret
  exact ⟨g, c, rfl, HO.out, hc1, hc2, HB2.out⟩
theorem szF {m : Nat} {P : List Int} : ∀ v, (nS (ndL m P) v).size ≤ 9223372036854775807 := fun v => by
  unfold nS ndL
  rw [List.getD_eq_getElem?_getD, List.getElem?_map]
  cases (List.range P.length)[v]? with
  | none => show ByteArray.empty.size ≤ _; decide
  | some u =>
    show (ndN m u).size ≤ _
    unfold ndN
    split
    · show 2 ≤ _; decide
    · show 2 ≤ _; decide
theorem equal_same (a1 a2 : Option Addr) (n1 n2 c1 c2 : Nat) (l : List Int) (w : World) (hn1 : l.length = n1) (hn2 : l.length = n2) (hm1 : n1 ≤ 1152921504606846976) (hm2 : n2 ≤ 1152921504606846976) (hA : Rd w a1 (fl encI l)) (hB : Rd w a2 (fl encI l)) :
    Calls Tryd.prog 27 #[.slice a1 n1 c1, .slice a2 n2 c2] w fun e w' => e = .returned (.bool true) ∧ ∃ n, w' = w.drewN n :=
  (equal_any a1 a2 n1 n2 c1 c2 l l w hn1 hn2 hm1 hm2 hA hB).mono fun e w' h => ⟨by rw [h.1, decide_eq_true rfl], h.2⟩
theorem same_same (a1 a2 : Option Addr) (n1 n2 c1 c2 : Nat) (T : List Nd) (w : World) (hn1 : T.length = n1) (hn2 : T.length = n2) (hm1 : n1 ≤ 1152921504606846976) (hm2 : n2 ≤ 1152921504606846976) (hA : Rd w a1 (fl encNd T)) (hB : Rd w a2 (fl encNd T)) :
    Calls Tryd.prog 15 #[.slice a1 n1 c1, .slice a2 n2 c2] w fun e w' => e = .returned (.bool true) ∧ ∃ n, w' = w.drewN n :=
  (same2_any a1 a2 n1 n2 c1 c2 T T w hn1 hn2 hm1 hm2 hA hB).mono fun e w' h => ⟨by rw [h.1, decide_eq_true rfl], h.2⟩
/-- Three rows in a block of their own. -/
theorem ts_three {w : World} {base g0 g1 g2 c0 c1 c2 n0 n1 n2 : Nat} {T0 T1 T2 : List Nd} (h0 : w.ownsRow base 41 2 (.slice (some ⟨g0, 0, none⟩) n0 c0) n0 (fl encNd T0)) (h1 : w.ownsRow base 41 2 (.slice (some ⟨g1, 0, none⟩) n1 c1) n1 (fl encNd T1)) (h2 : w.ownsRow base 41 2 (.slice (some ⟨g2, 0, none⟩) n2 c2) n2 (fl encNd T2))
    (e0 : T0.length = n0) (e1 : T1.length = n1) (e2 : T2.length = n2) (l0 : g0 < g1) (l1 : g1 < g2) :
    TsW (w.alloc (.cells #[.slice (some ⟨g0, 0, none⟩) n0 c0, .slice (some ⟨g1, 0, none⟩) n1 c1, .slice (some ⟨g2, 0, none⟩) n2 c2] 33)) base (.slice (some ⟨w.heap.size, 0, none⟩) 3 3) 3 (vT [T0, T1, T2]) (fun i => if i = 0 then (some ⟨g0, 0, none⟩, n0, c0) else if i = 1 then (some ⟨g1, 0, none⟩, n1, c1) else (some ⟨g2, 0, none⟩, n2, c2)) := by
  have hb : Below w.heap.size w (w.alloc (.cells #[.slice (some ⟨g0, 0, none⟩) n0 c0, .slice (some ⟨g1, 0, none⟩) n1 c1, .slice (some ⟨g2, 0, none⟩) n2 c2] 33)) := bl_alloc (Below.refl _ _) _
  have q0 := (h0.lt g0 rfl)
  have q1 := (h1.lt g1 rfl)
  have q2 := (h2.lt g2 rfl)
  have ho := owns_made (w := w) (base := base) (e := 33) (k := 1) (n := 3) (cs := #[.slice (some ⟨g0, 0, none⟩) n0 c0, .slice (some ⟨g1, 0, none⟩) n1 c1, .slice (some ⟨g2, 0, none⟩) n2 c2]) (by omega) rfl (by decide)
  subst e0 e1 e2
  have key : ∀ i, i < 3 → i = 0 ∨ i = 1 ∨ i = 2 := fun i hi => by omega
  refine ⟨ho, fun i hi => ?_, fun i hi => ?_, fun i j hi hj hij => ?_, fun i hi => ?_⟩
  · rcases key i hi with rfl | rfl | rfl
    · exact owns_below h0 hb
    · exact owns_below h1 hb
    · exact owns_below h2 hb
  · rcases key i hi with rfl | rfl | rfl <;> rfl
  · right
    intro e
    rcases key i hi with rfl | rfl | rfl <;> rcases key j hj with rfl | rfl | rfl <;> first | omega | (have e' := Option.some.inj (show (some _ : Option Nat) = some _ from e); dsimp only at e'; omega)
  · right
    intro e
    rcases key i hi with rfl | rfl | rfl <;> (have e' := Option.some.inj (show (some _ : Option Nat) = some _ from e); dsimp only at e'; omega)
set_option maxRecDepth 100000 in
set_option maxHeartbeats 8000000 in
theorem works_any (w : World) : Calls Tryd.prog 16 #[] w fun e w' => e = .returned (.bool true) ∧ Below w.heap.size w w' := by
  go_enter Tryd.func16, Tryd.ntmps16
  go_wp2_with fail
  refine (table_any _).mono ?_
  rintro e w1 ⟨B1, rfl, hR1, hb1⟩
  have HR1 := Lib.hid hR1
  have HB1 := Lib.hid hb1
  clear hR1 hb1
  go_wp2_with fail
  refine (four_any33 _).mono ?_
  rintro e w2 ⟨g2, c2, rfl, hR2, hc2, hc2', hb2⟩
  have HL := Lib.hid (lengths_any 4 (some ⟨B1, 0, none⟩) 3 3 [3, 5, 15] (some ⟨g2, 0, none⟩) 7 c2 exF w2 rfl (by omega) (HR1.out.bl hb2) (fun i hi => by
    match i, hi with
    | 0, _ => decide
    | 1, _ => decide
    | 2, _ => decide) rfl (by omega) hR2 (fun v _ => szF v))
  rw [ex_len.1, ex_len.2] at HL
  have HB2 := Lib.hid (bl_trans HB1.out hb2)
  clear hR2 hb2 HB1 HR1
  go_wp2_with fail
  refine HL.out.mono ?_
  rintro e w3 ⟨v3, rfl, ho3, hb3⟩
  obtain ⟨g3, c3, rfl, _, _⟩ := World.ownsRow.form ho3 (by decide)
  have hc3 := own_cap ho3
  unfold maxLen at hc3
  have HR3 := Lib.hid (rd_of_owns ho3)
  have HB3 := Lib.hid (bl_trans HB2.out hb3)
  clear ho3 hb3 HL HB2
  go_wp2_with fail
  refine (trees_any 3 w3 (by omega) (by omega)).mono ?_
  rintro e w4 ⟨v4, rs4, rfl, hT4, hb4⟩
  rw [ex_trees] at hT4
  obtain ⟨g4, c4, rfl, _, _⟩ := hT4.rows.form (by decide)
  have hc4 := own_cap hT4.rows
  unfold maxLen at hc4
  have HT4 := Lib.hid hT4
  have HR4 := Lib.hid (HR3.out.bl hb4)
  have HB4 := Lib.hid (bl_trans HB3.out hb4)
  clear hT4 hb4 HR3 HB3
  have e3 : trE 3 = 0 := rfl
  rw [e3]
  go_wp2_with fail
  have hb5 := bl_alloc (Below.refl _ w4) (.cells (fl encV [3, 5, 5]).toArray 52)
  have HV5 := Lib.hid (Rd.of_blk (Blk.new w4 (fl encV [3, 5, 5]).toArray 52))
  have HT5 := Lib.hid (HT4.out.bl hb5)
  have HR5 := Lib.hid (HR4.out.bl hb5)
  have HB5 := Lib.hid (bl_trans HB4.out hb5)
  clear hb5 HT4 HR4 HB4
  refine (with_any _ _ _ _).mono ?_
  rintro e w6 ⟨rfl, hb6⟩
  have HV6 := Lib.hid (HV5.out.bl hb6)
  have HT6 := Lib.hid (HT5.out.bl hb6)
  have HR6 := Lib.hid (HR5.out.bl hb6)
  have HB6 := Lib.hid (bl_trans HB5.out hb6)
  clear hb6 HT5 HR5 HB5 HV5
  go_wp2_with fail
  refine (best_any 4 _ 3 3 [3, 5, 5] w6 (by omega) (by omega) rfl (by omega) HV6.out (fun i hi => by
    match i, hi with
    | 0, _ => decide
    | 1, _ => decide
    | 2, _ => decide)).mono ?_
  rintro e w7 ⟨v7, rfl, _, hv7, hb7⟩
  obtain ⟨b7, o7, c7, rfl, hr7⟩ := hv7 ex_best.1
  rw [ex_best.1, if_pos rfl, ex_best.2.2]
  rw [ex_best.2.1] at hr7 ⊢
  have hl7 : (ndL 3 [-1, 0, 0, 1, 2, 1, 2]).length = 7 := rfl
  rw [hl7]
  have HR7 := Lib.hid (HR6.out.bl hb7)
  have HT7 := Lib.hid (HT6.out.bl hb7)
  have HB7 := Lib.hid (bl_trans HB6.out hb7)
  have HS7 := Lib.hid hr7
  clear hv7 hr7 hb7 HR6 HT6 HB6 HV6
  go_wp2_with fail
  refine (four_any33 _).mono ?_
  rintro e w8 ⟨g8, c8, rfl, hR8, hc8, hc8', hb8⟩
  have HR8 := Lib.hid (HR7.out.bl hb8)
  have HT8 := Lib.hid (HT7.out.bl hb8)
  have HB8 := Lib.hid (bl_trans HB7.out hb8)
  have HS8 := Lib.hid (HS7.out.bl hb8)
  have HN := Lib.hid (near_any (some ⟨g8, 0, none⟩) 7 c8 exF w8 rfl (by omega) hR8 (fun v _ => szF v))
  rw [ex_near.1, ex_near.2] at HN
  clear hR8 hb8 HR7 HT7 HB7 HS7
  go_wp2_with fail
  refine HN.out.mono ?_
  rintro e w9 ⟨v9, rs9, rfl, hT9, hb9⟩
  obtain ⟨g9, c9, rfl, _, _⟩ := hT9.rows.form (by decide)
  have hc9 := own_cap hT9.rows
  unfold maxLen at hc9
  have HR9 := Lib.hid (HR8.out.bl hb9)
  have HT9 := Lib.hid (HT8.out.bl hb9)
  have HB9 := Lib.hid (bl_trans HB8.out hb9)
  have HS9 := Lib.hid (HS8.out.bl hb9)
  clear hT9 hb9 HN HR8 HT8 HB8 HS8
  go_wp2_with fail
  have hb10 := bl_alloc (Below.refl _ w9) (.cells (fl encV [5]).toArray 52)
  have HV10 := Lib.hid (Rd.of_blk (Blk.new w9 (fl encV [5]).toArray 52))
  have HB10 := Lib.hid (bl_trans HB9.out hb10)
  have HR10 := Lib.hid (HR9.out.bl hb10)
  have HT10 := Lib.hid (HT9.out.bl hb10)
  have HS10 := Lib.hid (HS9.out.bl hb10)
  clear hb10 HB9 HR9 HT9 HS9
  refine (with_any _ _ _ _).mono ?_
  rintro e w11 ⟨rfl, hb11⟩
  have hbI := bl_alloc hb11 (.cells (fl encI [-1, 0, 1, 2, 2, 1, 0]).toArray 3)
  have HN := Lib.hid (nodes_at 3 [-1, 0, 1, 2, 2, 1, 0] w11.heap.size 7 (w11.alloc (.cells (fl encI [-1, 0, 1, 2, 2, 1, 0]).toArray 3)) (by omega) rfl (by omega) (by omega) (Blk.new _ _ _))
  have HV11 := Lib.hid (HV10.out.bl hbI)
  have HB11 := Lib.hid (bl_trans HB10.out hbI)
  have HR11 := Lib.hid (HR10.out.bl hbI)
  have HT11 := Lib.hid (HT10.out.bl hbI)
  have HS11 := Lib.hid (HS10.out.bl hbI)
  clear hb11 hbI HB10 HR10 HT10 HS10 HV10
  go_wp2_with fail
  refine HN.out.mono ?_
  rintro e w12 ⟨g12, c12, rfl, ho12, hc12, hc12', hb12⟩
  have HCL := Lib.hid (climb_any 4 _ 1 1 [5] (some ⟨g12, 0, none⟩) 7 c12 exC w12 rfl (by omega) (HV11.out.bl hb12) (fun i hi => by
    match i, hi with
    | 0, _ => decide) rfl (by omega) (rd_of_owns ho12) (fun v _ => szF v))
  have HB12 := Lib.hid (bl_trans HB11.out hb12)
  have HR12 := Lib.hid (HR11.out.bl hb12)
  have HT12 := Lib.hid (HT11.out.bl hb12)
  have HS12 := Lib.hid (HS11.out.bl hb12)
  clear ho12 hb12 HN HB11 HR11 HT11 HS11 HV11
  go_wp2_with fail
  refine HCL.out.mono ?_
  rintro e w13 ⟨v13, rfl, _, hv13, hb13⟩
  obtain ⟨b13, o13, c13, rfl, hr13⟩ := hv13 ex_climb.1
  rw [ex_climb.1, if_pos rfl, ex_climb.2.2]
  rw [ex_climb.2.1] at hr13 ⊢
  have hl13 : (ndL 3 [-1, 0, 1, 2, 1, 2, 0]).length = 7 := rfl
  rw [hl13]
  have HB13 := Lib.hid (bl_trans HB12.out hb13)
  have HR13 := Lib.hid (HR12.out.bl hb13)
  have HT13 := Lib.hid (HT12.out.bl hb13)
  have HS13 := Lib.hid (HS12.out.bl hb13)
  have HC13 := Lib.hid hr13
  clear hv13 hr13 hb13 HCL HB12 HR12 HT12 HS12
  have hb14 := bl_alloc (Below.refl _ w13) (.cells (fl encI [1, 2, 0]).toArray 3)
  have HE := Lib.hid (equal_same (some ⟨g3, 0, none⟩) (some ⟨w13.heap.size, 0, none⟩) 3 3 c3 3 [1, 2, 0] (w13.alloc (.cells (fl encI [1, 2, 0]).toArray 3)) rfl rfl (by omega) (by omega) (HR13.out.bl hb14) (Rd.of_blk (Blk.new _ _ _)))
  have HB14 := Lib.hid (bl_trans HB13.out hb14)
  have HT14 := Lib.hid (HT13.out.bl hb14)
  have HS14 := Lib.hid (HS13.out.bl hb14)
  have HC14 := Lib.hid (HC13.out.bl hb14)
  clear hb14 HB13 HT13 HS13 HC13 HR13
  go_wp2_with fail
  refine HE.out.mono ?_
  rintro e w15 ⟨rfl, q15, rfl⟩
  obtain ⟨w16, hw16⟩ : ∃ x, x = (w13.alloc (.cells (fl encI [1, 2, 0]).toArray 3)).drewN q15 := ⟨_, rfl⟩
  have hb16 : Below (w13.alloc (.cells (fl encI [1, 2, 0]).toArray 3)).heap.size (w13.alloc (.cells (fl encI [1, 2, 0]).toArray 3)) w16 := by rw [hw16]; exact bl_drewN (Below.refl _ _) q15
  have HB16 := Lib.hid (bl_trans HB14.out hb16)
  have HT16 := Lib.hid (HT14.out.bl hb16)
  have HS16 := Lib.hid (HS14.out.bl hb16)
  have HC16 := Lib.hid (HC14.out.bl hb16)
  rw [← hw16]
  clear hb16 hw16 HB14 HT14 HS14 HC14 HE
  have hbI := bl_alloc (Below.refl _ w16) (.cells (fl encI [-1, 0, 0, 1, 1]).toArray 3)
  have HN := Lib.hid (nodes_at 2 [-1, 0, 0, 1, 1] w16.heap.size 5 (w16.alloc (.cells (fl encI [-1, 0, 0, 1, 1]).toArray 3)) (by omega) rfl (by omega) (by omega) (Blk.new _ _ _))
  go_wp2_with fail
  refine HN.out.mono ?_
  rintro e w17 ⟨g17, c17, rfl, ho17, hc17, hc17', hb17⟩
  have hb17 := bl_trans hbI hb17
  have HO17 := Lib.hid (owns_mono ho17 hbI.size)
  have HB17 := Lib.hid hb17
  clear HN ho17 hb17 hbI
  have hbI := bl_alloc (Below.refl _ w17) (.cells (fl encI [-1, 0, 1, 0, 1]).toArray 3)
  have HN := Lib.hid (nodes_at 2 [-1, 0, 1, 0, 1] w17.heap.size 5 (w17.alloc (.cells (fl encI [-1, 0, 1, 0, 1]).toArray 3)) (by omega) rfl (by omega) (by omega) (Blk.new _ _ _))
  go_wp2_with fail
  refine HN.out.mono ?_
  rintro e w18 ⟨g18, c18, rfl, ho18, hc18, hc18', hb18⟩
  have hb18 := bl_trans hbI hb18
  have HO18 := Lib.hid (owns_mono ho18 hbI.size)
  have HP17 := Lib.hid (owns_below HO17.out hb18)
  have HB18 := Lib.hid (bl_trans HB17.out hb18)
  have hl17 : g17 < g18 := by have := (HO17.out.lt g17 rfl).2; have := (HO18.out.lt g18 rfl).1; omega
  clear HN ho18 hb18 hbI HO17
  have hbI := bl_alloc (Below.refl _ w18) (.cells (fl encI [-1, 0, 1, 1, 0]).toArray 3)
  have HN := Lib.hid (nodes_at 2 [-1, 0, 1, 1, 0] w18.heap.size 5 (w18.alloc (.cells (fl encI [-1, 0, 1, 1, 0]).toArray 3)) (by omega) rfl (by omega) (by omega) (Blk.new _ _ _))
  go_wp2_with fail
  refine HN.out.mono ?_
  rintro e w19 ⟨g19, c19, rfl, ho19, hc19, hc19', hb19⟩
  have hb19 := bl_trans hbI hb19
  have HO19 := Lib.hid (owns_mono ho19 hbI.size)
  have HQ17 := Lib.hid (owns_below HP17.out hb19)
  have HQ18 := Lib.hid (owns_below HO18.out hb19)
  have hl18 : g18 < g19 := by have := (HO18.out.lt g18 rfl).2; have := (HO19.out.lt g19 rfl).1; omega
  have hbs := HB17.out.size
  have hbs2 := HB18.out.size
  have hts := ts_three (base := w16.heap.size) HQ17.out (owns_mono HQ18.out hbs) (owns_mono HO19.out hbs2) rfl rfl rfl hl17 hl18
  have hb20 := bl_alloc (bl_trans HB18.out hb19) (.cells #[.slice (some ⟨g17, 0, none⟩) 5 c17, .slice (some ⟨g18, 0, none⟩) 5 c18, .slice (some ⟨g19, 0, none⟩) 5 c19] 33)
  have HE := Lib.hid (lsame_any _ _ _ _ 3 _ _ _ _ (by omega) (HT16.out.bl hb20) hts (fun i hi => by
    have : i = 0 ∨ i = 1 ∨ i = 2 := by omega
    rcases this with rfl | rfl | rfl <;> (show 5 ≤ _; omega)))
  have HB20 := Lib.hid (bl_trans HB16.out hb20)
  have HS20 := Lib.hid (HS16.out.bl hb20)
  have HC20 := Lib.hid (HC16.out.bl hb20)
  clear HN ho19 hb19 hbI HP17 HO18 HO19 HQ17 HQ18 hts hb20 HB18 HB17 HB16 HT16 HS16 HC16
  go_wp2_with fail
  refine HE.out.mono ?_
  rintro e w21 ⟨rfl, q21, rfl⟩
  obtain ⟨w22, hw22⟩ : ∃ x, x = (w19.alloc (.cells #[.slice (some ⟨g17, 0, none⟩) 5 c17, .slice (some ⟨g18, 0, none⟩) 5 c18, .slice (some ⟨g19, 0, none⟩) 5 c19] 33)).drewN q21 := ⟨_, rfl⟩
  have hb22 : Below (w19.alloc (.cells #[.slice (some ⟨g17, 0, none⟩) 5 c17, .slice (some ⟨g18, 0, none⟩) 5 c18, .slice (some ⟨g19, 0, none⟩) 5 c19] 33)).heap.size (w19.alloc (.cells #[.slice (some ⟨g17, 0, none⟩) 5 c17, .slice (some ⟨g18, 0, none⟩) 5 c18, .slice (some ⟨g19, 0, none⟩) 5 c19] 33)) w22 := by rw [hw22]; exact bl_drewN (Below.refl _ _) q21
  have HB22 := Lib.hid (bl_trans HB20.out hb22)
  have HS22 := Lib.hid (HS20.out.bl hb22)
  have HC22 := Lib.hid (HC20.out.bl hb22)
  rw [← hw22]
  clear hb22 hw22 HB20 HS20 HC20 HE
  have hbI := bl_alloc (Below.refl _ w22) (.cells (fl encI [-1, 0, 0, 1, 2, 1, 2]).toArray 3)
  have HN := Lib.hid (nodes_at 3 [-1, 0, 0, 1, 2, 1, 2] w22.heap.size 7 (w22.alloc (.cells (fl encI [-1, 0, 0, 1, 2, 1, 2]).toArray 3)) (by omega) rfl (by omega) (by omega) (Blk.new _ _ _))
  go_wp2_with fail
  refine HN.out.mono ?_
  rintro e w23 ⟨g23, c23, rfl, ho23, hc23, hc23', hb23⟩
  have hb23 := bl_trans hbI hb23
  have HE := Lib.hid (same_same (some ⟨b7, o7, none⟩) (some ⟨g23, 0, none⟩) 7 7 c7 c23 _ w23 rfl rfl (by omega) (by omega) (HS22.out.bl hb23) (rd_of_owns ho23))
  have HB23 := Lib.hid (bl_trans HB22.out hb23)
  have HC23 := Lib.hid (HC22.out.bl hb23)
  clear HN ho23 hb23 hbI HB22 HS22 HC22
  go_wp2_with fail
  refine HE.out.mono ?_
  rintro e w24 ⟨rfl, q24, rfl⟩
  obtain ⟨w25, hw25⟩ : ∃ x, x = w23.drewN q24 := ⟨_, rfl⟩
  have hb25 : Below w23.heap.size w23 w25 := by rw [hw25]; exact bl_drewN (Below.refl _ _) q24
  have HB25 := Lib.hid (bl_trans HB23.out hb25)
  have HC25 := Lib.hid (HC23.out.bl hb25)
  rw [← hw25]
  clear hb25 hw25 HB23 HC23 HE
  have hbI := bl_alloc (Below.refl _ w25) (.cells (fl encI [-1, 0, 1, 2, 1, 2, 0]).toArray 3)
  have HN := Lib.hid (nodes_at 3 [-1, 0, 1, 2, 1, 2, 0] w25.heap.size 7 (w25.alloc (.cells (fl encI [-1, 0, 1, 2, 1, 2, 0]).toArray 3)) (by omega) rfl (by omega) (by omega) (Blk.new _ _ _))
  go_wp2_with fail
  refine HN.out.mono ?_
  rintro e w26 ⟨g26, c26, rfl, ho26, hc26, hc26', hb26⟩
  have hb26 := bl_trans hbI hb26
  have HE := Lib.hid (same_same (some ⟨b13, o13, none⟩) (some ⟨g26, 0, none⟩) 7 7 c13 c26 _ w26 rfl rfl (by omega) (by omega) (HC25.out.bl hb26) (rd_of_owns ho26))
  have HB26 := Lib.hid (bl_trans HB25.out hb26)
  clear HN ho26 hb26 hbI HB25 HC25
  go_wp2_with fail
  refine HE.out.mono ?_
  rintro e w27 ⟨rfl, q27, rfl⟩
  have HB27 := Lib.hid (bl_drewN HB26.out q27)
  clear HE HB26
  go_wp2_with fail
  go_ret
  exact ⟨rfl, HB27.out⟩
end Go.Proofs.YtjmnakkkimgifaaDoor
namespace Go.Proofs.YtjmnakkkimgifaaDoor
open Go Go.RowKit Go.Shelf
/-- The name of a grown node. -/
def gNm (i s : Nat) : ByteArray := ⟨#[UInt8.ofNat (97 + i), UInt8.ofNat (48 + s)]⟩
/-- One more pair of leaves. -/
def gStep (t : List Nd) (lv : List Nat) (i x : Nat) : List Nd × List Nat :=
  (t ++ [(((vA lv (x % lv.length) : Nat) : Int), gNm i 0), (((vA lv (x % lv.length) : Nat) : Int), gNm i 1)], (lv.take (x % lv.length) ++ lv.drop (x % lv.length + 1)) ++ [t.length, t.length + 1])
def gRun (l : List Nat) : Nat → List Nd × List Nat
  | 0 => ([(-1, ⟨#[114]⟩)], [0])
  | i + 1 => gStep (gRun l i).1 (gRun l i).2 i (vA l i)
theorem snoc2_at {t : List Nd} {a b : Nd} {u : Nat} : (t ++ [a, b]).getD u (0, ByteArray.empty) = if u < t.length then t.getD u (0, ByteArray.empty) else if u = t.length then a else if u = t.length + 1 then b else (0, ByteArray.empty) := by
  simp only [List.getD_eq_getElem?_getD]
  by_cases h : u < t.length
  · rw [if_pos h, List.getElem?_append_left h]
  · rw [if_neg h, List.getElem?_append_right (by omega)]
    by_cases e1 : u = t.length
    · subst e1; rw [if_pos rfl, Nat.sub_self]; rfl
    · rw [if_neg e1]
      by_cases e2 : u = t.length + 1
      · subst e2; rw [if_pos rfl, Nat.add_sub_cancel_left]; rfl
      · rw [if_neg e2, List.getElem?_eq_none (by simp; omega)]; rfl
/-- What holds of a tree on the way. -/
structure Gr (t : List Nd) (lv : List Nat) (m : Nat) : Prop where
  len : t.length = 2 * m + 1
  lvl : lv.length = m + 1
  root : nP t 0 = -1
  par : ∀ v, 0 < v → v < 2 * m + 1 → 0 ≤ nP t v ∧ nP t v < v
  leaf : ∀ u, u ∈ lv ↔ u < 2 * m + 1 ∧ famL t (2 * m + 1) u = []
  nd : lv.Nodup
  bin : BinT t (2 * m + 1)
  nm0 : nS t 0 = ⟨#[114]⟩
  nm : ∀ i s, i < m → s < 2 → nS t (2 * i + 1 + s) = gNm i s
theorem gr_zero (l : List Nat) : Gr (gRun l 0).1 (gRun l 0).2 0 := by
  refine ⟨rfl, rfl, rfl, fun v h1 h2 => by omega, fun u => ?_, by simp [gRun], fun v hv => ?_, rfl, fun i s h => by omega⟩
  · show u ∈ [0] ↔ _
    rw [List.mem_singleton]
    constructor
    · rintro rfl; exact ⟨by omega, rfl⟩
    · rintro ⟨h, _⟩; omega
  · obtain rfl : v = 0 := by omega
    left; rfl
theorem gr_step {t : List Nd} {lv : List Nat} {m : Nat} (h : Gr t lv m) (x : Nat) : Gr (gStep t lv m x).1 (gStep t lv m x).2 (m + 1) := by
  have hlen := h.len
  have hlvl := h.lvl
  have hk : x % lv.length < lv.length := Nat.mod_lt _ (by omega)
  obtain ⟨k, hke⟩ : ∃ k, k = x % lv.length := ⟨_, rfl⟩
  unfold gStep
  rw [← hke] at hk ⊢
  obtain ⟨v, hv⟩ : ∃ v, v = vA lv k := ⟨_, rfl⟩
  have hvm : v ∈ lv := by rw [hv, vA_get hk]; exact List.getElem_mem hk
  obtain ⟨hvn, hvf⟩ := (h.leaf v).1 hvm
  rw [← hv]
  obtain ⟨T, hT⟩ : ∃ T, T = t ++ [((v : Int), gNm m 0), ((v : Int), gNm m 1)] := ⟨_, rfl⟩
  have at_ : ∀ u, T.getD u (0, ByteArray.empty) = if u < 2 * m + 1 then t.getD u (0, ByteArray.empty) else if u = 2 * m + 1 then ((v : Int), gNm m 0) else if u = 2 * m + 2 then ((v : Int), gNm m 1) else (0, ByteArray.empty) := fun u => by
    rw [hT, snoc2_at, hlen]
  have hp : ∀ u, nP T u = if u < 2 * m + 1 then nP t u else if u = 2 * m + 1 then (v : Int) else if u = 2 * m + 2 then (v : Int) else 0 := fun u => by
    unfold nP; rw [at_]; split
    · rfl
    · split
      · rfl
      · split <;> rfl
  have hs : ∀ u, nS T u = if u < 2 * m + 1 then nS t u else if u = 2 * m + 1 then gNm m 0 else if u = 2 * m + 2 then gNm m 1 else ByteArray.empty := fun u => by
    unfold nS; rw [at_]; split
    · rfl
    · split
      · rfl
      · split <;> rfl
  have fam : ∀ u, famL T (2 * m + 3) u = famL t (2 * m + 1) u ++ if u = v then [2 * m + 1, 2 * m + 2] else [] := fun u => by
    have e1 : famL T (2 * m + 1) u = famL t (2 * m + 1) u := by
      unfold famL
      refine List.filter_congr fun w hw => ?_
      have := List.mem_range.1 hw
      unfold kidB
      rw [hp, if_pos this]
    show famL T (2 * m + 1 + 1 + 1) u = _
    rw [famL_snoc, famL_snoc, e1]
    have k1 : kidB T u (2 * m + 1) = decide (u = v) := by
      unfold kidB
      rw [hp, if_neg (by omega), if_pos rfl, decide_eq_true (by omega), Bool.true_and]
      by_cases e : u = v
      · rw [decide_eq_true e, decide_eq_true (by omega)]
      · rw [decide_eq_false e, decide_eq_false (by omega)]
    have k2 : kidB T u (2 * m + 1 + 1) = decide (u = v) := by
      unfold kidB
      rw [hp, if_neg (by omega), if_neg (by omega), if_pos rfl, decide_eq_true (by omega), Bool.true_and]
      by_cases e : u = v
      · rw [decide_eq_true e, decide_eq_true (by omega)]
      · rw [decide_eq_false e, decide_eq_false (by omega)]
    rw [k1, k2]
    by_cases e : u = v
    · rw [decide_eq_true e, if_pos e, if_pos rfl, if_pos rfl]; simp
    · rw [decide_eq_false e, if_neg e]; simp
  rw [← hT]
  have e3 : 2 * (m + 1) + 1 = 2 * m + 3 := by omega
  have hTl : T.length = 2 * (m + 1) + 1 := by rw [hT, List.length_append, hlen]; rfl
  have fnew : ∀ u, 2 * m + 1 ≤ u → famL t (2 * m + 1) u = [] := fun u hu => fam_none fun w hw => by
    obtain ⟨w1, w2, w3⟩ := fam_mem.1 hw
    have := (h.par w w2 w1).2
    omega
  have hmem : ∀ u, u ∈ lv.take k ++ lv.drop (k + 1) ↔ u ∈ lv ∧ u ≠ v := fun u => by
    have hsplit : lv = lv.take k ++ v :: lv.drop (k + 1) := by
      conv => lhs; rw [← List.take_append_drop k lv]
      congr 1
      rw [List.drop_eq_getElem_cons hk, ← vA_get hk, ← hv]
    have hnd := h.nd
    rw [hsplit] at hnd
    obtain ⟨n1, n2, n3⟩ := List.nodup_append.1 hnd
    obtain ⟨n4, n5⟩ := List.nodup_cons.1 n2
    constructor
    · intro hm
      rcases List.mem_append.1 hm with hm | hm
      · refine ⟨by rw [hsplit]; exact List.mem_append_left _ hm, fun e => ?_⟩
        exact n3 u hm v List.mem_cons_self e
      · refine ⟨by rw [hsplit]; exact List.mem_append_right _ (List.mem_cons_of_mem _ hm), fun e => ?_⟩
        rw [e] at hm; exact n4 hm
    · rintro ⟨hm, hne⟩
      rw [hsplit] at hm
      rcases List.mem_append.1 hm with hm | hm
      · exact List.mem_append_left _ hm
      · rcases List.mem_cons.1 hm with e | hm
        · exact absurd e hne
        · exact List.mem_append_right _ hm
  refine ⟨hTl, ?_, ?_, ?_, ?_, ?_, ?_, ?_, ?_⟩
  · simp only [List.length_append, List.length_take, List.length_drop, List.length_cons, List.length_nil]; omega
  · rw [hp, if_pos (by omega)]; exact h.root
  · intro u h0 hu
    rw [hp]
    by_cases q : u < 2 * m + 1
    · rw [if_pos q]; exact h.par u h0 q
    · rw [if_neg q]
      by_cases q1 : u = 2 * m + 1
      · rw [if_pos q1]; omega
      · rw [if_neg q1, if_pos (by omega)]; omega
  · intro u
    rw [e3, fam, List.mem_append, hmem, h.leaf, hlen]
    simp only [List.mem_cons, List.not_mem_nil, or_false]
    constructor
    · rintro (⟨⟨h1, h2⟩, h3⟩ | e | e)
      · exact ⟨by omega, by rw [h2, if_neg h3]; rfl⟩
      · subst e; exact ⟨by omega, by rw [fnew _ (by omega), if_neg (by omega)]; rfl⟩
      · subst e; exact ⟨by omega, by rw [fnew _ (by omega), if_neg (by omega)]; rfl⟩
    · rintro ⟨h1, h2⟩
      by_cases e : u = v
      · rw [if_pos e] at h2; simp at h2
      · rw [if_neg e, List.append_nil] at h2
        by_cases q : u < 2 * m + 1
        · exact .inl ⟨⟨q, h2⟩, e⟩
        · right; omega
  · have hn2 : (lv.take k ++ lv.drop (k + 1)).Nodup := by
      rw [← List.eraseIdx_eq_take_drop_succ]
      exact List.Sublist.nodup (List.eraseIdx_sublist _ _) h.nd
    rw [hlen]
    refine List.nodup_append.2 ⟨hn2, by simp, fun u hu w hw e => ?_⟩
    have h1 := ((h.leaf u).1 ((hmem u).1 hu).1).1
    simp only [List.mem_cons, List.not_mem_nil, or_false] at hw
    omega
  · intro u hu
    rw [e3, fam]
    by_cases e : u = v
    · subst e; rw [hvf, if_pos rfl]; right; rfl
    · rw [if_neg e, List.append_nil]
      by_cases q : u < 2 * m + 1
      · exact h.bin u q
      · rw [fnew u (by omega)]; left; rfl
  · rw [hs, if_pos (by omega)]; exact h.nm0
  · intro i s hi hs2
    rw [hs]
    by_cases e : i = m
    · subst e
      rw [if_neg (by omega)]
      rcases (show s = 0 ∨ s = 1 by omega) with e | e <;> subst e
      · rw [if_pos rfl]
      · rw [if_neg (by omega), if_pos rfl]
    · rw [if_pos (by omega)]; exact h.nm i s (by omega) hs2
theorem gr_run (l : List Nat) : ∀ m, Gr (gRun l m).1 (gRun l m).2 m := by
  intro m
  induction m with
  | zero => exact gr_zero l
  | succ m ih => exact gr_step ih (vA l m)
theorem gNm_L (i s : Nat) : (gNm i s).data.toList = [UInt8.ofNat (97 + i), UInt8.ofNat (48 + s)] := rfl
/-- A grown tree is a tree. -/
theorem Gr.tree {t : List Nd} {lv : List Nat} {m : Nat} (h : Gr t lv m) (hm : m ≤ 9) : TreeOk t := by
  have hlen := h.len
  have nmof : ∀ v, 0 < v → v < 2 * m + 1 → nS t v = gNm ((v - 1) / 2) ((v - 1) % 2) := fun v h0 hv => by
    have := h.nm ((v - 1) / 2) ((v - 1) % 2) (by omega) (by omega)
    rwa [show 2 * ((v - 1) / 2) + 1 + (v - 1) % 2 = v by omega] at this
  refine ⟨by omega, by omega, fun v hv => ?_⟩
  rw [hlen] at hv
  refine ⟨?_, ?_, ?_, ?_⟩
  · by_cases e : v = 0
    · subst e; rw [h.root]; decide
    · exact (h.par v (by omega) hv).2
  · by_cases e : v = 0
    · subst e; rw [h.root]; decide
    · rw [if_neg e]; exact (h.par v (by omega) hv).1
  · by_cases e : v = 0
    · subst e; rw [h.nm0]; decide
    · rw [nmof v (by omega) hv]
      refine nmB_of ?_ (by rw [gNm_L]; simp) (by rw [gNm_L]; simp)
      rw [gNm_L]
      intro c hc
      have key : ∀ d, (97 ≤ d ∧ d ≤ 106) ∨ (48 ≤ d ∧ d ≤ 49) → ltrI ((UInt8.ofNat d).toNat : Nat) = true := fun d hd => by
        rw [UInt8.toNat_ofNat']
        unfold ltrI
        rw [decide_eq_true]
        omega
      simp only [List.mem_cons, List.not_mem_nil, or_false] at hc
      rcases hc with rfl | rfl
      · exact key _ (by omega)
      · exact key _ (by omega)
  · unfold seenB
    rw [List.any_eq_false]
    intro u hu
    have hu := List.mem_range.1 hu
    rw [decide_eq_true_eq]
    intro e
    by_cases e0 : u = 0
    · subst e0
      rw [h.nm0, nmof v (by omega) hv] at e
      have := congrArg (fun s => s.data.toList.length) e
      simp [gNm] at this
    · rw [nmof u (by omega) (by omega), nmof v (by omega) hv] at e
      have h2 := congrArg (fun s => s.data.toList) e
      simp only [gNm_L] at h2
      have h3 := u8_inj (by omega) (by omega) (List.cons.inj h2).1
      have h4 := u8_inj (by omega) (by omega) (List.cons.inj (List.cons.inj h2).2).1
      omega
/-- It has one leaf more than there were steps. -/
theorem Gr.lvs {t : List Nd} {lv : List Nat} {m : Nat} (h : Gr t lv m) (hm : m ≤ 9) : (lvT t).length = m + 1 := by
  rw [tok_lv h.len (h.tree hm), ← h.lvl]
  have hp : (lvsL t (2 * m + 1)).Perm lv := by
    refine (List.perm_ext_iff_of_nodup (List.Pairwise.filter _ List.nodup_range) h.nd).2 fun u => ?_
    rw [h.leaf]
    rw [List.mem_filter, List.mem_range]
    unfold leafB
    rw [h.len, List.isEmpty_iff]
  exact hp.length_eq
end Go.Proofs.YtjmnakkkimgifaaDoor
namespace Go.Proofs.YtjmnakkkimgifaaDoor
open Go Go.RowKit Go.Shelf
theorem rd_takeI {w : World} {a : Option Addr} {l : List Int} (h : Rd w a (fl encI l)) (k : Nat) : Rd w a (fl encI (l.take k)) := by
  intro h0
  rw [fl_length encI_len] at h0
  have h1 : 0 < l.length := by rw [List.length_take] at h0; omega
  obtain ⟨b, o, e, hb, hc⟩ := rdI h h1
  refine ⟨b, o, e, hb, fun i hi => ?_⟩
  rw [fl_length encI_len, List.length_take] at hi
  rw [hc i (by omega)]
  have h2 := fl_getElem? encI_len (l.take k) i 0 (by omega)
  rw [Nat.mul_one, Nat.add_zero] at h2
  rw [List.getD_eq_getElem?_getD, h2, List.getElem?_take, if_pos (by omega), List.getElem?_eq_getElem (l := l) (show i < l.length by omega)]
  unfold iA
  rw [List.getD_eq_getElem?_getD, List.getElem?_eq_getElem (show i < l.length by omega)]
  rfl
theorem slice_fromI {w0 : World} {g : Nat} (q cb k : Nat) (out : List Int) (hk : k ≤ q) (hcap : q ≤ cb) (_hR : Rd w0 (some ⟨g, 0, none⟩) (fl encI out)) (hq : q = out.length) :
    ∃ A', (if cb = k then some (⟨g, 0, none⟩ : Addr) else some ⟨g, k, none⟩) = A' ∧ (∀ W, Rd W (some ⟨g, 0, none⟩) (fl encI out) → Rd W A' (fl encI (out.drop k))) ∧ (A' = none → q - k = 0) := by
  have hl1 : (k : Int) ≤ (q : Int) := by omega
  refine ⟨_, rfl, fun W hR => ?_, ?_⟩
  · intro h0
    have h1 : 0 < (out.drop k).length := by rw [fl_length encI_len] at h0; omega
    rw [List.length_drop] at h1
    rw [if_neg (by omega)]
    obtain ⟨b, o, e, hb, hc⟩ := rdI hR (by omega)
    cases e
    refine ⟨g, k, rfl, hb, fun i hi => ?_⟩
    rw [fl_length encI_len, List.length_drop] at hi
    have := hc (k + i) (by omega)
    rw [Nat.zero_add] at this
    rw [this]
    have h2 := fl_getElem? encI_len (out.drop k) i 0 (by omega)
    rw [Nat.mul_one, Nat.add_zero] at h2
    rw [List.getD_eq_getElem?_getD, h2, List.getElem?_drop, List.getElem?_eq_getElem (l := out) (show k + i < out.length by omega)]
    unfold iA
    rw [List.getD_eq_getElem?_getD, List.getElem?_eq_getElem (show k + i < out.length by omega)]
    rfl
  · intro h
    split at h <;> cases h
theorem encI_one : ∀ x : Int, ∀ u ∈ encI x, u.oneCell' = true := by
  intro x u hu
  simp [encI] at hu
  subst hu; rfl
def enc8 (x : Nat) : List Value := [.int .u8 x]
theorem enc8_len (x : Nat) : (enc8 x).length = 1 := rfl
theorem rd8 {l : List Nat} {w : World} {a : Option Addr} (h : Rd w a (fl enc8 l)) (h0 : 0 < l.length) : ∃ b off, a = some ⟨b, off, none⟩ ∧ b < w.heap.size ∧ ∀ i, i < l.length → w.cell? ⟨b, off + i, none⟩ = some (.int .u8 (vA l i)) := by
  obtain ⟨b, off, e, hb, hc⟩ := rd_elem enc8_len h (by omega) h0
  refine ⟨b, off, e, hb, fun i hi => ?_⟩
  have := hc i hi 0 (by omega); simpa [enc8, vA, hi, ← Nat.add_assoc] using this
/-- A step, and s of its two nodes laid. -/
def gT (t : List Nd) (p i : Nat) (s : Nat) : List Nd := t ++ (([0, 1].take s).map fun s => ((p : Int), gNm i s))
def gL (lv : List Nat) (k n s : Nat) : List Nat := (lv.take k ++ lv.drop (k + 1)) ++ (([0, 1].take s).map fun s => n + s)
theorem gT_snoc (t : List Nd) (p i s : Nat) (hs : s < 2) : gT t p i (s + 1) = gT t p i s ++ [((p : Int), gNm i s)] := by
  unfold gT
  match s, hs with
  | 0, _ => simp
  | 1, _ => simp
theorem gL_snoc (lv : List Nat) (k n s : Nat) (hs : s < 2) : gL lv k n (s + 1) = gL lv k n s ++ [n + s] := by
  unfold gL
  match s, hs with
  | 0, _ => simp
  | 1, _ => simp
theorem gT_len (t : List Nd) (p i s : Nat) (hs : s ≤ 2) : (gT t p i s).length = t.length + s := by
  unfold gT
  match s, hs with
  | 0, _ => simp
  | 1, _ => simp
  | 2, _ => simp
theorem gStep_eq (t : List Nd) (lv : List Nat) (i x : Nat) : gStep t lv i x = (gT t (vA lv (x % lv.length)) i 2, gL lv (x % lv.length) t.length 2) := by
  unfold gStep gT gL; rfl
set_option maxRecDepth 100000 in
set_option maxHeartbeats 8000000 in
theorem grownS_any (a : Option Addr) (n c : Nat) (l : List Nat) (w : World) (hl : l.length = n) (hN : n ≤ 1152921504606846976) (hA : Rd w a (fl enc8 l)) (hF : ∀ i, i < n → vA l i < 256) :
    Calls Tryd.prog 17 #[.slice a n c] w fun e w' => ∃ g c', e = .returned (.slice (some ⟨g, 0, none⟩) (2 * min n 9 + 1) c') ∧ w'.ownsRow w.heap.size 41 2 (.slice (some ⟨g, 0, none⟩) (2 * min n 9 + 1) c') (2 * min n 9 + 1) (fl encNd (gRun l (min n 9)).1) ∧ Below w.heap.size w w' := by
  have HL := Lib.hid hl
  have HA := Lib.hid hA
  have HF := Lib.hid hF
  have hb1 := bl_alloc (Below.refl _ w) (.cells #[.int .i64 (-1), .string ⟨#[114]⟩] 41)
  have hb2 := bl_alloc hb1 (.cells #[.int .i64 0] 3)
  have ho0 := owns_made (w := w) (base := w.heap.size) (e := 41) (k := 2) (n := 1) (cs := #[.int .i64 (-1), .string ⟨#[114]⟩]) (Nat.le_refl _) rfl (by decide)
  have ho1 := owns_made (w := w.alloc (.cells #[.int .i64 (-1), .string ⟨#[114]⟩] 41)) (base := w.heap.size) (e := 3) (k := 1) (n := 1) (cs := #[.int .i64 0]) hb1.size rfl (by decide)
  rw [World.size_alloc] at ho1
  have HO0 := Lib.hid (owns_below ho0 (bl_alloc (Below.refl _ (w.alloc (.cells #[.int .i64 (-1), .string ⟨#[114]⟩] 41))) (.cells #[.int .i64 0] 3)))
  have HO1 := Lib.hid ho1
  have HB0 := Lib.hid hb2
  clear hl hA hF hb1 hb2 ho0 ho1
  go_enter Tryd.func17, Tryd.ntmps17
  go_wp2_with fail
  go_loopw [3, 4, 5] (fun v u x wr => ∃ (i g3 c3 g4 c4 : Nat), i ≤ min n 9 ∧ x = .int .i64 i ∧ v = .slice (some ⟨g3, 0, none⟩) (2 * i + 1) c3 ∧ u = .slice (some ⟨g4, 0, none⟩) (i + 1) c4 ∧ g3 ≠ g4 ∧ Hid (wr.ownsRow w.heap.size 41 2 (.slice (some ⟨g3, 0, none⟩) (2 * i + 1) c3) (2 * i + 1) (fl encNd (gRun l i).1)) ∧ Hid (wr.ownsRow w.heap.size 3 1 (.slice (some ⟨g4, 0, none⟩) (i + 1) c4) (i + 1) (fl encI (iN (gRun l i).2))) ∧ Hid (Below w.heap.size w wr)) (fun _ _ x _ => n - (intOf x).toNat)
  case atStart => exact ⟨0, w.heap.size, 1, w.heap.size + 1, 1, by omega, rfl, rfl, rfl, by omega, HO0, HO1, HB0⟩
  case round =>
    clear HO0 HO1 HB0
    obtain ⟨i, g3, c3, g4, c4, hi, rfl, rfl, rfl, hne, hT, hV, hB⟩ := hrel
    by_cases hlt : i < n ∧ i < 9
    · obtain ⟨h1, h2⟩ := hlt
      have hgr := gr_run l i
      obtain ⟨t, ht⟩ : ∃ t, t = (gRun l i).1 := ⟨_, rfl⟩
      obtain ⟨lv, hlv⟩ : ∃ lv, lv = (gRun l i).2 := ⟨_, rfl⟩
      rw [← ht, ← hlv] at hgr
      rw [← ht] at hT
      rw [← hlv] at hV
      have HTL : Hid (t.length = 2 * i + 1) := hgr.len
      have HVL : Hid (lv.length = i + 1) := hgr.lvl
      obtain ⟨ba, oa, rfl, hba, hca⟩ := rd8 (HA.out.bl hB.out) (by rw [HL.out]; omega)
      have G := hca i (by rw [HL.out]; exact h1)
      have hx := HF.out i h1
      obtain ⟨k, hk⟩ : ∃ k, k = vA l i % lv.length := ⟨_, rfl⟩
      have HST : Hid (gRun l (i + 1) = (gT t (vA lv k) i 2, gL lv k t.length 2)) := by
        show gStep (gRun l i).1 (gRun l i).2 i (vA l i) = _
        rw [← ht, ← hlv, gStep_eq, ← hk]
      have hkl : k < i + 1 := by rw [hk, HVL.out]; exact Nat.mod_lt _ (by omega)
      have hkm : ((vA l i : Nat) : Int) % ((i : Int) + 1) = (k : Int) := by
        rw [hk, HVL.out]
        have e : ((i : Int) + 1) = ((i + 1 : Nat) : Int) := by omega
        rw [e]; rfl
      obtain ⟨x, hxe⟩ : ∃ x, x = vA l i := ⟨_, rfl⟩
      rw [← hxe] at G hx hkm
      have hrV := rd_of_owns hV.out
      obtain ⟨b4, o4, e4, _, hc4⟩ := rdI hrV (by rw [iN_len, HVL.out]; omega)
      cases e4
      have G4 := hc4 k (by rw [iN_len, HVL.out]; exact hkl)
      rw [iN_get, Nat.zero_add] at G4
      obtain ⟨p, hp⟩ : ∃ p, p = vA lv k := ⟨_, rfl⟩
      rw [← hp] at G4 HST
      have hcap := own_cap hV.out
      obtain ⟨A', hsl, hRA', hA0'⟩ := slice_fromI (i + 1) c4 (k + 1) (iN lv) (by omega) hcap.1 hrV (by rw [iN_len, HVL.out])
      have hto : ∀ W, Sem.run Tryd.prog (Instr.slice 27 (.slice (some ⟨g4, 0, none⟩) (i + 1) c4) none (some (.int .i64 (k : Int))) none) W = .ok (.slice (some ⟨g4, 0, none⟩) k c4) W := fun W => by
        have q1 : (k : Int) ≤ (c4 : Int) := by have := hcap.1; omega
        simp [go_sem, q1]
      have HRA := Lib.hid hRA'
      have HA0 := Lib.hid hA0'
      have HTO := Lib.hid hto
      have HSL := Lib.hid hsl
      have hki : k ≤ i := by omega
      have hk0 : 0 ≤ (k : Int) + 1 := by omega
      have HRV := Lib.hid (rd_takeI hrV k)
      have hc4m := hcap.2
      unfold maxLen at hc4m
      have hcc := hcap.1
      clear hgr ht hlv hca hk hxe hrV hc4 hp hcap hsl hRA' hA0' hto
      have hw1 : IntKind.i64.wrap ((k : Int) + 1) = ((k + 1 : Nat) : Int) := wrap_nat _ _ (by omega) (by omega)
      have hto := HTO.out
      have hsl := HSL.out
      go_upto_region 8 with fail
      refine wp_region_order (S := fun _ => True) 9 [1, 2, 5, 6, 7, 3, 8] [0, 4] (by kernel_rfl) (by kernel_rfl) trivial ?_
      iterate 7 (refine headT_cons (by rfl) (by rfl) (by intro w hSw; go_simp; try rfl) ?_; simp only [Act.put, List.setIfInBounds_toArray, List.set_cons_zero, List.set_cons_succ])
      refine headT_nil ?_
      obtain ⟨w4, hw4⟩ : ∃ x, x = wr.drew := ⟨_, rfl⟩
      rw [← hw4]
      have hb4 : Below wr.heap.size wr w4 := by rw [hw4]; exact bl_drewN (Below.refl _ wr) 1
      clear hw4
      refine midT_cons (by rfl) (fun K hK => ?_)
      rw [if_pos (by rfl)]
      go_simp
      have hb5 := bl_alloc hb4 (.cells #[] 3)
      have hE5 : (w4.alloc (.cells #[] 3)).ownsRow w.heap.size 3 1 (.slice (some ⟨w4.heap.size, 0, none⟩) 0 0) 0 (fl encI []) := owns_made (k := 1) (cs := #[]) (Nat.le_trans hB.out.size hb4.size) rfl (by unfold maxLen; omega)
      have hz5 : (w4.alloc (.cells #[] 3)).heap.size = w4.heap.size + 1 := by simp
      have hz4 := hb4.size
      obtain ⟨w5, hw5⟩ : ∃ x, x = w4.alloc (.cells #[] 3) := ⟨_, rfl⟩
      obtain ⟨D, hD⟩ : ∃ D, D = w4.heap.size := ⟨_, rfl⟩
      rw [← hw5] at hb5 hE5 hz5 ⊢
      rw [← hD] at hE5 hz5 hz4 ⊢
      have HE5 := Lib.hid hE5
      have HB5 := Lib.hid hb5
      have HZ5 := Lib.hid hz5
      have hgs := hB.out.size
      clear hw5 hD hE5 hb5 hz5 hb4
      refine hK.out _ _ trivial (fun _ => ?_)
      clear hK K
      try simp only [Act.put, List.setIfInBounds_toArray, List.set_cons_zero, List.set_cons_succ]
      refine midT_cons (by rfl) (fun K hK => ?_)
      rw [if_pos (by rfl)]
      refine wp_pushs encI_len (by decide) encI_one Tryd.underlying27 info_I rfl (.tmp 34) (.tmp 37) rfl (.slice (some ⟨D, 0, none⟩) 0 0) ([] : List Int) 0 rfl rfl HE5.out (some ⟨g4, 0, none⟩) k c4 ((iN lv).take k) (by rw [List.length_take, iN_len, HVL.out]; omega) rfl (HRV.out.bl HB5.out) (fun e => by cases e) (by omega) (by decide) (by have := HZ5.out; omega) ?_
      intro v6 w6 h61 h62 h63
      rw [Nat.zero_add, List.nil_append] at h61
      have hb6 : Below wr.heap.size wr w6 := bl_grown HB5.out h62 (fun r e => by have := Option.some.inj (show some D = some r from e); omega)
      have hV6 : ∀ r, v6.ownBlock = some r → D ≤ r := fun r e => by
        rcases h63 with h | h
        · rw [h] at e
          have := Option.some.inj (show some D = some r from e)
          omega
        · rw [h] at e
          have := Option.some.inj e
          have := HZ5.out
          omega
      have HE6 := Lib.hid h61
      have HB6 := Lib.hid hb6
      have HV6 := Lib.hid hV6
      have hz6 := h62.size
      clear h61 h62 h63 hb6 hV6
      refine hK.out _ _ trivial (fun _ => ?_)
      clear hK K
      try simp only [Act.put, List.setIfInBounds_toArray, List.set_cons_zero, List.set_cons_succ]
      refine midT_nil ?_
      simp only [List.drop_succ_cons, List.drop_zero]
      go_wp2_with (at_builtin; refine wpList_pushs rfl encI_len (by decide) encI_one Tryd.underlying27 info_I rfl (.tmp 38) (.tmp 42) rfl v6 ((iN lv).take k) k (by rw [List.length_take, iN_len, HVL.out]; omega) rfl HE6.out A' (i - k) (c4 - (k + 1)) ((iN lv).drop (k + 1)) (by rw [List.length_drop, iN_len, HVL.out]; omega) rfl (HRA.out _ ((rd_of_owns hV.out).bl HB6.out)) (fun e => by have := HA0.out e; omega) (by omega) (by decide) (by have := HB6.out.size; omega) ?_; intro v7 w7 h71 h72 h73; have H71 := Lib.hid h71; have H72 := Lib.hid h72; have H73 := Lib.hid h73; clear h71 h72 h73)
      refine NoPanic.normal ?_
      have hg3 := hT.out.lt g3 rfl
      have HT7 : Hid (w7.ownsRow w.heap.size 41 2 (.slice (some ⟨g3, 0, none⟩) (2 * i + 1) c3) (2 * i + 1) (fl encNd (gT t p i 0))) := by
        show World.ownsRow _ _ _ _ _ _ _
        have e : gT t p i 0 = t := by unfold gT; simp
        rw [e]
        exact (owns_below hT.out HB6.out).kept H72.out (.inr fun e => by have := HV6.out g3 e.symm; omega)
      have HL7 : Hid (w7.ownsRow w.heap.size 3 1 v7 i (fl encI (iN (gL lv k t.length 0)))) := by
        show World.ownsRow _ _ _ _ _ _ _
        have h := H71.out
        have e : (iN lv).take k ++ (iN lv).drop (k + 1) = iN (gL lv k t.length 0) := by unfold gL iN; simp
        rw [e, show k + (i - k) = i by omega] at h
        exact h
      have HB7 : Hid (Below w.heap.size w w7) := bl_grown (bl_trans hB.out HB6.out) H72.out (fun r e => by have := HV6.out r e; omega)
      have HA7 : Hid (v7.ownBlock ≠ some g3) := fun e => by
        rcases H73.out with h | h
        · rw [h] at e; have := HV6.out g3 e; omega
        · rw [h] at e; have := Option.some.inj e; have := HZ5.out; omega
      have h9 : i < 9 := h2
      obtain ⟨st, hst⟩ : ∃ st : Nat → ByteArray, st = fun s => gNm i s := ⟨_, rfl⟩
      have HCV : Hid (∀ s : Nat, s < 2 → ∀ W : World, (convert 32 9 (.slice (some ⟨W.heap.size, 0, none⟩) 2 2)).run Tryd.prog (W.alloc (.cells #[.int .u8 (97 + (i : Int)), .int .u8 (48 + (s : Int))] 5)) = .ok (.string (st s)) (W.alloc (.cells #[.int .u8 (97 + (i : Int)), .int .u8 (48 + (s : Int))] 5))) := fun s hs W => by
        have q1 := run_two W (UInt8.ofNat (97 + i)) (UInt8.ofNat (48 + s))
        have e1 : ((UInt8.ofNat (97 + i)).toNat : Int) = 97 + (i : Int) := by
          rw [UInt8.toNat_ofNat_of_lt' (show 97 + i < 256 by omega)]; omega
        have e2 : ((UInt8.ofNat (48 + s)).toNat : Int) = 48 + (s : Int) := by
          rw [UInt8.toNat_ofNat_of_lt' (show 48 + s < 256 by omega)]; omega
        rw [e1, e2] at q1
        rw [hst]
        exact q1
      have HGN : Hid (∀ s : Nat, s < 2 → gT t p i (s + 1) = gT t p i s ++ [((p : Int), st s)]) := fun s hs => by rw [hst]; exact gT_snoc t p i s hs
      obtain ⟨nt, hnt⟩ : ∃ nt, nt = 2 * i + 1 := ⟨_, rfl⟩
      rw [← hnt] at HT7 ⊢
      have HNT : Hid (t.length = nt) := by show _ = _; rw [HTL.out, hnt]
      have hnt9 : nt ≤ 19 := by omega
      have HNI := Lib.hid hnt
      clear hst hg3 hT hV hB H71 H72 H73 HB6 HV6 HE6 HE5 HB5 HZ5 hz4 hz6 hgs HRV HRA HA0 HTO HSL hto hsl hw1 hkm G G4 hki hk0 hnt hne hba
      go_wp2_with fail
      obtain ⟨wo, rfl⟩ : ∃ x : World, x = w7 := ⟨_, rfl⟩
      go_loopw [3, 4, 44] (fun v u x wr => ∃ (s g3 c3 m q : Nat), s ≤ 2 ∧ x = .int .i64 s ∧ v = .slice (some ⟨g3, 0, none⟩) m c3 ∧ Hid (m = nt + s) ∧ m ≤ 21 ∧ q ≤ 20 ∧ Hid (q = i + s) ∧ Hid (u.ownBlock ≠ some g3) ∧ Hid (wr.ownsRow w.heap.size 41 2 (.slice (some ⟨g3, 0, none⟩) m c3) m (fl encNd (gT t p i s))) ∧ Hid (wr.ownsRow w.heap.size 3 1 u q (fl encI (iN (gL lv k t.length s)))) ∧ Hid (Below w.heap.size w wr)) (fun _ _ x _ => 2 - (intOf x).toNat)
      case atStart => exact ⟨0, g3, c3, nt, i, by omega, rfl, rfl, rfl, by omega, by omega, rfl, HA7, HT7, HL7, HB7⟩
      case round =>
        clear HA7 HT7 HL7 HB7
        obtain ⟨s, g3, c3, m, q, hs, rfl, rfl, hm, hm21, hq20, hq, hap, hT, hV, hB⟩ := hrel
        by_cases hls : s < 2
        · have HCS := Lib.hid (HCV.out s hls)
          have HGS := Lib.hid (HGN.out s hls)
          have HLS : Hid (gL lv k t.length (s + 1) = gL lv k t.length s ++ [m]) := by show _ = _; rw [gL_snoc _ _ _ _ hls, hm.out, HNT.out]
          have HLN : Hid ((gL lv k t.length s).length = q) := by
            show _ = _
            have h := owns_len hV.out
            rw [fl_length encI_len, iN_len] at h; omega
          have HTN : Hid ((gT t p i s).length = m) := by
            show _ = _
            rw [gT_len _ _ _ _ hs, HNT.out, hm.out]
          have hbs := hB.out.size
          obtain ⟨u, hu⟩ : ∃ u, u = u4 := ⟨_, rfl⟩
          rw [← hu] at hV hap ⊢
          clear hu
          go_upto_region 13 with (at_builtin; refine push_I rfl (.tmp 47) (.tmp 50) rfl w.heap.size u (iN (gL lv k t.length s)) q (by rw [iN_len]; exact HLN.out.symm) rfl (hV.out.alloc _) _ _ (m : Int) rfl (Blk.new _ _ _) (by omega) (by rw [World.size_alloc]; omega) ?_; intro g8 cap8 w8 h81 h82 h83 h84; have H81 := Lib.hid h81; have H82 := Lib.hid h82; have H83 := Lib.hid h83; clear h81 h82 h83)
          have hal := bl_alloc (Below.refl _ wr) (.cells #[.int .i64 (m : Int)] 3)
          have hT8 := (owns_below hT.out hal).kept H82.out (.inr fun e => hap.out e.symm)
          have hg3 := (owns_below hT.out hal).lt g3 rfl
          have hg83 : g8 ≠ g3 := fun e => by
            rcases H83.out with h | h
            · exact hap.out (by rw [h, e])
            · omega
          have hB8 : Below w.heap.size w w8 := bl_grown (bl_trans hB.out hal) H82.out (fun r e => (hV.out.lt r e).1)
          have hbx := bl_alloc (Below.refl _ w8) (.cells #[.int .u8 (97 + (i : Int)), .int .u8 (48 + (s : Int))] 5)
          have HT8 := Lib.hid (owns_below hT8 hbx)
          have HV8 := Lib.hid (by have h := H81.out; rw [← iN_snoc, ← HLS.out] at h; exact h)
          have HB8 := Lib.hid (bl_trans hB8 (bl_alloc hbx (.cells #[.int .i64 (p : Int), .string (st s)] 41)))
          have HX8 := Lib.hid hbx
          have hsz8 := hB8.size
          have hcv := HCS.out w8
          obtain ⟨nm, hnm⟩ : ∃ nm, nm = st s := ⟨_, rfl⟩
          rw [← hnm] at hcv HGS HB8
          clear hal hT8 hg3 hB8 hbx H81 H82 H83 hT hV hB HCS HLS hap hnm
          go_wp2_with (at_builtin; refine push_Nd rfl (.tmp 52) (.tmp 63) rfl w.heap.size (.slice (some ⟨g3, 0, none⟩) m c3) (gT t p i s) m HTN.out.symm rfl (HT8.out.alloc _) _ _ ((p : Int), nm) rfl (Blk.new2 _ _ _ _) (by omega) (by simp only [World.size_alloc]; omega) ?_; intro g9 cap9 w9 h91 h92 h93 h94; rw [← HGS.out] at h91; have H91 := Lib.hid h91; have H92 := Lib.hid h92; have H93 := Lib.hid h93; clear h91 h92 h93)
          have hal2 := bl_alloc HX8.out (.cells #[.int .i64 (p : Int), .string nm] 41)
          have hv8 := (HV8.out.lt g8 rfl)
          have HV9 : Hid (w9.ownsRow w.heap.size 3 1 (.slice (some ⟨g8, 0, none⟩) (q + 1) cap8) (q + 1) (fl encI (iN (gL lv k t.length (s + 1))))) := (owns_below HV8.out hal2).kept H92.out (.inr fun e => hg83 (Option.some.inj (show some g8 = some g3 from e)))
          have HB9 : Hid (Below w.heap.size w w9) := bl_grown HB8.out H92.out (fun r e => by have := (HT8.out.lt r e).1; exact this)
          have HA9 : Hid ((Value.slice (some ⟨g8, 0, none⟩) (q + 1) cap8).ownBlock ≠ some g9) := fun e => by
            have e' := Option.some.inj (show some g8 = some g9 from e)
            rcases H93.out with h | h
            · have := Option.some.inj (show some g3 = some g9 from h); omega
            · have := hal2.size
              simp only [World.size_alloc] at h this
              omega
          have HM : Hid (m + 1 = nt + (s + 1)) := by show _ = _; have := hm.out; omega
          have HQ : Hid (q + 1 = i + (s + 1)) := by show _ = _; have := hq.out; omega
          have hm20 : m + 1 ≤ 21 := by have := hm.out; omega
          have hq19 : q + 1 ≤ 20 := by have := hq.out; omega
          clear hal2 hv8 H92 H93 HV8 HT8 HB8 HX8 hcv hm hq
          go_roundw
          case rel => exact ⟨s + 1, g9, cap9, m + 1, q + 1, by omega, by go_num, rfl, HM, hm20, hq19, HQ, HA9, H91, HV9, HB9⟩
          case measure => simp [intOf]; omega
        · obtain rfl : s = 2 := by omega
          obtain ⟨g5, c5, hu, hg5⟩ := hV.out.form (by have := hq.out; omega)
          subst hu
          have hq2 : q = (i + 1) + 1 := by have := hq.out; omega
          have hm2 : m = 2 * (i + 1) + 1 := by have := hm.out; have := HNI.out; omega
          subst hq2 hm2
          have HR1 : Hid (wr.ownsRow w.heap.size 41 2 (.slice (some ⟨g3, 0, none⟩) (2 * (i + 1) + 1) c3) (2 * (i + 1) + 1) (fl encNd (gRun l (i + 1)).1)) := by
            show World.ownsRow _ _ _ _ _ _ _
            rw [HST.out]; exact hT.out
          have HR2 : Hid (wr.ownsRow w.heap.size 3 1 (.slice (some ⟨g5, 0, none⟩) (i + 1 + 1) c5) (i + 1 + 1) (fl encI (iN (gRun l (i + 1)).2))) := by
            show World.ownsRow _ _ _ _ _ _ _
            rw [HST.out]; exact hV.out
          have hgg : g3 ≠ g5 := fun e => hap.out (by rw [e]; rfl)
          clear hT hV hap hm hq
          go_wp2_with fail
          go_roundw
          case rel => exact ⟨i + 1, g3, c3, g5, c5, by omega, by go_num, rfl, rfl, hgg, HR1, HR2, hB⟩
          case measure => simp [intOf]; omega
    · have him : i = min n 9 := by omega
      have hlt2 : i < n → ¬ i < 9 := fun h1 h2 => hlt ⟨h1, h2⟩
      have d1 : decide ((i : Int) < (n : Int)) = decide (i < n) := by rw [decide_eq_decide]; omega
      have HIM := Lib.hid him
      by_cases hin : i < n
      · have d9 : decide ((i : Int) < 9) = false := by simp; omega
        clear him hlt hlt2 d1
        go_wp2_with fail
        go_ret
        refine ⟨g3, c3, ?_, ?_, hB.out⟩
        · rw [← HIM.out]; rfl
        · rw [← HIM.out]; exact hT.out
      · clear him hlt hlt2 d1
        go_wp2_with fail
        go_ret
        refine ⟨g3, c3, ?_, ?_, hB.out⟩
        · rw [← HIM.out]; rfl
        · rw [← HIM.out]; exact hT.out
end Go.Proofs.YtjmnakkkimgifaaDoor
