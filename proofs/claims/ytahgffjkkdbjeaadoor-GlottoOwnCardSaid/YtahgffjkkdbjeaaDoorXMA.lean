/- GlottoOwn: what the rounds that build its tables keep. -/
import Derived.Test.YtahgffjkkdbjeaaDoorZ1
import Derived.Test.YtahgffjkkdbjeaaDoorZE
namespace Go.Proofs.YtahgffjkkdbjeaaDoor
open Go.RowKit
def encA (f : Nat → Int) : List Value := (List.range 24).map fun j => .int .u8 (f j)
theorem encA_len (f : Nat → Int) : (encA f).length = 24 := by simp [encA]
def xA (l : List (Nat → Int)) (i a : Nat) : Int := (l.getD i fun _ => 0) a
theorem rdX {l : List (Nat → Int)} {w : World} {a : Option Addr} (h : Rd w a (fl encA l)) (h0 : 0 < l.length) : ∃ b off, a = some ⟨b, off, none⟩ ∧ b < w.heap.size ∧ ∀ i, i < l.length → ∀ j, j < 24 → w.cell? ⟨b, off + i * 24 + j, none⟩ = some (.int .u8 (xA l i j)) := by
  obtain ⟨b, off, e, hb, hc⟩ := rd_elem encA_len h (by omega) h0
  refine ⟨b, off, e, hb, fun i hi j hj => ?_⟩
  have := hc i hi j hj
  simpa [encA, xA, hi, hj, ← Nat.add_assoc] using this
def bitC (s : Nat → Bool) (i : Nat) : Value := .bool (s i)
def someP (f : Nat → Nat → Int) (i a x : Nat) : Bool := if x < a then someB f (i + 1) x else someB f i x
theorem someB_next (f : Nat → Nat → Int) (i x : Nat) : someB f (i + 1) x = (someB f i x || decide (0 ≤ f i x)) := by simp [someB, List.range_succ]
theorem someP_zero (f : Nat → Nat → Int) (i : Nat) : someP f i 0 = someB f i := by funext x; simp [someP]
theorem bits_made (f : Nat → Nat → Int) (n : Nat) : madeCells #[Value.bool false] n = ofF n (bitC (someB f 0)) := by
  apply Array.ext
  · simp [madeCells, ofF]
  · intro i h1 h2
    simp [madeCells, ofF, bitC, someB, Nat.mod_one]
theorem info4b : (Tryd.prog.info? 4).map (fun i => (i.zero, i.size, i.bytes)) = some (some (.bool false), 1, 1) := by kernel_rfl
theorem someP_all {f : Nat → Nat → Int} {i n : Nat} {w : World} {B : Nat} (h : Blk w B (ofF n (bitC (someP f i n))) 4) : Blk w B (ofF n (bitC (someB f (i + 1)))) 4 := by
  have : ofF n (bitC (someP f i n)) = ofF n (bitC (someB f (i + 1))) := by
    unfold ofF
    congr 1
    funext x
    simp [bitC, someP, x.isLt]
  rw [← this]; exact h
theorem some_set {w : World} {B n i a : Nat} {f : Nat → Nat → Int} {v : Bool} (h : Blk w B (ofF n (bitC (someP f i a))) 4) (hv : v = (someB f i a || decide (0 ≤ f i a))) : Blk (w.setCell ⟨B, a, none⟩ (.bool v)) B (ofF n (bitC (someP f i (a + 1)))) 4 := by
  have h1 := h.setF a (.bool v)
  have e : (fun j => if j = a then Value.bool v else bitC (someP f i a) j) = bitC (someP f i (a + 1)) := by
    funext j
    by_cases hj : j = a
    · subst hj
      rw [if_pos rfl, hv, bitC, someP, if_pos (by omega), someB_next]
    · rw [if_neg hj, bitC, bitC, someP, someP]
      by_cases h2 : j < a
      · rw [if_pos h2, if_pos (by omega)]
      · rw [if_neg h2, if_neg (by omega)]
  rw [← e]; exact h1
def rowF (f : Nat → Int) (n : Nat) : List Int := (List.range n).map f
theorem rowF_next (f : Nat → Int) (n : Nat) : rowF f n ++ [f n] = rowF f (n + 1) := by simp [rowF, List.range_succ]
theorem rowF_len (f : Nat → Int) (n : Nat) : (rowF f n).length = n := by simp [rowF]
/-- A round's two rows, and the bits. -/
structure OwnIn (w0 w : World) (sb n i ab ar an : Nat) (f g : Nat → Nat → Int) (v13 v14 : Value) : Prop where
  bits : Blk w sb (ofF n (bitC (someP f i ab))) 4
  row : w.ownsRow w0.heap.size 3 1 v13 ar (fl encI (rowF (f i) ar))
  nxt : w.ownsRow w0.heap.size 3 1 v14 an (fl encI (rowF (g i) an))
  ne : ∀ b, v13.ownBlock = some b → v14.ownBlock ≠ some b
  but : But sb w0 w
theorem grown_set (w : World) (b i : Nat) (v : Value) : w.grownBy (w.setCell ⟨b, i, none⟩ v) (some b) :=
  ⟨rfl, rfl, rfl, by simp [World.setCell], fun k hk hne => Below.heap_setCell w ⟨b, i, none⟩ v k (fun e => hne (by rw [e]))⟩
section
variable {w0 w w' : World} {sb n i ab ar an : Nat} {f g : Nat → Nat → Int} {v13 v14 : Value}
theorem But.grown {sb : Nat} {a b c : World} {row : Option Nat} (h : But sb a b) (hg : b.grownBy c row) (hr : ∀ k, row = some k → a.heap.size ≤ k) : But sb a c :=
  ⟨hg.os.trans h.os, hg.tape.trans h.tape, hg.output.trans h.output, Nat.le_trans h.size hg.size, fun k hk hs => (hg.block k (Nat.lt_of_lt_of_le hk h.size) (fun e => by have := hr k e.symm; omega)).trans (h.block k hk hs)⟩
theorem OwnIn.alloc (h : OwnIn w0 w sb n i ab ar an f g v13 v14) (o : Obj) : OwnIn w0 (w.alloc o) sb n i ab ar an f g v13 v14 :=
  ⟨h.bits.alloc o, owns_below h.row (bl_alloc (Below.refl _ _) _), owns_below h.nxt (bl_alloc (Below.refl _ _) _), h.ne, h.but.trans (But.of_below (bl_alloc (Below.refl _ _) _))⟩
theorem OwnIn.set (h : OwnIn w0 w sb n i ab ar an f g v13 v14) (hsb : sb < w0.heap.size) {v : Bool} (hv : v = (someB f i ab || decide (0 ≤ f i ab))) : OwnIn w0 (w.setCell ⟨sb, ab, none⟩ (.bool v)) sb n i (ab + 1) ar an f g v13 v14 :=
  ⟨some_set h.bits hv, h.row.kept (grown_set w sb ab _) (.inr fun e => by have := (h.row.lt sb e).1; omega), h.nxt.kept (grown_set w sb ab _) (.inr fun e => by have := (h.nxt.lt sb e).1; omega), h.ne, h.but.set ab _⟩
theorem OwnIn.pushRow (h : OwnIn w0 w sb n i ab ar an f g v13 v14) (hsb : sb < w0.heap.size) {q c : Nat} (h1 : w'.ownsRow w0.heap.size 3 1 (.slice (some ⟨q, 0, none⟩) (ar + 1) c) (ar + 1) (fl encI (rowF (f i) ar ++ [f i ar]))) (h2 : w.grownBy w' v13.ownBlock) (h3 : v13.ownBlock = some q ∨ q = w.heap.size) :
    OwnIn w0 w' sb n i ab (ar + 1) an f g (.slice (some ⟨q, 0, none⟩) (ar + 1) c) v14 := by
  refine ⟨h.bits.grown h2 (fun e => by have := (h.row.lt sb e.symm).1; omega), by rw [← rowF_next]; exact h1, h.nxt.kept h2 ?_, ?_, h.but.grown h2 fun k hk => (h.row.lt k hk).1⟩
  · rcases hn : v13.ownBlock with _ | b
    · rcases hn2 : v14.ownBlock with _ | b2
      · exact .inl rfl
      · exact .inr (by simp)
    · exact .inr (h.ne b hn)
  · intro b hb e
    simp [Value.ownBlock] at hb
    subst hb
    rcases h3 with h3 | h3
    · exact h.ne _ h3 e
    · have := (h.nxt.lt _ e).2; omega
theorem OwnIn.pushNxt (h : OwnIn w0 w sb n i ab ar an f g v13 v14) (hsb : sb < w0.heap.size) {q c : Nat} (h1 : w'.ownsRow w0.heap.size 3 1 (.slice (some ⟨q, 0, none⟩) (an + 1) c) (an + 1) (fl encI (rowF (g i) an ++ [g i an]))) (h2 : w.grownBy w' v14.ownBlock) (h3 : v14.ownBlock = some q ∨ q = w.heap.size) :
    OwnIn w0 w' sb n i ab ar (an + 1) f g v13 (.slice (some ⟨q, 0, none⟩) (an + 1) c) := by
  refine ⟨h.bits.grown h2 (fun e => by have := (h.nxt.lt sb e.symm).1; omega), h.row.kept h2 ?_, by rw [← rowF_next]; exact h1, ?_, h.but.grown h2 fun k hk => (h.nxt.lt k hk).1⟩
  · rcases hn : v13.ownBlock with _ | b
    · exact .inl rfl
    · exact .inr fun e => h.ne b hn e.symm
  · intro b hb e
    simp [Value.ownBlock] at e
    subst e
    rcases h3 with h3 | h3
    · exact h.ne _ hb h3
    · have := (h.row.lt _ hb).2; omega
end
/-- Rows that are done: none lies in a block that may yet change. -/
def GR (w : World) (bad : Nat → Prop) (r : List Rw) (i n : Nat) (f : Nat → Nat → Int) : Prop :=
  r.length = i ∧ ∀ j, j < i → Rd w (rA r j) (fl encI (rowF (f j) n)) ∧ rN r j = n ∧ (0 < n → ∀ b off, rA r j = some ⟨b, off, none⟩ → ¬ bad b)
section
variable {w w' : World} {bad bad' : Nat → Prop} {r : List Rw} {i n : Nat} {f : Nat → Nat → Int}
theorem fl_row (f : Nat → Int) (n : Nat) : (fl encI (rowF f n)).length = n := by rw [encI_fl, rowF_len]
theorem GR.keep (h : GR w bad r i n f) (hs : w.heap.size ≤ w'.heap.size) (hk : ∀ b, b < w.heap.size → ¬ bad b → w'.heap[b]? = w.heap[b]?) : GR w' bad r i n f := by
  refine ⟨h.1, fun j hj => ?_⟩
  obtain ⟨h1, h2, h3⟩ := h.2 j hj
  refine ⟨fun h0 => ?_, h2, h3⟩
  obtain ⟨b, off, e, hb, hc⟩ := h1 h0
  exact ⟨b, off, e, Nat.lt_of_lt_of_le hb hs, fun x hx => (World.cell?_of_block (hk b hb (h3 (by rw [fl_row] at h0; exact h0) b off e))).trans (hc x hx)⟩
theorem GR.mono (h : GR w bad r i n f) (hb : ∀ b, b < w.heap.size → bad' b → bad b) : GR w bad' r i n f := by
  refine ⟨h.1, fun j hj => ?_⟩
  obtain ⟨h1, h2, h3⟩ := h.2 j hj
  refine ⟨h1, h2, fun h0 b off e hbad => ?_⟩
  obtain ⟨b', off', e', hb', _⟩ := h1 (by rw [fl_row]; exact h0)
  rw [e] at e'
  simp at e'
  obtain ⟨rfl, rfl⟩ := e'
  exact h3 h0 b off e (hb b hb' hbad)
theorem GR.snoc (h : GR w bad r i n f) {a : Option Addr} {c : Nat} (h1 : Rd w a (fl encI (rowF (f i) n))) (h2 : 0 < n → ∀ b off, a = some ⟨b, off, none⟩ → ¬ bad b) : GR w bad (r ++ [(a, n, c)]) (i + 1) n f := by
  refine ⟨by simp [h.1], fun j hj => ?_⟩
  by_cases e : j < i
  · have ea : rA (r ++ [(a, n, c)]) j = rA r j := by simp [rA, List.getD_eq_getElem?_getD, List.getElem?_append_left (show j < r.length by rw [h.1]; exact e)]
    have en : rN (r ++ [(a, n, c)]) j = rN r j := by simp [rN, List.getD_eq_getElem?_getD, List.getElem?_append_left (show j < r.length by rw [h.1]; exact e)]
    rw [ea, en]
    exact h.2 j e
  · obtain rfl : j = i := by omega
    have ea : rA (r ++ [(a, n, c)]) j = a := by simp [rA, List.getD_eq_getElem?_getD, ← h.1]
    have en : rN (r ++ [(a, n, c)]) j = n := by simp [rN, List.getD_eq_getElem?_getD, ← h.1]
    rw [ea, en]
    exact ⟨h1, rfl, h2⟩
theorem GR.rows {base c : Nat} {a : Option Addr} (h : GR w bad r i n f) (ho : w.ownsRow base 29 1 (.slice a i c) i (fl encR r)) (hn : n ≤ 24) : Rows w a r (otab f i n) := by
  have hl : (otab f i n).length = i := by simp [otab]
  refine ⟨rd_of_owns ho, by rw [h.1, hl], fun j hj => ?_⟩
  rw [hl] at hj
  obtain ⟨h1, h2, _⟩ := h.2 j hj
  rw [otab_row f hj]
  exact ⟨h1, by rw [h2]; simp, by omega⟩
end
def badB (sb : Nat) (v8 v9 : Value) (b : Nat) : Prop := b = sb ∨ v8.ownBlock = some b ∨ v9.ownBlock = some b
/-- What is built after i rows. -/
structure OwnOut (base : Nat) (w : World) (sb n i : Nat) (f g : Nat → Nat → Int) (v8 v9 : Value) (r8 r9 : List Rw) : Prop where
  bits : Blk w sb (ofF n (bitC (someB f i))) 4
  o8 : w.ownsRow base 29 1 v8 i (fl encR r8)
  o9 : w.ownsRow base 29 1 v9 i (fl encR r9)
  g8 : GR w (badB sb v8 v9) r8 i n f
  g9 : GR w (badB sb v8 v9) r9 i n g
  ne : ∀ b, v8.ownBlock = some b → v9.ownBlock ≠ some b
  n8 : v8.ownBlock ≠ some sb
  n9 : v9.ownBlock ≠ some sb
theorem But.grownBy {g : Nat} {a b : World} (h : But g a b) : a.grownBy b (some g) := ⟨h.os, h.tape, h.output, h.size, fun k hk hne => h.block k hk (fun e => hne (by rw [e]))⟩
section
variable {base : Nat} {w w0 w1 w2 w3 : World} {sb n i : Nat} {f g : Nat → Nat → Int} {v8 v9 v13 v14 : Value} {r8 r9 : List Rw}
/-- The outer slices stand behind the inner rounds. -/
theorem OwnOut.inner (h : OwnOut base w sb n i f g v8 v9 r8 r9) (hb : Below w.heap.size w w0) (h2 : But sb w0 w1) : w1.ownsRow base 29 1 v8 i (fl encR r8) ∧ w1.ownsRow base 29 1 v9 i (fl encR r9) :=
  ⟨(owns_below h.o8 hb).kept h2.grownBy (.inr h.n8), (owns_below h.o9 hb).kept h2.grownBy (.inr h.n9)⟩
theorem OwnOut.next (h : OwnOut base w sb n i f g v8 v9 r8 r9) (hb : Below w.heap.size w w0) (h2 : OwnIn w0 w1 sb n i n n n f g v13 v14) {a13 a14 : Option Addr} {c13 c14 : Nat} (e13 : v13 = .slice a13 n c13) (e14 : v14 = .slice a14 n c14) {oA oB : Obj} {q8 c8 q9 c9 : Nat}
    (k1 : w2.ownsRow base 29 1 (.slice (some ⟨q8, 0, none⟩) (i + 1) c8) (i + 1) (fl encR (r8 ++ [(a13, n, c13)]))) (k2 : (w1.alloc oA).grownBy w2 v8.ownBlock) (k3 : v8.ownBlock = some q8 ∨ q8 = (w1.alloc oA).heap.size)
    (m1 : w3.ownsRow base 29 1 (.slice (some ⟨q9, 0, none⟩) (i + 1) c9) (i + 1) (fl encR (r9 ++ [(a14, n, c14)]))) (m2 : (w2.alloc oB).grownBy w3 v9.ownBlock) (m3 : v9.ownBlock = some q9 ∨ q9 = (w2.alloc oB).heap.size) :
    OwnOut base w3 sb n (i + 1) f g (.slice (some ⟨q8, 0, none⟩) (i + 1) c8) (.slice (some ⟨q9, 0, none⟩) (i + 1) c9) (r8 ++ [(a13, n, c13)]) (r9 ++ [(a14, n, c14)]) := by
  have sA : (w1.alloc oA).heap.size = w1.heap.size + 1 := by show (w1.heap.push oA).size = _; simp
  have sB : (w2.alloc oB).heap.size = w2.heap.size + 1 := by show (w2.heap.push oB).size = _; simp
  have s0 := hb.size
  have s1 := h2.but.size
  have s2 := k2.size
  have s3 := m2.size
  have l8 := h.o8.lt
  have l9 := h.o9.lt
  have lsb := h.bits.lt
  have ha : ∀ {x : World} {o : Obj} {b : Nat}, b < x.heap.size → (x.alloc o).heap[b]? = x.heap[b]? := fun {x o b} hlt => Below.heap_alloc x o b hlt
  have hd8 : ∀ b, v8.ownBlock = some b → b < w.heap.size := fun b e => (l8 b e).2
  have hd9 : ∀ b, v9.ownBlock = some b → b < w.heap.size := fun b e => (l9 b e).2
  have blk1 : ∀ b, b < w.heap.size → b ≠ sb → w1.heap[b]? = w.heap[b]? := fun b hlt hne => (h2.but.block b (by omega) hne).trans (hb.block b hlt)
  have blk3 : ∀ b, b < w1.heap.size → v8.ownBlock ≠ some b → v9.ownBlock ≠ some b → w3.heap[b]? = w1.heap[b]? := fun b hlt h8 h9 =>
    (m2.block b (by omega) (fun e => h9 e.symm)).trans ((ha (by omega)).trans ((k2.block b (by omega) (fun e => h8 e.symm)).trans (ha hlt)))
  obtain ⟨bad, hbad⟩ : ∃ bad : Nat → Prop, bad = fun b => badB sb v8 v9 b ∨ b = q8 ∨ b = q9 := ⟨_, rfl⟩
  have hq8 : q8 < w.heap.size ∧ v8.ownBlock = some q8 ∨ w1.heap.size ≤ q8 := by
    rcases k3 with e | e
    · exact .inl ⟨hd8 _ e, e⟩
    · exact .inr (by omega)
  have hq9 : q9 < w.heap.size ∧ v9.ownBlock = some q9 ∨ w1.heap.size ≤ q9 := by
    rcases m3 with e | e
    · exact .inl ⟨hd9 _ e, e⟩
    · exact .inr (by omega)
  have hold : ∀ b, b < w1.heap.size → bad b → badB sb v8 v9 b := fun b hlt hx => by
    rw [hbad] at hx
    rcases hx with hx | rfl | rfl
    · exact hx
    · rcases hq8 with e | e
      · exact .inr (.inl e.2)
      · omega
    · rcases hq9 with e | e
      · exact .inr (.inr e.2)
      · omega
  have hnew : ∀ b, w0.heap.size ≤ b → b < w1.heap.size → ¬ bad b := fun b h1 h3 hx => by
    rcases hold b h3 hx with e | e | e
    · omega
    · have := hd8 b e; omega
    · have := hd9 b e; omega
  have fin : ∀ {r : List Rw} {f' : Nat → Nat → Int} {a : Option Addr} {c : Nat} {v : Value}, GR w (badB sb v8 v9) r i n f' → w1.ownsRow w0.heap.size 3 1 v n (fl encI (rowF (f' i) n)) → v = .slice a n c →
      GR w3 (badB sb (.slice (some ⟨q8, 0, none⟩) (i + 1) c8) (.slice (some ⟨q9, 0, none⟩) (i + 1) c9)) (r ++ [(a, n, c)]) (i + 1) n f' := by
    intro r f' a c v hg ho hv
    subst hv
    have g1 : GR w1 bad r i n f' := (hg.keep (by omega) (fun b hlt hx => blk1 b hlt (fun e => hx (.inl e)))).mono hold
    have g2 : GR w1 bad (r ++ [(a, n, c)]) (i + 1) n f' := g1.snoc (rd_of_owns ho) (fun h0 b off e hx => by
      have := ho.lt b (by rw [e]; rfl)
      exact hnew b this.1 this.2 hx)
    have g3 : GR w3 bad (r ++ [(a, n, c)]) (i + 1) n f' := g2.keep (by omega) (fun b hlt hx => blk3 b hlt (fun e => hx (by rw [hbad]; exact .inl (.inr (.inl e)))) (fun e => hx (by rw [hbad]; exact .inl (.inr (.inr e)))))
    refine g3.mono fun b _ hx => ?_
    rw [hbad]
    rcases hx with hx | hx | hx
    · exact .inl (.inl hx)
    · simp [Value.ownBlock] at hx; exact .inr (.inl hx.symm)
    · simp [Value.ownBlock] at hx; exact .inr (.inr hx.symm)
  have hne89 : q8 ≠ q9 := by
    intro e
    rcases k3 with e3 | e3
    · rcases m3 with e4 | e4
      · exact h.ne q8 e3 (by rw [e]; exact e4)
      · have := hd8 _ e3; omega
    · rcases m3 with e4 | e4
      · have := hd9 _ e4; omega
      · have := (k1.lt q8 rfl).2; omega
  refine ⟨?_, ?_, m1, fin h.g8 h2.row e13, fin h.g9 h2.nxt e14, ?_, ?_, ?_⟩
  · exact (((((someP_all h2.bits).alloc oA).grown k2 (fun e => h.n8 e.symm)).alloc oB).grown m2 (fun e => h.n9 e.symm))
  · refine (owns_below k1 (bl_alloc (Below.refl _ _) oB)).kept m2 (.inr fun e => ?_)
    rcases m3 with e4 | e4
    · rw [e4] at e; simp [Value.ownBlock] at e; exact hne89 e
    · rcases k3 with e3 | e3
      · rw [show Value.ownBlock (.slice (some ⟨q8, 0, none⟩) (i + 1) c8) = v8.ownBlock from e3.symm] at e
        exact h.ne q8 e3 (by rw [← e]; exact e3)
      · have := hd9 q8 e.symm; omega
  · intro b e1 e2
    simp [Value.ownBlock] at e1 e2
    exact hne89 (e1.trans e2.symm)
  · intro e
    simp [Value.ownBlock] at e
    rcases hq8 with h8 | h8
    · exact h.n8 (by rw [← e]; exact h8.2)
    · omega
  · intro e
    simp [Value.ownBlock] at e
    rcases hq9 with h8 | h8
    · exact h.n9 (by rw [← e]; exact h8.2)
    · omega
end
end Go.Proofs.YtahgffjkkdbjeaaDoor
