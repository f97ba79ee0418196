/- General lemmas on memory for the walks: slices that are read as lists of cells, slices of the call's own, worlds that keep what lay below. The kinds of elements: numbers, strings, fractions, merges, nodes: their cells, and how they are read. A region that draws its order: its first n operations read (or call what only draws), what follows is forced: one walk of the text's order serves every order. A region that draws its order: reads come first, then forced operations that keep a condition on the world; the last one may break it. Closed facts: the blocks of distances and of clusters, as they are made. Plain laws, no program: fractions in lowest terms, the common denominator, scaled distances. The greatest common divisor, fractions in lowest terms; slices.ContainsFunc with the closures of glotto. Plain laws: scaled distances are symmetric; what it is to be ultrametric. append of one element to a slice of the call's own, by the kind of element. append of a list's elements to a slice of the call's own; the source may be nil or empty. Plain laws of the stable sort: the order by keys and then by numbers; one insertion; two sorted rows made one. Plain laws of the stable sort's merge: a rotation of two sorted rows. Plain laws: clusters as sizes and a table: one language each, and two made one. Plain laws: an insertion into a sorted row; parts of a row. Plain laws: the pairs of clusters, the nearest of them, the steps of a clustering by sizes and a table. Plain laws: shares of cognate words. Plain laws: which merges are a clustering. Plain laws: clusters as lists of languages against clusters as sizes and a table. Plain laws: what GlottoOwn asks of the shares. Plain: the nodes of a clustering's tree, in preorder. append of one pair of numbers to a slice of the call's own. -/
import Derived.WalkKit
import Derived.WalkSpells
import Derived.WalkLawsBesides
import Derived.Lib.Hide
import Derived.StillTail
import Derived.Deep.Quiet
import Derived.BigQuiet
import Derived.Below
import Derived.Deep.RegionHeld3
import Derived.Test.YtahgffjkkdbjeaaDoorRows
import Derived.Deep.QuietTactic
import Derived.Deep.AppendLies
import Derived.Maps.AppendAt
namespace Go.Proofs.YtahgffjkkdbjeaaDoor
open Go.RowKit

theorem drewN_add (w : World) (m n : Nat) : (w.drewN m).drewN n = w.drewN (m + n) := by simp
theorem drewN_zero (w : World) : w.drewN 0 = w := rfl
theorem drewN_one (w : World) : w.drew = w.drewN 1 := rfl

theorem bl_drewN {B : Nat} {a w : World} (h : Below B a w) (n : Nat) : Below B a (w.drewN n) := ⟨h.os, h.tape, h.output, h.size, h.block⟩
theorem bl_alloc {a w : World} (h : Below a.heap.size a w) (o : Obj) : Below a.heap.size a (w.alloc o) := h.alloc h.size o
theorem bl_set {a w : World} (h : Below a.heap.size a w) (b o : Nat) (s : Option Nat) (v : Value) (hb : a.heap.size ≤ b) : Below a.heap.size a (w.setCell ⟨b, o, s⟩ v) := h.setCell (p := ⟨b, o, s⟩) hb v
theorem bl_trans {a b c : World} (h : Below a.heap.size a b) (k : Below b.heap.size b c) : Below a.heap.size a c := h.trans (k.mono h.size)
theorem bl_of_drewN (w : World) {w' : World} (h : ∃ n, w' = w.drewN n) : Below w.heap.size w w' := by
  obtain ⟨n, rfl⟩ := h
  exact bl_drewN (Below.refl _ _) n

/-- From 'a' cells are read: the list cs. -/
def Rd (w : World) (a : Option Addr) (cs : List Value) : Prop :=
  0 < cs.length → ∃ b off, a = some ⟨b, off, none⟩ ∧ b < w.heap.size ∧ ∀ i, i < cs.length → w.cell? ⟨b, off + i, none⟩ = some (cs.getD i undef)

theorem Rd.nil (w : World) (a : Option Addr) : Rd w a [] := fun h => absurd h (by simp)
theorem Rd.below {w w' : World} {a : Option Addr} {cs : List Value} (h : Rd w a cs) {B : Nat} (hb : Below B w w') (hB : w.heap.size ≤ B) : Rd w' a cs := by
  intro h0
  obtain ⟨b, off, e, hlt, hc⟩ := h h0
  exact ⟨b, off, e, Nat.lt_of_lt_of_le hlt hb.size, fun i hi => (hb.cell (p := ⟨b, off + i, none⟩) (Nat.lt_of_lt_of_le hlt hB)).trans (hc i hi)⟩
theorem Rd.bl {w w' : World} {a : Option Addr} {cs : List Value} (h : Rd w a cs) (hb : Below w.heap.size w w') : Rd w' a cs := h.below hb (Nat.le_refl _)
theorem Rd.drewN {w : World} {a : Option Addr} {cs : List Value} (h : Rd w a cs) (n : Nat) : Rd (w.drewN n) a cs := h

/-- The cells of a list of elements. -/
def fl {α : Type} (enc : α → List Value) (l : List α) : List Value := l.flatMap enc

theorem fl_length {α : Type} {enc : α → List Value} {k : Nat} (hk : ∀ x, (enc x).length = k) (l : List α) : (fl enc l).length = l.length * k := by
  induction l with
  | nil => simp [fl]
  | cons x l ih =>
    have : fl enc (x :: l) = enc x ++ fl enc l := by simp [fl]
    rw [this, List.length_append, hk, ih, List.length_cons, Nat.succ_mul]
    omega

theorem fl_getElem? {α : Type} {enc : α → List Value} {k : Nat} (hk : ∀ x, (enc x).length = k) (l : List α) (i j : Nat) (hj : j < k) :
    (fl enc l)[i * k + j]? = (l[i]?).bind fun x => (enc x)[j]? := by
  induction l generalizing i with
  | nil => simp [fl]
  | cons x l ih =>
    have : fl enc (x :: l) = enc x ++ fl enc l := by simp [fl]
    rw [this]
    cases i with
    | zero =>
      rw [List.getElem?_append_left (by rw [hk]; omega)]
      simp
    | succ i =>
      rw [List.getElem?_append_right (by rw [hk, Nat.succ_mul]; omega), hk, show (i + 1) * k + j - k = i * k + j by rw [Nat.succ_mul]; omega, ih]
      simp

theorem fl_append {α : Type} (enc : α → List Value) (l m : List α) : fl enc (l ++ m) = fl enc l ++ fl enc m := by simp [fl]
theorem fl_snoc {α : Type} (enc : α → List Value) (l : List α) (x : α) : fl enc (l ++ [x]) = fl enc l ++ enc x := by simp [fl]
theorem fl_nil {α : Type} (enc : α → List Value) : fl enc ([] : List α) = [] := rfl

/-- What is read of element i, cell j. -/
theorem rd_elem {α : Type} {enc : α → List Value} {k : Nat} (hk : ∀ x, (enc x).length = k) {l : List α} {w : World} {a : Option Addr} (h : Rd w a (fl enc l)) (hk0 : 0 < k) (h0 : 0 < l.length) :
    ∃ b off, a = some ⟨b, off, none⟩ ∧ b < w.heap.size ∧ ∀ i (hi : i < l.length) j, j < k → w.cell? ⟨b, off + (i * k + j), none⟩ = (enc l[i])[j]? := by
  have hlen := fl_length hk l
  have hpos : 0 < l.length * k := Nat.mul_pos h0 hk0
  obtain ⟨b, off, e, hlt, hc⟩ := h (by omega)
  refine ⟨b, off, e, hlt, fun i hi j hj => ?_⟩
  have hik : i * k + j < l.length * k := by
    have : (i + 1) * k ≤ l.length * k := Nat.mul_le_mul_right _ hi
    rw [Nat.succ_mul] at this
    omega
  rw [hc (i * k + j) (by omega)]
  have := fl_getElem? hk l i j hj
  rw [List.getElem?_eq_getElem hi] at this
  simp only [Option.bind_some] at this
  rw [← this, List.getD_eq_getElem?_getD, List.getElem?_eq_getElem (by omega)]
  simp

/-- An owned slice is read. -/
theorem rd_of_owns {w : World} {base e k : Nat} {a : Option Addr} {n cap : Nat} {cs : List Value} (h : w.ownsRow base e k (.slice a n cap) n cs) : Rd w a cs := by
  intro h0
  rcases h.2 with ⟨hv, hn⟩ | ⟨g, cap', cur, hv, hg, hh, hnc, hcm, hcs, ht⟩
  · have := h.1
    subst hn
    simp at this
    rw [this] at h0
    simp at h0
  · simp only [Value.slice.injEq] at hv
    obtain ⟨rfl, _, rfl⟩ := hv
    refine ⟨g, 0, rfl, (Array.getElem?_eq_some_iff.1 hh).1, fun i hi => ?_⟩
    rw [World.cell?]
    simp only [hh]
    have hlt : i < n * k := by rw [← h.1]; exact hi
    have hsz : i < cur.size := by rw [hcs]; exact Nat.lt_of_lt_of_le hlt (Nat.mul_le_mul_right _ hnc)
    simp only [Option.isSome_none, Bool.false_eq_true, if_false, Nat.zero_add]
    rw [← ht, List.getD_eq_getElem?_getD, List.getElem?_take, if_pos hlt]
    simp [hsz]

theorem owns_slice {w : World} {base e k : Nat} {v : Value} {n : Nat} {cs : List Value} (h : w.ownsRow base e k v n cs) : ∃ a cap, v = .slice a n cap ∧ (n = 0 ∨ ∃ g, base ≤ g ∧ g < w.heap.size ∧ a = some ⟨g, 0, none⟩) := by
  rcases h.2 with ⟨rfl, rfl⟩ | ⟨g, cap', cur, rfl, hg, hh, _⟩
  · exact ⟨none, 0, rfl, .inl rfl⟩
  · exact ⟨some ⟨g, 0, none⟩, cap', rfl, .inr ⟨g, hg, (Array.getElem?_eq_some_iff.1 hh).1, rfl⟩⟩

theorem owns_below {w w' : World} {base e k : Nat} {v : Value} {n : Nat} {cs : List Value} (h : w.ownsRow base e k v n cs) (hb : Below w.heap.size w w') : w'.ownsRow base e k v n cs := by
  refine ⟨h.1, ?_⟩
  rcases h.2 with h2 | ⟨g, cap, cur, hv, hg, hh, r⟩
  · exact .inl h2
  · exact .inr ⟨g, cap, cur, hv, hg, by rw [hb.block g (Array.getElem?_eq_some_iff.1 hh).1]; exact hh, r⟩

theorem owns_mono {w : World} {base base' e k : Nat} {v : Value} {n : Nat} {cs : List Value} (h : w.ownsRow base e k v n cs) (hb : base' ≤ base) : w.ownsRow base' e k v n cs := by
  refine ⟨h.1, ?_⟩
  rcases h.2 with h2 | ⟨g, cap, cur, hv, hg, hh, r⟩
  · exact .inl h2
  · exact .inr ⟨g, cap, cur, hv, Nat.le_trans hb hg, hh, r⟩

/-- A block of cells that is known whole. -/
def Blk (w : World) (B : Nat) (cs : Array Value) (t : TypeId) : Prop := w.heap[B]? = some (.cells cs t (0, 0))

theorem Blk.lt {w : World} {B : Nat} {cs : Array Value} {t : TypeId} (h : Blk w B cs t) : B < w.heap.size := (Array.getElem?_eq_some_iff.1 h).1
theorem Blk.cell {w : World} {B : Nat} {cs : Array Value} {t : TypeId} (h : Blk w B cs t) (i : Nat) : w.cell? ⟨B, i, none⟩ = cs[i]? := by
  unfold Blk at h
  simp [World.cell?, h]
theorem Blk.free {w : World} {B : Nat} {cs : Array Value} {t : TypeId} (h : Blk w B cs t) (i : Nat) : w.frozen? ⟨B, i, none⟩ = false := by
  unfold Blk at h
  simp [World.frozen?, h]
theorem Blk.new (w : World) (cs : Array Value) (t : TypeId) : Blk (w.alloc (.cells cs t)) w.heap.size cs t := heap_alloc_new w _
theorem Blk.alloc {w : World} {B : Nat} {cs : Array Value} {t : TypeId} (h : Blk w B cs t) (o : Obj) : Blk (w.alloc o) B cs t := (Below.heap_alloc w o B h.lt).trans h
theorem Blk.drewN {w : World} {B : Nat} {cs : Array Value} {t : TypeId} (h : Blk w B cs t) (n : Nat) : Blk (w.drewN n) B cs t := h
theorem Blk.below {w w' : World} {B : Nat} {cs : Array Value} {t : TypeId} (h : Blk w B cs t) (hb : Below w.heap.size w w') : Blk w' B cs t := (hb.block B h.lt).trans h
theorem Blk.set {w : World} {B : Nat} {cs : Array Value} {t : TypeId} (h : Blk w B cs t) (i : Nat) (v : Value) : Blk (w.setCell ⟨B, i, none⟩ v) B (cs.setIfInBounds i v) t := by
  unfold Blk at *
  simp [World.setCell, Array.getElem?_modify, h]
theorem Blk.other {w : World} {B B' : Nat} {cs : Array Value} {t : TypeId} (h : Blk w B cs t) (hne : B ≠ B') (i : Nat) (v : Value) : Blk (w.setCell ⟨B', i, none⟩ v) B cs t :=
  (Below.heap_setCell w ⟨B', i, none⟩ v B hne).trans h
theorem Blk.grown {w w' : World} {B : Nat} {cs : Array Value} {t : TypeId} {row : Option Nat} (h : Blk w B cs t) (hg : w.grownBy w' row) (hr : some B ≠ row) : Blk w' B cs t := (hg.block B h.lt hr).trans h

theorem ba_inj {x y : ByteArray} : x.toList = y.toList ↔ x = y := by
  constructor
  · intro h
    rw [ByteArray.toList_eq, ByteArray.toList_eq] at h
    obtain ⟨⟨x⟩⟩ := x
    obtain ⟨⟨y⟩⟩ := y
    simp at h
    rw [h]
  · intro h; rw [h]
theorem ret_b {a b : Bool} (h : a = b) : Ending.returned (.bool a) = .returned (.bool b) := by rw [h]
theorem ret_i {k : IntKind} {a b : Int} (h : a = b) : Ending.returned (.int k a) = .returned (.int k b) := by rw [h]

/-- The first place at which p holds, or -1. -/
def idxF {α : Type} (p : α → Bool) (l : List α) : Int := if l.any p then (l.findIdx p : Int) else -1
def NoneBefore {α : Type} (p : α → Bool) (l : List α) (k : Nat) : Prop := ∀ i (h : i < l.length), i < k → p l[i] = false
theorem NoneBefore.zero {α : Type} (p : α → Bool) (l : List α) : NoneBefore p l 0 := fun _ _ h => absurd h (by omega)
theorem NoneBefore.next {α : Type} {p : α → Bool} {l : List α} {k : Nat} (h : NoneBefore p l k) (hk : k < l.length) (hp : p l[k] = false) : NoneBefore p l (k + 1) := by
  intro i hi hik
  by_cases e : i = k
  · subst e; exact hp
  · exact h i hi (by omega)
theorem NoneBefore.found {α : Type} {p : α → Bool} {l : List α} {k : Nat} (h : NoneBefore p l k) (hk : k < l.length) (hp : p l[k] = true) : idxF p l = k := by
  have ha : l.any p = true := List.any_eq_true.2 ⟨l[k], List.getElem_mem hk, hp⟩
  have he : l.findIdx p = k := (List.findIdx_eq hk).2 ⟨hp, fun j hj => h j (by omega) hj⟩
  rw [idxF, if_pos ha, he]
theorem NoneBefore.any {α : Type} {p : α → Bool} {l : List α} {k : Nat} (h : NoneBefore p l k) (hk : l.length ≤ k) : l.any p = false := by
  rw [List.any_eq_false]
  intro x hx
  obtain ⟨i, hi, rfl⟩ := List.getElem_of_mem hx
  rw [h i hi (by omega)]
  simp
theorem NoneBefore.none {α : Type} {p : α → Bool} {l : List α} {k : Nat} (h : NoneBefore p l k) (hk : l.length ≤ k) : idxF p l = -1 := by
  rw [idxF, if_neg (by rw [h.any hk]; simp)]
theorem idxF_ge {α : Type} (p : α → Bool) (l : List α) : decide (0 ≤ idxF p l) = l.any p := by
  rw [idxF]
  split <;> simp_all

theorem owns_cell {w : World} {base e k g n cap : Nat} {xs : List Value} (h : w.ownsRow base e k (.slice (some ⟨g, 0, none⟩) n cap) n xs) (j : Nat) (hj : j < n * k) : ∃ v, w.cell? ⟨g, j, none⟩ = some v := by
  rw [h.cellAt j hj, List.getElem?_eq_getElem (by rw [h.1]; exact hj)]
  exact ⟨_, rfl⟩

/-- A list that is filled from the front: k elements are done. -/
def done {α β : Type} (f : α → β) (z : β) (l : List α) (k : Nat) : List β := (l.take k).map f ++ List.replicate (l.length - k) z
theorem done_length {α β : Type} (f : α → β) (z : β) (l : List α) (k : Nat) : (done f z l k).length = l.length := by simp [done]; omega
theorem done_zero {α β : Type} (f : α → β) (z : β) (l : List α) : done f z l 0 = List.replicate l.length z := by simp [done]
theorem done_all {α β : Type} (f : α → β) (z : β) (l : List α) (k : Nat) (hk : l.length ≤ k) : done f z l k = l.map f := by
  rw [done, List.take_of_length_le hk, show l.length - k = 0 by omega]
  simp
theorem done_set {α β : Type} (f : α → β) (z : β) (l : List α) (k : Nat) (hk : k < l.length) : (done f z l k).set k (f l[k]) = done f z l (k + 1) := by
  have hl : ((l.take k).map f).length = k := by simp; omega
  rw [done, done, List.set_append_right _ _ (by omega), hl, Nat.sub_self, show l.length - k = (l.length - (k + 1)) + 1 by omega, List.replicate_succ, List.set_cons_zero, List.take_succ_eq_append_getElem hk, List.map_append, List.append_assoc]
  rfl

theorem made_cells {α : Type} (enc : α → List Value) (k : Nat) (hk : ∀ x, (enc x).length = k) (hk0 : 0 < k) (x : α) (n : Nat) : (madeCells (enc x).toArray (n * k)).toList = fl enc (List.replicate n x) := by
  apply List.ext_getElem?
  intro i
  by_cases hi : i < n * k
  · have hq : i / k < n := (Nat.div_lt_iff_lt_mul hk0).2 hi
    have hr : i % k < k := Nat.mod_lt _ hk0
    have e := fl_getElem? hk (List.replicate n x) (i / k) (i % k) hr
    rw [show i / k * k + i % k = i by rw [Nat.mul_comm]; exact Nat.div_add_mod i k] at e
    have hs : (enc x).toArray.size = k := by simp [hk]
    rw [e]
    simp [madeCells, hk, hi, hq, hr]
  · rw [List.getElem?_eq_none (by simp [madeCells]; omega), List.getElem?_eq_none (by rw [fl_length hk]; simp; omega)]

theorem owns_made {w : World} {base e k n : Nat} {cs : Array Value} (hb : base ≤ w.heap.size) (hc : cs.size = n * k) (hn : n ≤ maxLen) : (w.alloc (.cells cs e)).ownsRow base e k (.slice (some ⟨w.heap.size, 0, none⟩) n n) n cs.toList :=
  ⟨by simpa using hc, .inr ⟨w.heap.size, n, cs, rfl, hb, heap_alloc_new w _, Nat.le_refl _, hn, hc, by rw [← hc, ← Array.length_toList]; exact List.take_length⟩⟩

/-- A block of n cells, told by a function. -/
def ofF (n : Nat) (g : Nat → Value) : Array Value := Array.ofFn (n := n) fun i => g i.val
theorem ofF_size (n : Nat) (g : Nat → Value) : (ofF n g).size = n := by simp [ofF]
theorem ofF_get (n : Nat) (g : Nat → Value) (i : Nat) (h : i < n) : (ofF n g)[i]? = some (g i) := by simp [ofF, h]
theorem ofF_set (n : Nat) (g : Nat → Value) (i : Nat) (v : Value) : (ofF n g).setIfInBounds i v = ofF n (fun j => if j = i then v else g j) := by
  apply Array.ext
  · simp [ofF]
  · intro j h1 h2
    simp only [ofF_size] at h2
    rw [Array.getElem_setIfInBounds (by rw [ofF_size]; exact h2)]
    simp only [ofF, Array.getElem_ofFn]
    by_cases e : i = j
    · subst e; simp
    · rw [if_neg e, if_neg (fun h => e h.symm)]
theorem ofF_congr {n : Nat} {g g' : Nat → Value} (h : ∀ i, i < n → g i = g' i) : ofF n g = ofF n g' := by
  unfold ofF
  congr 1
  funext i
  exact h i.val i.isLt
theorem Blk.getF {w : World} {B n : Nat} {g : Nat → Value} {t : TypeId} (h : Blk w B (ofF n g) t) (i : Nat) (hi : i < n) : w.cell? ⟨B, i, none⟩ = some (g i) := (h.cell i).trans (ofF_get n g i hi)
theorem Blk.setF {w : World} {B n : Nat} {g : Nat → Value} {t : TypeId} (h : Blk w B (ofF n g) t) (i : Nat) (v : Value) : Blk (w.setCell ⟨B, i, none⟩ v) B (ofF n fun j => if j = i then v else g j) t := by
  have := h.set i v
  rwa [ofF_set] at this

theorem Blk.new2 (w : World) (o : Obj) (cs : Array Value) (t : TypeId) : Blk ((w.alloc o).alloc (.cells cs t)) (w.heap.size + 1) cs t := by
  have := Blk.new (w.alloc o) cs t
  simpa using this

theorem blk_stored2 {w : World} {B : Nat} {u0 u1 v0 v1 : Value} {t : TypeId} (h : Blk w B #[u0, u1] t) : Blk ((w.setCell ⟨B, 0, none⟩ v0).setCell ⟨B, 1, none⟩ v1) B #[v0, v1] t := by
  have := (h.set 0 v0).set 1 v1
  simpa using this
theorem bl_sets2 {a w : World} (h : Below a.heap.size a w) (v0 v1 : Value) : Below a.heap.size a ((w.setCell ⟨a.heap.size, 0, none⟩ v0).setCell ⟨a.heap.size, 1, none⟩ v1) :=
  bl_set (bl_set h _ _ _ _ (Nat.le_refl _)) _ _ _ _ (Nat.le_refl _)

theorem wrap_nat (x : Int) (m : Nat) (h : x = m) (hm : m ≤ 9223372036854775807) : IntKind.i64.wrap x = (m : Int) := by
  rw [h]; exact IntWalk.i64_in _ ⟨by omega, by omega⟩

end Go.Proofs.YtahgffjkkdbjeaaDoor
namespace Go.Proofs.YtahgffjkkdbjeaaDoor
open Go.RowKit

abbrev Fr := Int × Int
abbrev Mg := (Int × Int) × Fr × Int
abbrev Nd := Int × ByteArray

def iA (l : List Int) (i : Nat) : Int := (l.getD i 0)
def encI (x : Int) : List Value := [.int .i64 x]
theorem encI_len (x : Int) : (encI x).length = 1 := rfl
theorem rdI {l : List Int} {w : World} {a : Option Addr} (h : Rd w a (fl encI l)) (h0 : 0 < l.length) : ∃ b off, a = some ⟨b, off, none⟩ ∧ b < w.heap.size ∧ ∀ i, i < l.length → w.cell? ⟨b, off + i, none⟩ = some (.int .i64 (iA l i)) := by
  obtain ⟨b, off, e, hb, hc⟩ := rd_elem encI_len h (by omega) h0
  refine ⟨b, off, e, hb, fun i hi => ?_⟩
  have := hc i hi 0 (by omega); simpa [encI, iA, hi, ← Nat.add_assoc] using this

def sA (l : List ByteArray) (i : Nat) : ByteArray := (l.getD i ByteArray.empty)
def encS (x : ByteArray) : List Value := [.string x]
theorem encS_len (x : ByteArray) : (encS x).length = 1 := rfl
theorem rdS {l : List ByteArray} {w : World} {a : Option Addr} (h : Rd w a (fl encS l)) (h0 : 0 < l.length) : ∃ b off, a = some ⟨b, off, none⟩ ∧ b < w.heap.size ∧ ∀ i, i < l.length → w.cell? ⟨b, off + i, none⟩ = some (.string (sA l i)) := by
  obtain ⟨b, off, e, hb, hc⟩ := rd_elem encS_len h (by omega) h0
  refine ⟨b, off, e, hb, fun i hi => ?_⟩
  have := hc i hi 0 (by omega); simpa [encS, sA, hi, ← Nat.add_assoc] using this

def fN (l : List Fr) (i : Nat) : Int := (l.getD i (0, 1)).1
def fD (l : List Fr) (i : Nat) : Int := (l.getD i (0, 1)).2
def encFr (x : Fr) : List Value := [.int .i64 x.1, .int .i64 x.2]
theorem encFr_len (x : Fr) : (encFr x).length = 2 := rfl
theorem rdFr {l : List Fr} {w : World} {a : Option Addr} (h : Rd w a (fl encFr l)) (h0 : 0 < l.length) : ∃ b off, a = some ⟨b, off, none⟩ ∧ b < w.heap.size ∧ ∀ i, i < l.length → w.cell? ⟨b, off + i * 2, none⟩ = some (.int .i64 (fN l i)) ∧ w.cell? ⟨b, off + i * 2 + 1, none⟩ = some (.int .i64 (fD l i)) := by
  obtain ⟨b, off, e, hb, hc⟩ := rd_elem encFr_len h (by omega) h0
  refine ⟨b, off, e, hb, fun i hi => ⟨?_, ?_⟩⟩
  · have := hc i hi 0 (by omega); simpa [encFr, fN, hi, ← Nat.add_assoc] using this
  · have := hc i hi 1 (by omega); simpa [encFr, fD, hi, ← Nat.add_assoc] using this

def mA (l : List Mg) (i : Nat) : Int := (l.getD i ((0, 0), (0, 1), 0)).1.1
def mB (l : List Mg) (i : Nat) : Int := (l.getD i ((0, 0), (0, 1), 0)).1.2
def mN (l : List Mg) (i : Nat) : Int := (l.getD i ((0, 0), (0, 1), 0)).2.1.1
def mD (l : List Mg) (i : Nat) : Int := (l.getD i ((0, 0), (0, 1), 0)).2.1.2
def mS (l : List Mg) (i : Nat) : Int := (l.getD i ((0, 0), (0, 1), 0)).2.2
def encMg (x : Mg) : List Value := [.int .i64 x.1.1, .int .i64 x.1.2, .int .i64 x.2.1.1, .int .i64 x.2.1.2, .int .i64 x.2.2]
theorem encMg_len (x : Mg) : (encMg x).length = 5 := rfl
theorem rdMg {l : List Mg} {w : World} {a : Option Addr} (h : Rd w a (fl encMg l)) (h0 : 0 < l.length) : ∃ b off, a = some ⟨b, off, none⟩ ∧ b < w.heap.size ∧ ∀ i, i < l.length → w.cell? ⟨b, off + i * 5, none⟩ = some (.int .i64 (mA l i)) ∧ w.cell? ⟨b, off + i * 5 + 1, none⟩ = some (.int .i64 (mB l i)) ∧ w.cell? ⟨b, off + i * 5 + 2, none⟩ = some (.int .i64 (mN l i)) ∧ w.cell? ⟨b, off + i * 5 + 3, none⟩ = some (.int .i64 (mD l i)) ∧ w.cell? ⟨b, off + i * 5 + 4, none⟩ = some (.int .i64 (mS l i)) := by
  obtain ⟨b, off, e, hb, hc⟩ := rd_elem encMg_len h (by omega) h0
  refine ⟨b, off, e, hb, fun i hi => ⟨?_, ?_, ?_, ?_, ?_⟩⟩
  · have := hc i hi 0 (by omega); simpa [encMg, mA, hi, ← Nat.add_assoc] using this
  · have := hc i hi 1 (by omega); simpa [encMg, mB, hi, ← Nat.add_assoc] using this
  · have := hc i hi 2 (by omega); simpa [encMg, mN, hi, ← Nat.add_assoc] using this
  · have := hc i hi 3 (by omega); simpa [encMg, mD, hi, ← Nat.add_assoc] using this
  · have := hc i hi 4 (by omega); simpa [encMg, mS, hi, ← Nat.add_assoc] using this

def nP (l : List Nd) (i : Nat) : Int := (l.getD i (0, ByteArray.empty)).1
def nS (l : List Nd) (i : Nat) : ByteArray := (l.getD i (0, ByteArray.empty)).2
def encNd (x : Nd) : List Value := [.int .i64 x.1, .string x.2]
theorem encNd_len (x : Nd) : (encNd x).length = 2 := rfl
theorem rdNd {l : List Nd} {w : World} {a : Option Addr} (h : Rd w a (fl encNd l)) (h0 : 0 < l.length) : ∃ b off, a = some ⟨b, off, none⟩ ∧ b < w.heap.size ∧ ∀ i, i < l.length → w.cell? ⟨b, off + i * 2, none⟩ = some (.int .i64 (nP l i)) ∧ w.cell? ⟨b, off + i * 2 + 1, none⟩ = some (.string (nS l i)) := by
  obtain ⟨b, off, e, hb, hc⟩ := rd_elem encNd_len h (by omega) h0
  refine ⟨b, off, e, hb, fun i hi => ⟨?_, ?_⟩⟩
  · have := hc i hi 0 (by omega); simpa [encNd, nP, hi, ← Nat.add_assoc] using this
  · have := hc i hi 1 (by omega); simpa [encNd, nS, hi, ← Nat.add_assoc] using this

/-- A slice's value: address, length, capacity. -/
abbrev Rw := Option Addr × Nat × Nat
def rA (l : List Rw) (i : Nat) : Option Addr := (l.getD i (none, 0, 0)).1
def rN (l : List Rw) (i : Nat) : Nat := (l.getD i (none, 0, 0)).2.1
def rC (l : List Rw) (i : Nat) : Nat := (l.getD i (none, 0, 0)).2.2
def encR (x : Rw) : List Value := [.slice x.1 x.2.1 x.2.2]
theorem encR_len (x : Rw) : (encR x).length = 1 := rfl
theorem rdR {l : List Rw} {w : World} {a : Option Addr} (h : Rd w a (fl encR l)) (h0 : 0 < l.length) : ∃ b off, a = some ⟨b, off, none⟩ ∧ b < w.heap.size ∧ ∀ i, i < l.length → w.cell? ⟨b, off + i, none⟩ = some (.slice (rA l i) (rN l i) (rC l i)) := by
  obtain ⟨b, off, e, hb, hc⟩ := rd_elem encR_len h (by omega) h0
  refine ⟨b, off, e, hb, fun i hi => ?_⟩
  have := hc i hi 0 (by omega); simpa [encR, rA, rN, rC, hi, ← Nat.add_assoc] using this

theorem eqI_step (l1 l2 : List Int) (k : Nat) (h : l1.take k = l2.take k) (h1 : k < l1.length) (h2 : k < l2.length) (e0 : iA l1 k = iA l2 k) : l1.take (k + 1) = l2.take (k + 1) := by
  have he : l1[k] = l2[k] := by
    simp only [iA, List.getD_eq_getElem?_getD, List.getElem?_eq_getElem h1, List.getElem?_eq_getElem h2, Option.getD_some] at e0
    exact e0
  rw [List.take_succ_eq_append_getElem h1, List.take_succ_eq_append_getElem h2, h, he]
theorem neI_iA (l1 l2 : List Int) (k : Nat) (h : iA l1 k ≠ iA l2 k) : l1 ≠ l2 := fun e => h (by rw [e])

theorem eqS_step (l1 l2 : List ByteArray) (k : Nat) (h : l1.take k = l2.take k) (h1 : k < l1.length) (h2 : k < l2.length) (e0 : sA l1 k = sA l2 k) : l1.take (k + 1) = l2.take (k + 1) := by
  have he : l1[k] = l2[k] := by
    simp only [sA, List.getD_eq_getElem?_getD, List.getElem?_eq_getElem h1, List.getElem?_eq_getElem h2, Option.getD_some] at e0
    exact e0
  rw [List.take_succ_eq_append_getElem h1, List.take_succ_eq_append_getElem h2, h, he]
theorem neS_sA (l1 l2 : List ByteArray) (k : Nat) (h : sA l1 k ≠ sA l2 k) : l1 ≠ l2 := fun e => h (by rw [e])

theorem eqFr_step (l1 l2 : List Fr) (k : Nat) (h : l1.take k = l2.take k) (h1 : k < l1.length) (h2 : k < l2.length) (e0 : fN l1 k = fN l2 k) (e1 : fD l1 k = fD l2 k) : l1.take (k + 1) = l2.take (k + 1) := by
  have he : l1[k] = l2[k] := by
    simp only [fN, List.getD_eq_getElem?_getD, List.getElem?_eq_getElem h1, List.getElem?_eq_getElem h2, Option.getD_some] at e0
    simp only [fD, List.getD_eq_getElem?_getD, List.getElem?_eq_getElem h1, List.getElem?_eq_getElem h2, Option.getD_some] at e1
    exact Prod.ext e0 e1
  rw [List.take_succ_eq_append_getElem h1, List.take_succ_eq_append_getElem h2, h, he]
theorem neFr_fN (l1 l2 : List Fr) (k : Nat) (h : fN l1 k ≠ fN l2 k) : l1 ≠ l2 := fun e => h (by rw [e])
theorem neFr_fD (l1 l2 : List Fr) (k : Nat) (h : fD l1 k ≠ fD l2 k) : l1 ≠ l2 := fun e => h (by rw [e])

theorem eqMg_step (l1 l2 : List Mg) (k : Nat) (h : l1.take k = l2.take k) (h1 : k < l1.length) (h2 : k < l2.length) (e0 : mA l1 k = mA l2 k) (e1 : mB l1 k = mB l2 k) (e2 : mN l1 k = mN l2 k) (e3 : mD l1 k = mD l2 k) (e4 : mS l1 k = mS l2 k) : l1.take (k + 1) = l2.take (k + 1) := by
  have he : l1[k] = l2[k] := by
    simp only [mA, List.getD_eq_getElem?_getD, List.getElem?_eq_getElem h1, List.getElem?_eq_getElem h2, Option.getD_some] at e0
    simp only [mB, List.getD_eq_getElem?_getD, List.getElem?_eq_getElem h1, List.getElem?_eq_getElem h2, Option.getD_some] at e1
    simp only [mN, List.getD_eq_getElem?_getD, List.getElem?_eq_getElem h1, List.getElem?_eq_getElem h2, Option.getD_some] at e2
    simp only [mD, List.getD_eq_getElem?_getD, List.getElem?_eq_getElem h1, List.getElem?_eq_getElem h2, Option.getD_some] at e3
    simp only [mS, List.getD_eq_getElem?_getD, List.getElem?_eq_getElem h1, List.getElem?_eq_getElem h2, Option.getD_some] at e4
    exact Prod.ext (Prod.ext e0 e1) (Prod.ext (Prod.ext e2 e3) e4)
  rw [List.take_succ_eq_append_getElem h1, List.take_succ_eq_append_getElem h2, h, he]
theorem neMg_mA (l1 l2 : List Mg) (k : Nat) (h : mA l1 k ≠ mA l2 k) : l1 ≠ l2 := fun e => h (by rw [e])
theorem neMg_mB (l1 l2 : List Mg) (k : Nat) (h : mB l1 k ≠ mB l2 k) : l1 ≠ l2 := fun e => h (by rw [e])
theorem neMg_mN (l1 l2 : List Mg) (k : Nat) (h : mN l1 k ≠ mN l2 k) : l1 ≠ l2 := fun e => h (by rw [e])
theorem neMg_mD (l1 l2 : List Mg) (k : Nat) (h : mD l1 k ≠ mD l2 k) : l1 ≠ l2 := fun e => h (by rw [e])
theorem neMg_mS (l1 l2 : List Mg) (k : Nat) (h : mS l1 k ≠ mS l2 k) : l1 ≠ l2 := fun e => h (by rw [e])

theorem eqNd_step (l1 l2 : List Nd) (k : Nat) (h : l1.take k = l2.take k) (h1 : k < l1.length) (h2 : k < l2.length) (e0 : nP l1 k = nP l2 k) (e1 : nS l1 k = nS l2 k) : l1.take (k + 1) = l2.take (k + 1) := by
  have he : l1[k] = l2[k] := by
    simp only [nP, List.getD_eq_getElem?_getD, List.getElem?_eq_getElem h1, List.getElem?_eq_getElem h2, Option.getD_some] at e0
    simp only [nS, List.getD_eq_getElem?_getD, List.getElem?_eq_getElem h1, List.getElem?_eq_getElem h2, Option.getD_some] at e1
    exact Prod.ext e0 e1
  rw [List.take_succ_eq_append_getElem h1, List.take_succ_eq_append_getElem h2, h, he]
theorem neNd_nP (l1 l2 : List Nd) (k : Nat) (h : nP l1 k ≠ nP l2 k) : l1 ≠ l2 := fun e => h (by rw [e])
theorem neNd_nS (l1 l2 : List Nd) (k : Nat) (h : nS l1 k ≠ nS l2 k) : l1 ≠ l2 := fun e => h (by rw [e])

theorem fl_set1 {α : Type} {f : α → Value} (l : List α) (k : Nat) (x : α) : (fl (fun y => [f y]) l).set k (f x) = fl (fun y => [f y]) (l.set k x) := by
  induction l generalizing k with
  | nil => simp [fl]
  | cons y l ih =>
    have e : ∀ y l, fl (fun y => [f y]) (y :: l) = f y :: fl (fun y => [f y]) l := fun y l => by simp [fl]
    cases k with
    | zero => simp [e]
    | succ k => simp only [List.set_cons_succ, e]; rw [ih]
theorem fl_set2 (l : List Fr) (k : Nat) (x : Fr) : ((fl encFr l).set (k * 2) (.int .i64 x.1)).set (k * 2 + 1) (.int .i64 x.2) = fl encFr (l.set k x) := by
  induction l generalizing k with
  | nil => simp [fl]
  | cons y l ih =>
    have e : ∀ y l, fl encFr (y :: l) = .int .i64 y.1 :: .int .i64 y.2 :: fl encFr l := fun y l => by simp [fl, encFr]
    cases k with
    | zero => simp [e]
    | succ k =>
      rw [e, show (k + 1) * 2 = k * 2 + 1 + 1 by omega]
      simp only [List.set_cons_succ, e]
      rw [ih]
/-- A fraction is stored into a slice of the call's own. -/
theorem owns_setFr {w : World} {base t g n cap : Nat} {l : List Fr} (h : w.ownsRow base t 2 (.slice (some ⟨g, 0, none⟩) n cap) n (fl encFr l)) (k : Nat) (p q : Int) :
    ((w.setCell ⟨g, k * 2, none⟩ (.int .i64 p)).setCell ⟨g, k * 2 + 1, none⟩ (.int .i64 q)).ownsRow base t 2 (.slice (some ⟨g, 0, none⟩) n cap) n (fl encFr (l.set k (p, q))) := by
  have h1 := (h.stored (k * 2) (.int .i64 p)).1
  have h2 := (h1.stored (k * 2 + 1) (.int .i64 q)).1
  rw [← fl_set2]
  exact h2
theorem owns_setI {w : World} {base t g n cap : Nat} {l : List Int} (h : w.ownsRow base t 1 (.slice (some ⟨g, 0, none⟩) n cap) n (fl encI l)) (k : Nat) (p : Int) :
    (w.setCell ⟨g, k, none⟩ (.int .i64 p)).ownsRow base t 1 (.slice (some ⟨g, 0, none⟩) n cap) n (fl encI (l.set k p)) := by
  have h1 := (h.stored k (.int .i64 p)).1
  have e : fl encI (l.set k p) = (fl encI l).set k (.int .i64 p) := (fl_set1 (f := Value.int .i64) l k p).symm
  rw [e]
  exact h1

end Go.Proofs.YtahgffjkkdbjeaaDoor
namespace Go.Proofs.YtahgffjkkdbjeaaDoor
open Go
section
variable {P : Program} {ops : Array Oper} {md : Region.Mode} {C : World → Prop}

/-- Whatever order is picked for the first f operations; then L. -/
def anyLQ (P : Program) (md : Region.Mode) (ops : Array Oper) (C : World → Prop) (n : Nat) (L : Array Bool → Act → Prop) : Nat → Array Bool → Act → Prop
  | 0, listed, a => L listed a
  | f + 1, listed, a => Region.ready md ops listed ≠ [] ∧ ∀ i ∈ Region.ready md ops listed, i < n ∧ qOp P ops C i (anyLQ P md ops C n L f (listed.setIfInBounds i true)) a

theorem any_of_LQ {n g : Nat} {L : Array Bool → Act → Prop} {Q' : Exit → Act → World → Prop} (hL : ∀ listed a w, C w → L listed a → wpAny P md ops Q' g listed a w) :
    ∀ (f : Nat) (listed : Array Bool) (a : Act) (w : World), C w → anyLQ P md ops C n L f listed a → wpAny P md ops Q' (f + g) listed a w
  | 0, listed, a, w, hC, h => by rw [Nat.zero_add]; exact hL _ _ _ hC h
  | f + 1, listed, a, w, hC, h => by
    rw [show f + 1 + g = (f + g) + 1 by omega]
    exact ⟨fun h0 => absurd h0 h.1, fun i hi => wpOp_of_qOp hC (fun a' w' hw' h' => any_of_LQ hL f _ a' w' hw' h') (h.2 i hi).2⟩

theorem anyLQ_first {n i : Nat} {oi : Oper} {v : Value} {L : Array Bool → Act → Prop} (hi : ops[i]? = some oi) (hsel : ∀ (j : Nat) (o : Oper) cs b, ops[j]? = some o → o.op ≠ .select cs b)
    (hs : Region.sinkB md ops n = true) (hc : Region.chainB md ops n = true) (hn : n < ops.size) (hin : i < n)
    (hdone : ∀ listed a, L listed a → ∀ j ∈ Region.ready md ops listed, n ≤ j) :
    ∀ (f : Nat) (listed : Array Bool) (a : Act), HeadInv md ops n listed →
      (∀ j oj, ops[j]? = some oj → j ≠ i → listed.getD j true = false → (∀ e ∈ oj.after, Region.binds md e = true → e.on ≠ i) → oi.apart ops oj = true) →
      i ∈ Region.ready md ops listed → YieldsIn P ops C oi v a →
      anyLQ P md ops C n L f (listed.setIfInBounds i true) (a.put oi.dst v) → anyLQ P md ops C n L (f + 1) listed a := by
  intro f
  induction f with
  | zero =>
    intro listed a inv _ hr hy H
    have hun := (mem_ready.1 hr).1
    refine ⟨fun h => (by rw [h] at hr; cases hr), fun j hj => ?_⟩
    have hjn : j < n := by
      rcases Nat.lt_or_ge j n with h | h
      · exact h
      · exact absurd hj (tail_waits hs hc hn inv _ i rfl hin hun j h)
    refine ⟨hjn, ?_⟩
    by_cases hji : j = i
    · subst hji; exact hy.qOp hi H
    · have := hdone _ _ H j (ready_mono hj hji)
      omega
  | succ f ih =>
    intro listed a inv hfree hr hy H
    have hun := (mem_ready.1 hr).1
    refine ⟨fun h => (by rw [h] at hr; cases hr), fun j hj => ?_⟩
    have hjn : j < n := by
      rcases Nat.lt_or_ge j n with h | h
      · exact h
      · exact absurd hj (tail_waits hs hc hn inv _ i rfl hin hun j h)
    refine ⟨hjn, ?_⟩
    by_cases hji : j = i
    · subst hji; exact hy.qOp hi H
    · have h1 := (H.2 j (ready_mono hj hji)).2
      obtain ⟨hjun, oj, hoj, hall⟩ := mem_ready.1 hj
      have hnot : ∀ e ∈ oj.after, Region.binds md e = true → e.on ≠ i := fun e he hb heq => by
        have h1 := hall e he hb
        rw [heq, getD_both hun] at h1
        cases h1
      have h2 := qOp_put hoj (hfree j oj hoj hji hjun hnot) (fun cs b => hsel i oi cs b hi) (fun cs b => hsel j oj cs b hoj) hy h1
      have hfree' : ∀ k ok, ops[k]? = some ok → k ≠ i → (listed.setIfInBounds j true).getD k true = false →
          (∀ e ∈ ok.after, Region.binds md e = true → e.on ≠ i) → oi.apart ops ok = true := fun k ok hk hki hun hno => by
        refine hfree k ok hk hki ?_ hno
        by_cases hjk : j = k
        · subst hjk; exact hjun
        · rw [getD_set_ne true hjk] at hun; exact hun
      refine qOp_mono (fun a' h3 => ih (listed.setIfInBounds j true) a' (inv.set hj hjn) hfree' (ready_mono hr (Ne.symm hji)) h3.1 ?_) h2
      rw [Array.setIfInBounds_comm _ _ hji]
      exact h3.2

theorem anyLQ_lex {n g : Nat} {Lq : Act → Prop} (hsel : Region.noSelect ops = true) (hs : Region.sinkB md ops n = true) (hc : Region.chainB md ops n = true) (hn : n < ops.size) :
    ∀ (l : List Oper) (k : Nat) (listed : Array Bool) (a : Act), (∀ j, j < l.length → l[j]? = ops[k + j]?) → k + l.length = n → HeadInv md ops n listed →
    Region.lexHead md ops g l.length k listed = true → wpQuiet P ops C Lq l a →
    anyLQ P md ops C n (fun listed' a' => Region.seqB md ops g n listed' = true ∧ Lq a') l.length listed a
  | [], k, listed, a, _, hk, _, hB, h => by
    have : k = n := by simpa using hk
    subst this
    exact ⟨by simpa [Region.lexHead] using hB, h⟩
  | o :: l, k, listed, a, hl, hk, inv, hB, h => by
    have h0 : ops[k]? = some o := by simpa using (hl 0 (by simp)).symm
    simp only [List.length_cons, Region.lexHead, Bool.and_eq_true] at hB
    obtain ⟨⟨hr, hf⟩, hB'⟩ := hB
    have hkn : k < n := by simp only [List.length_cons] at hk; omega
    have hr' : k ∈ Region.ready md ops listed := by simpa using hr
    have hst : qOp P ops C k (wpQuiet P ops C Lq l) a := by unfold qOp; simp only [h0]; exact h
    obtain ⟨v, hy, hK⟩ := yieldsIn_of_qOp h0 hst
    exact anyLQ_first h0 (Region.noSelect_spec hsel) hs hc hn hkn (fun listed' a' hL => seqB_ready hL.1) l.length listed a inv (Region.free_spec h0 hf) hr' hy
      (anyLQ_lex hsel hs hc hn l (k + 1) _ _ (fun j hj => by have := hl (j + 1) (by simp; omega); simpa [Nat.add_assoc, Nat.add_comm 1 j] using this) (by simp only [List.length_cons] at hk; omega) (inv.set hr' hkn) hB' hK)

/-- ONE WALK OF THE TEXT's ORDER: the head quiet in the class C, then the forced tail from any world of the class. -/
theorem wp_quiet_tail {id : Nat} {Q : Exit → Act → World → Prop} {a : Act} {w : World} {l : List Oper} (n : Nat) (hm : P.follows .mixedOrders = true) (hB : Region.lexTailB .any l.toArray n = true) (hC : C { w with drawn := w.drawn + 1 })
    (h : wpQuiet P l.toArray C (fun a' => ∀ w', C w' → wpList P l.toArray Q (l.drop n) a' w') (l.take n) a) : (Code.region id l.toArray true).wp P Q a w := by
  simp only [Region.lexTailB, Bool.and_eq_true, decide_eq_true_eq] at hB
  obtain ⟨⟨⟨⟨hsel, hn⟩, hs⟩, hc⟩, hlex⟩ := hB
  have hn' : n < l.length := by simpa using hn
  have htl : (l.take n).length = n := by simp; omega
  have hdl : (l.drop n).length = l.toArray.size - n := by simp
  have inv0 : HeadInv .any l.toArray n (Array.replicate l.toArray.size false) :=
    ⟨by simp, fun j oj _ hl => (by rw [getD_replicate_false] at hl; cases hl), fun t _ ht => getD_in (by simpa using ht) (getD_replicate_false _ _)⟩
  have H := anyLQ_lex (md := .any) (C := C) (g := l.toArray.size - n) hsel hs hc hn (l.take n) 0 _ a (fun j hj => by
    have hj' : j < n := by rw [htl] at hj; exact hj
    simp [hj']) (by simpa using htl) inv0 (by rw [htl]; exact hlex) h
  refine wp_region_any hm ?_
  have := any_of_LQ (Q' := Q) (C := C) (g := l.toArray.size - n) (fun listed a' w' hw' hL => by
    have := wpAny_of_seq (md := .any) (Q' := Q) (l.drop n) n listed a' w' (fun j => by simp [List.getElem?_drop]) (by rw [hdl]; exact hL.1) (hL.2 w' hw')
    rwa [hdl] at this) _ _ _ _ hC H
  rw [htl, show n + (l.toArray.size - n) = l.toArray.size by omega] at this
  exact this

/-- .. at the class 'w after some draws'. -/
theorem wp_quiet_tail_lit {id : Nat} {Q : Exit → Act → World → Prop} {a : Act} {w : World} {l : List Oper} (n : Nat) (hm : P.follows .mixedOrders = true) (hB : Region.lexTailB .any l.toArray n = true)
    (h : wpQuiet P l.toArray (fun w' => ∃ m, w' = w.drewN m) (fun a' => ∀ w', (∃ m, w' = w.drewN m) → wpList P l.toArray Q (l.drop n) a' w') (l.take n) a) : (Code.region id l.toArray true).wp P Q a w :=
  wp_quiet_tail (C := fun w' => ∃ m, w' = w.drewN m) n hm hB ⟨1, rfl⟩ h
end

open Go.RowKit
/-- A world that keeps all that lay in W. -/
structure Wb (W : World) where
  w : World
  h : Below W.heap.size W w
instance (W : World) : Inhabited (Wb W) := ⟨⟨W, Below.refl _ _⟩⟩
section
variable {P : Program}
/-- The class of these worlds: a call that lays blocks of its own stays in it. -/
theorem wp_quiet_wb {id : Nat} {Q : Exit → Act → World → Prop} {a : Act} {w : World} {l : List Oper} (hm : P.follows .mixedOrders = true) (hB : Region.lexB .any l.toArray = true)
    (h : wpQuiet P l.toArray (fun w' => ∃ i : Wb w, w' = i.w) (fun a' => ∀ w', (∃ i : Wb w, w' = i.w) → Q .normal a' w') l a) : (Code.region id l.toArray true).wp P Q a w :=
  wp_region_quiet (C := fun w' => ∃ i : Wb w, w' = i.w) hm hB ⟨⟨{ w with drawn := w.drawn + 1 }, (Below.refl w.heap.size w).drew⟩, rfl⟩ (by simpa using h)
theorem wp_quiet_wb_tail {id : Nat} {Q : Exit → Act → World → Prop} {a : Act} {w : World} {l : List Oper} (n : Nat) (hm : P.follows .mixedOrders = true) (hB : Region.lexTailB .any l.toArray n = true)
    (h : wpQuiet P l.toArray (fun w' => ∃ i : Wb w, w' = i.w) (fun a' => ∀ w', (∃ i : Wb w, w' = i.w) → wpList P l.toArray Q (l.drop n) a' w') (l.take n) a) : (Code.region id l.toArray true).wp P Q a w :=
  wp_quiet_tail (C := fun w' => ∃ i : Wb w, w' = i.w) n hm hB ⟨⟨{ w with drawn := w.drawn + 1 }, (Below.refl w.heap.size w).drew⟩, rfl⟩ h
theorem quiet_of_wb {f : FuncId} {args : Array Value} {W : World} {i : Wb W} {v : Value} (h : Calls P f args i.w fun e w' => e = .returned v ∧ Below i.w.heap.size i.w w') :
    Calls P f args i.w fun e w'' => e = .returned v ∧ ∃ j : Wb W, w'' = j.w :=
  h.mono fun _ w' ⟨he, hb⟩ => ⟨he, ⟨w', i.h.trans (hb.mono i.h.size)⟩, rfl⟩
theorem quiet_of_wb_drew {f : FuncId} {args : Array Value} {W : World} {i : Wb W} {v : Value} (h : Calls P f args i.w fun e w' => e = .returned v ∧ ∃ n, w' = i.w.drewN n) :
    Calls P f args i.w fun e w'' => e = .returned v ∧ ∃ j : Wb W, w'' = j.w :=
  h.mono fun _ w' ⟨he, n, hb⟩ => ⟨he, ⟨w', hb ▸ ⟨i.h.os, i.h.tape, i.h.output, i.h.size, i.h.block⟩⟩, rfl⟩
theorem wb_cell {W : World} {b o : Nat} {v : Value} (h : W.cell? ⟨b, o, none⟩ = some v) (hb : b < W.heap.size) : ∀ i : Wb W, i.w.cell? ⟨b, o, none⟩ = some v := fun i => (i.h.cell (p := ⟨b, o, none⟩) hb).trans h
end
/-- Two cells below are kept by a call. -/
theorem hold2 {W W' : World} {b o o' : Nat} {u1 u2 : Value} (hb : Below W.heap.size W W') (h : b < W.heap.size) (h1 : W.cell? ⟨b, o, none⟩ = some u1) (h2 : W.cell? ⟨b, o', none⟩ = some u2) :
    W'.cell? ⟨b, o, none⟩ = some u1 ∧ W'.cell? ⟨b, o', none⟩ = some u2 ∧ W.heap.size ≤ W'.heap.size :=
  ⟨(hb.cell (p := ⟨b, o, none⟩) h).trans h1, (hb.cell (p := ⟨b, o', none⟩) h).trans h2, hb.size⟩
end Go.Proofs.YtahgffjkkdbjeaaDoor
namespace Go.Proofs.YtahgffjkkdbjeaaDoor
open Go
section
variable {P : Program} {ops : Array Oper} {md : Region.Mode} {S : World → Prop} {Q : Exit → Act → World → Prop}

/-- The forced operations that keep S, one after another; then K. -/
def midT (P : Program) (ops : Array Oper) (Q : Exit → Act → World → Prop) (S : World → Prop) (K : Act → World → Prop) : List Nat → Act → World → Prop
  | [], a, w => K a w
  | k :: ms, a, w => wpOp P ops Q k (fun a' w' => S w' ∧ midT P ops Q S K ms a' w') a w

/-- The reads, one after another: the world stays. -/
def headT (P : Program) (ops : Array Oper) (S : World → Prop) (L : Act → Prop) : List Nat → Act → Prop
  | [], a => L a
  | k :: is, a => ∃ o v, ops[k]? = some o ∧ YieldsIf P ops S o v a ∧ headT P ops S L is (a.put o.dst v)

/-- Whatever order is picked for the first n; the others are forced. -/
def anyT (P : Program) (md : Region.Mode) (ops : Array Oper) (Q : Exit → Act → World → Prop) (S : World → Prop) (n : Nat) (K : Act → World → Prop) : Nat → Array Bool → Act → World → Prop
  | 0, listed, a, w => Region.seqB md ops (ops.size - n) n listed = true ∧ K a w
  | f + 1, listed, a, w => Region.ready md ops listed ≠ [] ∧ ∀ i ∈ Region.ready md ops listed, i < n ∧ wpOp P ops Q i (fun a' w' => S w' ∧ anyT P md ops Q S n K f (listed.setIfInBounds i true) a' w') a w

theorem any_of_T {n g : Nat} {K : Act → World → Prop} (hK : ∀ listed a w, Region.seqB md ops (ops.size - n) n listed = true → K a w → wpAny P md ops Q g listed a w) :
    ∀ (f : Nat) (listed : Array Bool) (a : Act) (w : World), anyT P md ops Q S n K f listed a w → wpAny P md ops Q (f + g) listed a w
  | 0, listed, a, w, h => by rw [Nat.zero_add]; exact hK _ _ _ h.1 h.2
  | f + 1, listed, a, w, h => by
    rw [show f + 1 + g = (f + g) + 1 by omega]
    exact ⟨fun h0 => absurd h0 h.1, fun i hi => wpOp_mono (fun a' w' h' => any_of_T hK f _ a' w' h'.2) (h.2 i hi).2⟩

theorem anyT_first {n i : Nat} {K : Act → World → Prop} {oi : Oper} {v : Value} (hi : ops[i]? = some oi) (hsel : ∀ (j : Nat) (o : Oper) cs b, ops[j]? = some o → o.op ≠ .select cs b)
    (hs : Region.sinkB md ops n = true) (hc : Region.chainB md ops n = true) (hn : n < ops.size) (hin : i < n)
    (hQ : ∀ c a w, Q (.panic c) (a.put oi.dst v) w → Q (.panic c) a w) :
    ∀ (f : Nat) (listed : Array Bool) (a : Act) (w : World), HeadInv md ops n listed →
      (∀ j oj, ops[j]? = some oj → j ≠ i → listed.getD j true = false → (∀ e ∈ oj.after, Region.binds md e = true → e.on ≠ i) → oi.apart ops oj = true) →
      i ∈ Region.ready md ops listed → YieldsIf P ops S oi v a → S w →
      anyT P md ops Q S n K f (listed.setIfInBounds i true) (a.put oi.dst v) w → anyT P md ops Q S n K (f + 1) listed a w := by
  intro f
  induction f with
  | zero =>
    intro listed a w inv _ hr hy hS H
    have hun := (mem_ready.1 hr).1
    refine ⟨fun h => (by rw [h] at hr; cases hr), fun j hj => ?_⟩
    have hjn : j < n := by
      rcases Nat.lt_or_ge j n with h | h
      · exact h
      · exact absurd hj (tail_waits hs hc hn inv _ i rfl hin hun j h)
    refine ⟨hjn, ?_⟩
    by_cases hji : j = i
    · subst hji; exact hy.wpOp hi hS ⟨hS, H⟩
    · have := seqB_ready H.1 j (ready_mono hj hji)
      omega
  | succ f ih =>
    intro listed a w inv hfree hr hy hS H
    have hun := (mem_ready.1 hr).1
    refine ⟨fun h => (by rw [h] at hr; cases hr), fun j hj => ?_⟩
    have hjn : j < n := by
      rcases Nat.lt_or_ge j n with h | h
      · exact h
      · exact absurd hj (tail_waits hs hc hn inv _ i rfl hin hun j h)
    refine ⟨hjn, ?_⟩
    by_cases hji : j = i
    · subst hji; exact hy.wpOp hi hS ⟨hS, H⟩
    · have h1 := (H.2 j (ready_mono hj hji)).2
      obtain ⟨hjun, oj, hoj, hall⟩ := mem_ready.1 hj
      have hnot : ∀ e ∈ oj.after, Region.binds md e = true → e.on ≠ i := fun e he hb heq => by
        have h1 := hall e he hb
        rw [heq, getD_both hun] at h1
        cases h1
      have h2 := wpOp_putIf hoj (hfree j oj hoj hji hjun hnot) (fun cs b => hsel i oi cs b hi) (fun cs b => hsel j oj cs b hoj) hQ hy h1
      have hfree' : ∀ k ok, ops[k]? = some ok → k ≠ i → (listed.setIfInBounds j true).getD k true = false →
          (∀ e ∈ ok.after, Region.binds md e = true → e.on ≠ i) → oi.apart ops ok = true := fun k ok hk hki hun hno => by
        refine hfree k ok hk hki ?_ hno
        by_cases hjk : j = k
        · subst hjk; exact hjun
        · rw [getD_set_ne true hjk] at hun; exact hun
      refine wpOp_mono (fun a' w' h3 => ⟨h3.2.1, ih (listed.setIfInBounds j true) a' w' (inv.set hj hjn) hfree' (ready_mono hr (Ne.symm hji)) h3.1 h3.2.1 ?_⟩) h2
      rw [Array.setIfInBounds_comm _ _ hji]
      exact h3.2.2

/-- The forced operations' numbers: each alone may come up. -/
def seqL (md : Region.Mode) (ops : Array Oper) (n : Nat) : List Nat → Array Bool → Bool
  | [], listed => Region.seqB md ops (ops.size - n) n listed
  | k :: ms, listed => decide (Region.ready md ops listed = [k]) && decide (k < n) && seqL md ops n ms (listed.setIfInBounds k true)
/-- The reads' numbers, each free when it comes up, then the forced ones. -/
def headL (md : Region.Mode) (ops : Array Oper) (n : Nat) (ms : List Nat) : List Nat → Array Bool → Bool
  | [], listed => seqL md ops n ms listed
  | k :: is, listed => (Region.ready md ops listed).contains k && Region.free md ops listed k && decide (k < n) && headL md ops n ms is (listed.setIfInBounds k true)
def orderB (md : Region.Mode) (ops : Array Oper) (n : Nat) (is ms : List Nat) : Bool :=
  Region.noSelect ops && decide (is.length + ms.length = n) && decide (n < ops.size) && Region.sinkB md ops n && Region.chainB md ops n && headL md ops n ms is (Array.replicate ops.size false)

theorem anyT_seq {n : Nat} {K : Act → World → Prop} : ∀ (ms : List Nat) (listed : Array Bool) (a : Act) (w : World), seqL md ops n ms listed = true → midT P ops Q S K ms a w → anyT P md ops Q S n K ms.length listed a w
  | [], listed, a, w, hB, h => ⟨hB, h⟩
  | k :: ms, listed, a, w, hB, h => by
    rw [seqL] at hB
    simp only [Bool.and_eq_true, decide_eq_true_eq] at hB
    obtain ⟨⟨h1, h2⟩, h3⟩ := hB
    refine ⟨fun h0 => (by rw [h1] at h0; cases h0), fun i hi => ?_⟩
    rw [h1] at hi
    obtain rfl : i = k := by simpa using hi
    exact ⟨h2, wpOp_mono (fun a' w' h' => ⟨h'.1, anyT_seq ms _ a' w' h3 h'.2⟩) h⟩

theorem anyT_head {n : Nat} {K : Act → World → Prop} (hsel : Region.noSelect ops = true) (hs : Region.sinkB md ops n = true) (hc : Region.chainB md ops n = true) (hn : n < ops.size)
    (hQ : ∀ c a d v w, Q (.panic c) (Act.put a d v) w → Q (.panic c) a w) {ms : List Nat} :
    ∀ (is : List Nat) (listed : Array Bool) (a : Act) (w : World), HeadInv md ops n listed → headL md ops n ms is listed = true → S w →
      headT P ops S (fun a' => midT P ops Q S K ms a' w) is a → anyT P md ops Q S n K (is.length + ms.length) listed a w
  | [], listed, a, w, _, hB, _, h => by
    rw [List.length_nil, Nat.zero_add]
    exact anyT_seq ms listed a w hB h
  | i :: is, listed, a, w, inv, hB, hS, h => by
    rw [headL] at hB
    simp only [Bool.and_eq_true, decide_eq_true_eq] at hB
    obtain ⟨⟨⟨h1, h2⟩, h3⟩, h4⟩ := hB
    obtain ⟨o, v, ho, hy, hk⟩ := h
    have hr : i ∈ Region.ready md ops listed := by simpa using h1
    have := anyT_first ho (Region.noSelect_spec hsel) hs hc hn h3 (fun c a w => hQ c a _ _ w) (is.length + ms.length) listed a w inv (Region.free_spec ho h2) hr hy hS (anyT_head hsel hs hc hn hQ is _ _ w (inv.set hr h3) h4 hS hk)
    rw [List.length_cons, show is.length + 1 + ms.length = is.length + ms.length + 1 by omega]
    exact this

/-- READS FIRST, THEN FORCED ONES THAT KEEP WHAT WAS READ, then the forced end, which may write it. -/
theorem wp_region_order {id : Nat} {a : Act} {w : World} {l : List Oper} (n : Nat) (is ms : List Nat) (hm : P.follows .mixedOrders = true) (hB : orderB .any l.toArray n is ms = true)
    (hS : S w.drew)
    (h : headT P l.toArray S (fun a' => midT P l.toArray (NoPanic Q) S (wpList P l.toArray (NoPanic Q) (l.drop n)) ms a' w.drew) is a) : (Code.region id l.toArray true).wp P Q a w := by
  simp only [orderB, Bool.and_eq_true, decide_eq_true_eq] at hB
  obtain ⟨⟨⟨⟨⟨hsel, hlen⟩, hn⟩, hs⟩, hc⟩, hB⟩ := hB
  have inv0 : HeadInv .any l.toArray n (Array.replicate l.toArray.size false) :=
    ⟨by simp, fun j oj _ hl => (by rw [getD_replicate_false] at hl; cases hl), fun t _ ht => getD_in (by simpa using ht) (getD_replicate_false _ _)⟩
  refine wp_region_noPanic (wp_region_any hm ?_)
  have hdl : (l.drop n).length = l.toArray.size - n := by simp
  have := any_of_T (Q := NoPanic Q) (g := l.toArray.size - n) (fun listed a' w' h1 h2 => by
    have := wpAny_of_seq (md := .any) (Q' := NoPanic Q) (l.drop n) n listed a' w' (fun j => by simp [List.getElem?_drop]) (by rw [hdl]; exact h1) h2
    rwa [hdl] at this) _ _ _ _ (anyT_head (Q := NoPanic Q) hsel hs hc hn (fun _ _ _ _ _ h => h) is _ a w.drew inv0 hB hS h)
  rw [hlen, show n + (l.toArray.size - n) = l.toArray.size by omega] at this
  exact this

theorem get_of_drop {l r : List Oper} {k : Nat} {o : Oper} (h : l.drop k = o :: r) : l.toArray[k]? = some o := by
  have := congrArg (fun x => x[0]?) h
  simpa [List.getElem?_drop] using this
theorem headT_nil {L : Act → Prop} {a : Act} (h : L a) : headT P ops S L [] a := h
theorem headT_cons {l : List Oper} {L : Act → Prop} {a : Act} {k : Nat} {is : List Nat} {o : Oper} {r : List Oper} {v : Value} (ho : l.drop k = o :: r) (hw : Region.wanted o (yielded l.toArray a.tmps) = true) (hy : ∀ w, S w → (execOp a.eval o).run P w = .ok (.value v) w)
    (h : headT P l.toArray S L is (a.put o.dst v)) : headT P l.toArray S L (k :: is) a := ⟨o, v, get_of_drop ho, Or.inl ⟨hw, hy⟩, h⟩
theorem headT_skip {l : List Oper} {L : Act → Prop} {a : Act} {k : Nat} {is : List Nat} {o : Oper} {r : List Oper} (ho : l.drop k = o :: r) (hw : Region.wanted o (yielded l.toArray a.tmps) = false)
    (h : headT P l.toArray S L is (a.put o.dst undef)) : headT P l.toArray S L (k :: is) a := ⟨o, undef, get_of_drop ho, Or.inr ⟨hw, rfl⟩, h⟩
theorem midT_nil {K : Act → World → Prop} {a : Act} {w : World} (h : K a w) : midT P ops Q S K [] a w := h
theorem midT_cons {l : List Oper} {K : Act → World → Prop} {a : Act} {w : World} {k : Nat} {ms : List Nat} {o : Oper} {r : List Oper} (ho : l.drop k = o :: r)
    (h : ∀ K' : Act → World → Prop, Shut (∀ a w, S w → (S w → midT P l.toArray Q S K ms a w) → K' a w) → if Region.wanted o (yielded l.toArray a.tmps) = true then Oper.wp P o a w K' Q else K' (a.put o.dst undef) w) : midT P l.toArray Q S K (k :: ms) a w :=
  wpOp_step (get_of_drop ho) (fun K' hK => h K' (fun a w hS hW => hK a w ⟨hS, hW hS⟩))
end
end Go.Proofs.YtahgffjkkdbjeaaDoor
namespace Go.Proofs.YtahgffjkkdbjeaaDoor
/-- The cells of distances: n, the common denominator, the table. -/
def dg (n c : Nat) (f : Nat → Nat) (i : Nat) : Value := if i = 0 then .int .i64 n else if i = 1 then .int .i64 c else .int .i64 (f (i - 2))
/-- The cells of clusters: their sizes, what is known of two of them. -/
def cg (s : Nat → Nat) (f : Nat → Nat) (i : Nat) : Value := if i < 24 then .int .i64 (s i) else .int .i64 (f (i - 24))
theorem zc89 (n : Nat) : (Tryd.zeroCells89.setIfInBounds 0 (.int .i64 n)).setIfInBounds 1 (.int .i64 1) = ofF 578 (dg n 1 fun _ => 0) := by kernel_rfl
theorem zc100 : Tryd.zeroCells100 = ofF 600 (cg (fun _ => 0) fun _ => 0) := by kernel_rfl
theorem info40 : (Tryd.prog.info? 40).map (fun i => (i.zero, i.size, i.bytes)) = some (some (.agg #[.int .i64 0, .int .i64 0]), 2, 16) := by kernel_rfl
theorem info3 : (Tryd.prog.info? 3).map (fun i => (i.zero, i.size, i.bytes)) = some (some (.int .i64 0), 1, 8) := by kernel_rfl
end Go.Proofs.YtahgffjkkdbjeaaDoor
namespace Go.Proofs.YtahgffjkkdbjeaaDoor
open Go.RowKit

def lowN (x : Fr) : Nat := x.1.toNat / Nat.gcd x.1.toNat x.2.toNat
def lowD (x : Fr) : Nat := x.2.toNat / Nat.gcd x.1.toNat x.2.toNat
def lowF (x : Fr) : Fr := (lowN x, lowD x)
def qN (d : List Fr) (k : Nat) : Nat := lowN (d.getD k (0, 1))
def qD (d : List Fr) (k : Nat) : Nat := lowD (d.getD k (0, 1))
/-- A fraction that is none: N below 0, or D below 1. -/
def badFr (x : Fr) : Bool := decide (x.2 < 1) || decide (x.1 < 0)
/-- The numbers fit in 64 bits. -/
def FitFr (d : List Fr) : Prop := ∀ i, i < d.length → fN d i ≤ 9223372036854775807 ∧ fD d i ≤ 9223372036854775807
theorem fr_nats {d : List Fr} (hb : d.any badFr = false) (hf : FitFr d) (i : Nat) (hi : i < d.length) :
    ∃ p q : Nat, fN d i = p ∧ fD d i = q ∧ p ≤ 9223372036854775807 ∧ 0 < q ∧ q ≤ 9223372036854775807 ∧ qN d i = p / Nat.gcd p q ∧ qD d i = q / Nat.gcd p q := by
  obtain ⟨h1, h2⟩ := hf i hi
  have h3 := List.any_eq_false.1 hb d[i] (List.getElem_mem hi)
  simp only [badFr, Bool.or_eq_true, decide_eq_true_eq, not_or] at h3
  have e1 : fN d i = d[i].1 := by simp [fN, hi]
  have e2 : fD d i = d[i].2 := by simp [fD, hi]
  have e3 : d.getD i (0, 1) = d[i] := by simp [hi]
  refine ⟨(fN d i).toNat, (fD d i).toNat, by omega, by omega, by omega, by omega, by omega, ?_, ?_⟩
  · rw [qN, lowN, e3, e1, e2]
  · rw [qD, lowD, e3, e1, e2]
theorem q_bounds {d : List Fr} (hb : d.any badFr = false) (hf : FitFr d) (i : Nat) (hi : i < d.length) : qN d i ≤ 9223372036854775807 ∧ 0 < qD d i ∧ qD d i ≤ 9223372036854775807 := by
  obtain ⟨p, q, _, _, hp, hq, hq2, e1, e2⟩ := fr_nats hb hf i hi
  rw [e1, e2]
  have hg : 0 < Nat.gcd p q := Nat.gcd_pos_of_pos_right _ hq
  exact ⟨Nat.le_trans (Nat.div_le_self _ _) hp, Nat.div_pos (Nat.gcd_le_right _ hq) hg, Nat.le_trans (Nat.div_le_self _ _) hq2⟩
theorem fN_low (d : List Fr) (i : Nat) (hi : i < d.length) : fN (d.map lowF) i = (qN d i : Int) := by simp [fN, qN, lowF, hi]
theorem fD_low (d : List Fr) (i : Nat) (hi : i < d.length) : fD (d.map lowF) i = (qD d i : Int) := by simp [fD, qD, lowF, hi]

/-- Distances are symmetric, and 0 from a language to itself. -/
def SymP (d : List Fr) (n a b : Nat) : Prop := (qN d (a * n + b) = qN d (b * n + a) ∧ qD d (a * n + b) = qD d (b * n + a)) ∧ (a = b → qN d (a * n + b) = 0)
instance (d : List Fr) (n a b : Nat) : Decidable (SymP d n a b) := by unfold SymP; infer_instance
def SymOk (d : List Fr) (n : Nat) : Prop := ∀ a, a < n → ∀ b, b < a + 1 → SymP d n a b
instance (d : List Fr) (n : Nat) : Decidable (SymOk d n) := by unfold SymOk; infer_instance

def cmStep (c x : Nat) : Option Nat := if 1073741824 < x then none else if 1073741824 < c * (x / Nat.gcd c x) then none else some (c * (x / Nat.gcd c x))
/-- The common denominator of the first k. -/
def cmA (d : List Fr) : Nat → Option Nat
  | 0 => some 1
  | k + 1 => (cmA d k).bind fun c => cmStep c (qD d k)
theorem cmA_none {d : List Fr} {k : Nat} (h : cmA d k = none) {m : Nat} (hm : k ≤ m) : cmA d m = none := by
  obtain ⟨j, rfl⟩ := Nat.exists_eq_add_of_le hm
  clear hm
  induction j with
  | zero => exact h
  | succ j ih => rw [← Nat.add_assoc, cmA, ih]; rfl
theorem cmStep_le {c x c' : Nat} (h : cmStep c x = some c') : c' ≤ 1073741824 ∧ x ≤ 1073741824 ∧ c' = c * (x / Nat.gcd c x) := by
  unfold cmStep at h
  split at h
  · cases h
  · split at h
    · cases h
    · simp only [Option.some.injEq] at h
      omega
theorem gcd_quot {c x : Nat} : c * (x / Nat.gcd c x) = c / Nat.gcd c x * x := by
  have h1 : Nat.gcd c x ∣ x := Nat.gcd_dvd_right _ _
  have h2 : Nat.gcd c x ∣ c := Nat.gcd_dvd_left _ _
  rw [← Nat.mul_div_assoc _ h1, Nat.mul_comm c x, Nat.mul_div_assoc _ h2, Nat.mul_comm]
theorem cmStep_dvd {c x c' : Nat} (h : cmStep c x = some c') : c ∣ c' ∧ x ∣ c' := by
  obtain ⟨_, _, e⟩ := cmStep_le h
  rw [e]
  exact ⟨Nat.dvd_mul_right _ _, by rw [gcd_quot]; exact Nat.dvd_mul_left _ _⟩
theorem cmStep_pos {c x c' : Nat} (h : cmStep c x = some c') (hc : 0 < c) (hx : 0 < x) : 0 < c' := by
  obtain ⟨_, _, e⟩ := cmStep_le h
  rw [e]
  exact Nat.mul_pos hc (Nat.div_pos (Nat.gcd_le_right _ hx) (Nat.gcd_pos_of_pos_right _ hx))
theorem cmA_some {d : List Fr} (hq : ∀ i, i < d.length → 0 < qD d i) {k c : Nat} (hk : k ≤ d.length) (h : cmA d k = some c) : 0 < c ∧ c ≤ 1073741824 ∧ ∀ i, i < k → qD d i ∣ c ∧ qD d i ≤ 1073741824 := by
  induction k generalizing c with
  | zero => simp only [cmA, Option.some.injEq] at h; subst h; exact ⟨by omega, by omega, fun i hi => absurd hi (by omega)⟩
  | succ k ih =>
    simp only [cmA, Option.bind_eq_some_iff] at h
    obtain ⟨c0, h0, h1⟩ := h
    obtain ⟨a1, a2, a3⟩ := ih (by omega) h0
    obtain ⟨b1, b2, _⟩ := cmStep_le h1
    obtain ⟨d1, d2⟩ := cmStep_dvd h1
    refine ⟨cmStep_pos h1 a1 (hq k (by omega)), b1, fun i hi => ?_⟩
    by_cases e : i = k
    · subst e; exact ⟨d2, b2⟩
    · obtain ⟨e1, e2⟩ := a3 i (by omega)
      exact ⟨Nat.dvd_trans e1 d1, e2⟩
/-- The distance k, multiplied by the common denominator c. -/
def scK (d : List Fr) (c k : Nat) : Nat := qN d k * (c / qD d k)
def overK (d : List Fr) (c k : Nat) : Bool := decide (1073741824 / (c / qD d k) < qN d k)
def OverAny (d : List Fr) (c : Nat) : Prop := ∃ k, k < d.length ∧ overK d c k = true
instance (d : List Fr) (c : Nat) : Decidable (OverAny d c) := by unfold OverAny; infer_instance
/-- The common denominator, or the first error of n and d. -/
def scaledS (n : Int) (d : List Fr) : Except Int Nat :=
  if n < 1 ∨ 24 < n then .error 3
  else if (d.length : Int) ≠ n * n ∨ d.any badFr = true then .error 2
  else if ¬ SymOk d n.toNat then .error 2
  else match cmA d d.length with
    | none => .error 7
    | some c => if OverAny d c then .error 7 else .ok c
theorem scK_le {d : List Fr} {c k : Nat} (hc : 0 < c) (hd : qD d k ∣ c) (h : overK d c k = false) : scK d c k ≤ 1073741824 := by
  unfold overK at h
  simp only [decide_eq_false_iff_not, Nat.not_lt] at h
  unfold scK
  exact Nat.le_trans (Nat.mul_le_mul_right _ h) (Nat.div_mul_le_self _ _)
end Go.Proofs.YtahgffjkkdbjeaaDoor
namespace Go.Proofs.YtahgffjkkdbjeaaDoor
open Go.RowKit

theorem gcd_step (a b : Nat) : Nat.gcd b (a % b) = Nat.gcd a b := by
  rw [Nat.gcd_comm a b, Nat.gcd_rec b a, Nat.gcd_comm]
theorem div_bd (a b : Nat) (hb : a ≤ 9223372036854775807) : wrap64 ((a : Int) / (b : Int)) = ((a / b : Nat) : Int) := by
  have : a / b ≤ a := Nat.div_le_self _ _
  have e : (a : Int) / (b : Int) = ((a / b : Nat) : Int) := by rw [Int.natCast_ediv]
  rw [e]
  generalize a / b = q at *
  exact IntWalk.wrap64_in _ ⟨by omega, by omega⟩

set_option maxHeartbeats 400000 in
theorem div_any (a b : Nat) (w : World) (ha : a ≤ 9223372036854775807) (hb : b ≤ 9223372036854775807) :
    Calls Tryd.prog 86 #[.int .i64 a, .int .i64 b] w fun e w' => e = .returned (.int .i64 (Nat.gcd a b)) ∧ ∃ n, w' = w.drewN n := by
  go_enter Tryd.func86, Tryd.ntmps86
  go_wp2
  go_loopw [0, 1] (fun x y wr => ∃ p q : Nat, p ≤ 9223372036854775807 ∧ q ≤ 9223372036854775807 ∧ x = .int .i64 p ∧ y = .int .i64 q ∧ Nat.gcd p q = Nat.gcd a b ∧ ∃ n, wr = w.drewN n) (fun _ y _ => (intOf y).toNat)
  case atStart => exact ⟨a, b, ha, hb, rfl, rfl, rfl, 0, rfl⟩
  case round =>
    obtain ⟨p, q, hp, hq, rfl, rfl, hg, n, rfl⟩ := hrel
    have Hg := Lib.hid hg; clear hg
    by_cases h0 : q = 0
    · subst h0
      go_wp2
      go_ret
      have := Hg.out
      exact ⟨by rw [← this]; simp, n, rfl⟩
    · go_wp2
      go_quiet (fail)
      go_wp2
      have hlt : p % q < q := Nat.mod_lt _ (by omega)
      go_roundw
      case rel => exact ⟨q, p % q, hq, by omega, rfl, by go_num, by rw [gcd_step]; exact Hg.out, n + nq, by simp⟩
      case measure => simp only [intOf]; rw [← Int.natCast_emod]; omega

set_option maxHeartbeats 400000 in
theorem rdiv_any (a b : Nat) (w : World) (ha : a ≤ 9223372036854775807) (hb : b ≤ 9223372036854775807) :
    Calls Tryd.prog 87 #[.int .i64 a, .int .i64 b] w fun e w' => e = .returned (.int .i64 (Nat.gcd a b)) ∧ ∃ n, w' = w.drewN n := by
  go_enter Tryd.func87, Tryd.ntmps87
  go_wp2
  go_loopw [0, 1, 5] (fun x y _ wr => ∃ p q : Nat, p ≤ 9223372036854775807 ∧ q ≤ 9223372036854775807 ∧ x = .int .i64 p ∧ y = .int .i64 q ∧ Nat.gcd p q = Nat.gcd a b ∧ ∃ n, wr = w.drewN n) (fun _ y _ _ => (intOf y).toNat)
  case atStart => exact ⟨a, b, ha, hb, rfl, rfl, rfl, 0, rfl⟩
  case round =>
    obtain ⟨p, q, hp, hq, rfl, rfl, hg, n, rfl⟩ := hrel
    have Hg := Lib.hid hg; clear hg
    by_cases h0 : q = 0
    · subst h0
      go_wp2
      go_ret
      have := Hg.out
      exact ⟨by rw [← this]; simp, n, rfl⟩
    · go_wp2
      skip
      skip
      have hlt : p % q < q := Nat.mod_lt _ (by omega)
      go_roundw
      case rel => exact ⟨q, p % q, hq, by omega, rfl, by go_num, by rw [gcd_step]; exact Hg.out, n, rfl⟩
      case measure => simp only [intOf]; rw [← Int.natCast_emod]; omega

set_option maxHeartbeats 400000 in
theorem low_any (a b : Nat) (w : World) (ha : a ≤ 9223372036854775807) (hb : b ≤ 9223372036854775807) (h0 : 0 < b) :
    Calls Tryd.prog 57 #[.int .i64 a, .int .i64 b] w fun e w' => e = .returned (.agg #[.int .i64 (a / Nat.gcd a b : Nat), .int .i64 (b / Nat.gcd a b : Nat)]) ∧ Below w.heap.size w w' := by
  have hg : 0 < Nat.gcd a b := Nat.gcd_pos_of_pos_right _ h0
  have hg2 : Nat.gcd a b ≤ b := Nat.gcd_le_right _ h0
  go_enter Tryd.func57, Tryd.ntmps57
  go_wp2_with fail
  refine (div_any a b _ ha hb).mono ?_
  rintro e w' ⟨rfl, n, rfl⟩
  go_wp2_with fail
  go_region
  go_wp2
  refine bodyPost_ret (v := .agg #[.int .i64 (a / Nat.gcd a b : Nat), .int .i64 (b / Nat.gcd a b : Nat)]) ?_ rfl ?_
  · simp [results, Tryd.results57, go_sem, div_bd, ha, hb]
  · exact ⟨rfl, bl_set (bl_set (bl_drewN (bl_alloc (Below.refl _ _) _) _) _ _ _ _ (Nat.le_refl _)) _ _ _ _ (Nat.le_refl _)⟩

set_option maxHeartbeats 400000 in
theorem rlow_any (a b : Nat) (w : World) (ha : a ≤ 9223372036854775807) (hb : b ≤ 9223372036854775807) (h0 : 0 < b) :
    Calls Tryd.prog 65 #[.int .i64 a, .int .i64 b] w fun e w' => e = .returned (.agg #[.int .i64 (a / Nat.gcd a b : Nat), .int .i64 (b / Nat.gcd a b : Nat)]) ∧ Below w.heap.size w w' := by
  have hg : 0 < Nat.gcd a b := Nat.gcd_pos_of_pos_right _ h0
  have hg2 : Nat.gcd a b ≤ b := Nat.gcd_le_right _ h0
  go_enter Tryd.func65, Tryd.ntmps65
  go_wp2_with fail
  refine (rdiv_any a b _ ha hb).mono ?_
  rintro e w' ⟨rfl, n, rfl⟩
  go_wp2_with fail
  go_region
  go_wp2
  refine bodyPost_ret (v := .agg #[.int .i64 (a / Nat.gcd a b : Nat), .int .i64 (b / Nat.gcd a b : Nat)]) ?_ rfl ?_
  · simp [results, Tryd.results65, go_sem, div_bd, ha, hb]
  · exact ⟨rfl, bl_set (bl_set (bl_drewN (bl_alloc (Below.refl _ _) _) _) _ _ _ _ (Nat.le_refl _)) _ _ _ _ (Nat.le_refl _)⟩

set_option maxHeartbeats 400000 in
theorem bad_cl (x : Fr) (w : World) : Calls Tryd.prog 85 #[.agg #[.int .i64 x.1, .int .i64 x.2]] w fun e w' => e = .returned (.bool (badFr x)) ∧ Below w.heap.size w w' := by
  by_cases h : x.2 < 1
  · go_enter Tryd.func85, Tryd.ntmps85
    go_wp2
    go_ret
    exact ⟨ret_b (by simp [badFr, h]), bl_alloc (Below.refl _ _) _⟩
  · have h2 : decide (x.2 < 1) = false := by simpa using h
    go_enter Tryd.func85, Tryd.ntmps85
    go_wp2
    go_ret
    exact ⟨ret_b (by simp [badFr, h2]), bl_alloc (Below.refl _ _) _⟩
set_option maxHeartbeats 400000 in
theorem long_cl (a : Option Addr) (n c : Nat) (w : World) (h : n ≤ 1152921504606846976) : Calls Tryd.prog 60 #[.slice a n c] w fun e w' => e = .returned (.bool (decide (24 < n))) ∧ Below w.heap.size w w' := by
  by_cases h : 24 < n
  · go_enter Tryd.func60, Tryd.ntmps60
    go_wp2
    go_ret
    exact ⟨ret_b (by simp; omega), Below.refl _ _⟩
  · go_enter Tryd.func60, Tryd.ntmps60
    go_wp2
    go_ret
    exact ⟨ret_b (by simp; omega), Below.refl _ _⟩
def under (x : Int) : Bool := decide (x < -1)
set_option maxHeartbeats 400000 in
theorem under_cl (x : Int) (w : World) : Calls Tryd.prog 62 #[.int .i64 x] w fun e w' => e = .returned (.bool (under x)) ∧ Below w.heap.size w w' := by
  go_enter Tryd.func62, Tryd.ntmps62
  go_wp2
  go_ret
  exact ⟨ret_b (by simp [under]), Below.refl _ _⟩

theorem anyBad_at (l : List Fr) (k : Nat) (h : k < l.length) : l[k] = (fN l k, fD l k) := by simp [fN, fD, h]
set_option maxHeartbeats 400000 in
theorem anyBad_idx (a : Option Addr) (n c : Nat) (l : List Fr) (w : World) (hn : l.length = n) (hm : n ≤ 1152921504606846976) (hA : Rd w a (fl encFr l)) :
    Calls Tryd.prog 99 #[.slice a n c, .func (.func 85) #[] #[]] w fun e w' => e = .returned (.int .i64 (idxF badFr l)) ∧ Below w.heap.size w w' := by
  have HN := Lib.hid hn; clear hn
  go_enter Tryd.func99, Tryd.ntmps99
  go_wp2
  go_loopw [8, 5] (fun x _ wr => ∃ k : Nat, k ≤ n ∧ x = .int .i64 k ∧ NoneBefore badFr l k ∧ Below w.heap.size w wr) (fun x _ _ => n - (intOf x).toNat)
  case atStart => exact ⟨0, by omega, rfl, NoneBefore.zero _ _, Below.refl _ _⟩
  case round =>
    obtain ⟨k, hk, rfl, hnb, hbl⟩ := hrel
    by_cases hlt : k < n
    · obtain ⟨b, o, rfl, _, hc⟩ := rdFr (hA.bl hbl) (by rw [HN.out]; omega)
      have G := hc k (by rw [HN.out]; omega)
      clear hc hA
      have hkl : Hid (k < l.length) := by rw [HN.out]; exact hlt
      have hat := Lib.hid (anyBad_at l k hkl.out)
      obtain ⟨g0, g1⟩ := G
      go_wp2_with fail
      refine (bad_cl (fN l k, fD l k) _).mono ?_
      rintro e w' ⟨rfl, hb2⟩
      rcases Bool.eq_false_or_eq_true (badFr (fN l k, fD l k)) with hp | hp
      · have HP := Lib.hid hp
        rw [hp]
        clear hp
        go_wp2
        go_ret
        exact ⟨ret_i (by rw [hnb.found hkl.out (by rw [hat.out]; exact HP.out)]), bl_trans hbl hb2⟩
      · have HP := Lib.hid hp
        rw [hp]
        clear hp
        go_wp2
        go_roundw
        case rel => exact ⟨k + 1, by omega, by go_num, hnb.next hkl.out (by rw [hat.out]; exact HP.out), bl_trans hbl hb2⟩
        case measure => simp [intOf]; omega
    · go_wp2
      go_ret
      exact ⟨ret_i (by rw [hnb.none (by rw [HN.out]; omega)]), hbl⟩
set_option maxHeartbeats 400000 in
theorem anyBad_any (a : Option Addr) (n c : Nat) (l : List Fr) (w : World) (hn : l.length = n) (hm : n ≤ 1152921504606846976) (hA : Rd w a (fl encFr l)) :
    Calls Tryd.prog 84 #[.slice a n c, .func (.func 85) #[] #[]] w fun e w' => e = .returned (.bool (l.any badFr)) ∧ Below w.heap.size w w' := by
  go_enter Tryd.func84, Tryd.ntmps84
  go_wp2_with fail
  refine (anyBad_idx a n c l _ hn hm hA).mono ?_
  rintro e w' ⟨rfl, hb⟩
  have hi := idxF_ge badFr l
  rcases Bool.eq_false_or_eq_true (l.any badFr) with hp | hp
  · have HP := Lib.hid hp
    rw [hp] at hi
    clear hp
    go_wp2
    go_ret
    exact ⟨ret_b (by rw [HP.out]), hb⟩
  · have HP := Lib.hid hp
    rw [hp] at hi
    clear hp
    go_wp2
    go_ret
    exact ⟨ret_b (by rw [HP.out]), hb⟩

theorem anyUnder_at (l : List Int) (k : Nat) (h : k < l.length) : l[k] = (iA l k) := by simp [iA, h]
set_option maxHeartbeats 400000 in
theorem anyUnder_idx (a : Option Addr) (n c : Nat) (l : List Int) (w : World) (hn : l.length = n) (hm : n ≤ 1152921504606846976) (hA : Rd w a (fl encI l)) :
    Calls Tryd.prog 92 #[.slice a n c, .func (.func 62) #[] #[]] w fun e w' => e = .returned (.int .i64 (idxF under l)) ∧ Below w.heap.size w w' := by
  have HN := Lib.hid hn; clear hn
  go_enter Tryd.func92, Tryd.ntmps92
  go_wp2
  go_loopw [8, 5] (fun x _ wr => ∃ k : Nat, k ≤ n ∧ x = .int .i64 k ∧ NoneBefore under l k ∧ Below w.heap.size w wr) (fun x _ _ => n - (intOf x).toNat)
  case atStart => exact ⟨0, by omega, rfl, NoneBefore.zero _ _, Below.refl _ _⟩
  case round =>
    obtain ⟨k, hk, rfl, hnb, hbl⟩ := hrel
    by_cases hlt : k < n
    · obtain ⟨b, o, rfl, _, hc⟩ := rdI (hA.bl hbl) (by rw [HN.out]; omega)
      have G := hc k (by rw [HN.out]; omega)
      clear hc hA
      have hkl : Hid (k < l.length) := by rw [HN.out]; exact hlt
      have hat := Lib.hid (anyUnder_at l k hkl.out)
      skip
      go_wp2_with fail
      refine (under_cl (iA l k) _).mono ?_
      rintro e w' ⟨rfl, hb2⟩
      rcases Bool.eq_false_or_eq_true (under (iA l k)) with hp | hp
      · have HP := Lib.hid hp
        rw [hp]
        clear hp
        go_wp2
        go_ret
        exact ⟨ret_i (by rw [hnb.found hkl.out (by rw [hat.out]; exact HP.out)]), bl_trans hbl hb2⟩
      · have HP := Lib.hid hp
        rw [hp]
        clear hp
        go_wp2
        go_roundw
        case rel => exact ⟨k + 1, by omega, by go_num, hnb.next hkl.out (by rw [hat.out]; exact HP.out), bl_trans hbl hb2⟩
        case measure => simp [intOf]; omega
    · go_wp2
      go_ret
      exact ⟨ret_i (by rw [hnb.none (by rw [HN.out]; omega)]), hbl⟩
set_option maxHeartbeats 400000 in
theorem anyUnder_any (a : Option Addr) (n c : Nat) (l : List Int) (w : World) (hn : l.length = n) (hm : n ≤ 1152921504606846976) (hA : Rd w a (fl encI l)) :
    Calls Tryd.prog 61 #[.slice a n c, .func (.func 62) #[] #[]] w fun e w' => e = .returned (.bool (l.any under)) ∧ Below w.heap.size w w' := by
  go_enter Tryd.func61, Tryd.ntmps61
  go_wp2_with fail
  refine (anyUnder_idx a n c l _ hn hm hA).mono ?_
  rintro e w' ⟨rfl, hb⟩
  have hi := idxF_ge under l
  rcases Bool.eq_false_or_eq_true (l.any under) with hp | hp
  · have HP := Lib.hid hp
    rw [hp] at hi
    clear hp
    go_wp2
    go_ret
    exact ⟨ret_b (by rw [HP.out]), hb⟩
  · have HP := Lib.hid hp
    rw [hp] at hi
    clear hp
    go_wp2
    go_ret
    exact ⟨ret_b (by rw [HP.out]), hb⟩

end Go.Proofs.YtahgffjkkdbjeaaDoor
namespace Go.Proofs.YtahgffjkkdbjeaaDoor
open Go.RowKit
/-- The scaled distance of a and b. -/
def dist (d : List Fr) (c n a b : Nat) : Nat := scK d c (a * n + b)
theorem scaled_ok_parts {n : Nat} {d : List Fr} {c : Nat} (h : scaledS n d = .ok c) : 1 ≤ n ∧ n ≤ 24 ∧ d.length = n * n ∧ d.any badFr = false ∧ SymOk d n ∧ cmA d d.length = some c ∧ ¬ OverAny d c := by
  rw [scaledS] at h
  split at h
  · cases h
  · split at h
    · cases h
    · split at h
      · cases h
      · rename_i h1 h2 h3
        simp only [Int.toNat_natCast, Classical.not_not] at h3
        simp only [not_or, Classical.not_not, Bool.not_eq_true] at h2
        split at h
        · cases h
        · rename_i c' hc
          split at h
          · cases h
          · rename_i h4
            simp only [Except.ok.injEq] at h
            subst h
            refine ⟨by omega, by omega, ?_, h2.2, h3, hc, h4⟩
            have := h2.1
            rw [← Int.natCast_mul] at this
            omega
theorem dist_sym {n : Nat} {d : List Fr} {c : Nat} (h : SymOk d n) {a b : Nat} (ha : a < n) (hb : b < n) : dist d c n a b = dist d c n b a := by
  unfold dist scK
  by_cases hab : b ≤ a
  · obtain ⟨⟨h1, h2⟩, _⟩ := h a ha b (by omega)
    rw [h1, h2]
  · obtain ⟨⟨h1, h2⟩, _⟩ := h b hb a (by omega)
    rw [h1, h2]
theorem dist_self {n : Nat} {d : List Fr} {c : Nat} (h : SymOk d n) {a : Nat} (ha : a < n) : dist d c n a a = 0 := by
  unfold dist scK
  rw [(h a ha a (by omega)).2 rfl, Nat.zero_mul]
theorem dist_le {n : Nat} {d : List Fr} {c : Nat} (h : scaledS n d = .ok c) (hf : FitFr d) {a b : Nat} (ha : a < n) (hb : b < n) : dist d c n a b ≤ 1073741824 := by
  obtain ⟨h1, h2, h3, h4, h5, h6, h7⟩ := scaled_ok_parts h
  have hlt : a * n + b < d.length := by
    have : (a + 1) * n ≤ n * n := Nat.mul_le_mul_right _ ha
    rw [Nat.succ_mul] at this
    omega
  obtain ⟨c1, _, c3⟩ := cmA_some (fun i hi => (q_bounds h4 hf i hi).2.1) (Nat.le_refl _) h6
  refine scK_le c1 (c3 _ hlt).1 ?_
  cases ho : overK d c (a * n + b)
  · rfl
  · exact absurd ⟨_, hlt, ho⟩ h7
def UltraP (d : List Fr) (c n : Nat) : Prop := ∀ a, a < n → ∀ b, b < n → ∀ x, x < n → dist d c n a b ≤ max (dist d c n a x) (dist d c n b x)
instance (d : List Fr) (c n : Nat) : Decidable (UltraP d c n) := by unfold UltraP; infer_instance
theorem ultra_of_low {d : List Fr} {c n : Nat} (hs : SymOk d n) (h : ∀ a, a < n → ∀ b, b < a → ∀ x, x < n → dist d c n a b ≤ max (dist d c n a x) (dist d c n b x)) : UltraP d c n := by
  intro a ha b hb x hx
  rcases Nat.lt_trichotomy a b with h1 | h1 | h1
  · have := h b hb a h1 x hx
    rw [dist_sym hs ha hb]
    omega
  · subst h1
    rw [dist_self hs ha]
    omega
  · exact h a ha b h1 x hx
/-- P35.4: the answer and the error. -/
def ultraS (n : Int) (d : List Fr) : Bool × Int :=
  match scaledS n d with
  | .error k => (false, k)
  | .ok c => (decide (UltraP d c n.toNat), 0)
end Go.Proofs.YtahgffjkkdbjeaaDoor
namespace Go.Proofs.YtahgffjkkdbjeaaDoor
open Go.RowKit

theorem info_L : (Tryd.prog.info? 2).map (fun i => (i.zero, i.size, i.bytes)) = some (some (.int .i64 0), 1, 8) := by kernel_rfl
theorem push_L {w : World} {ops : Array Oper} {rest : List Oper} {o : Oper} {a : Act} {Q : Exit → Act → World → Prop} (hgd : o.guard = none) (s x : Operand) (ho : o.op = .call { callee := .builtin .append, args := #[s, x], argTypes := #[90, 90] })
    (base : Nat) (v : Value) (l : List Int) (n : Nat) (hn : n = l.length) (hs : a.eval s = v) (hown : w.ownsRow base 2 1 v n (fl encI l)) (B c : Nat) (y : Int) (hx : a.eval x = .slice (some ⟨B, 0, none⟩) 1 c) (hB : Blk w B (encI y).toArray 2) (hl : n < 17592186044416) (hbase : base ≤ w.heap.size)
    (h : ∀ g cap w', w'.ownsRow base 2 1 (.slice (some ⟨g, 0, none⟩) (n + 1) cap) (n + 1) (fl encI (l ++ [y])) → w.grownBy w' v.ownBlock → (v.ownBlock = some g ∨ g = w.heap.size) → g < w'.heap.size → wpList Tryd.prog ops Q rest (a.put o.dst (.slice (some ⟨g, 0, none⟩) (n + 1) cap)) w') : wpList Tryd.prog ops Q (o :: rest) a w := by
  obtain ⟨i0, hi, hz0, hz1, hz2⟩ := info_parts info_L
  refine wpList_append_lies w hgd s x 90 ho base 2 i0 _ 1 8 Tryd.underlying90 hi hz0 hz1 hz2 rfl (by decide) v n (fl encI l) hs hown ⟨B, 0, none⟩ 1 c (encI y) hx (by simp [encI]) (World.news_of_block (cs := (encI y).toArray) (t := 2) (fr := (0, 0)) hB) (by intro u hu; simp [encI] at hu; first | (subst hu; rfl) | (rcases hu with rfl | rfl <;> rfl) | (rcases hu with rfl | rfl | rfl | rfl | rfl <;> rfl)) (by omega) (by unfold maxLen; omega) (by omega) hbase _ rfl ?_
  intro g cap w' h1 h2 h3 h4
  rw [← fl_snoc] at h1
  exact h g cap w' h1 h2 h3 h4
theorem spush_L {w : World} {ops : Array Oper} {o : Oper} {a : Act} {K : Act → World → Prop} {Q : Exit → Act → World → Prop} {E : Prop} (hgd : o.guard = none) (s x : Operand) (ho : o.op = .call { callee := .builtin .append, args := #[s, x], argTypes := #[90, 90] })
    (base : Nat) (v : Value) (l : List Int) (n : Nat) (hn : n = l.length) (hs : a.eval s = v) (hown : w.ownsRow base 2 1 v n (fl encI l)) (B c : Nat) (y : Int) (hx : a.eval x = .slice (some ⟨B, 0, none⟩) 1 c) (hB : Blk w B (encI y).toArray 2) (hl : n < 17592186044416) (hbase : base ≤ w.heap.size)
    (h : ∀ g cap w', w'.ownsRow base 2 1 (.slice (some ⟨g, 0, none⟩) (n + 1) cap) (n + 1) (fl encI (l ++ [y])) → w.grownBy w' v.ownBlock → (v.ownBlock = some g ∨ g = w.heap.size) → g < w'.heap.size → K (a.put o.dst (.slice (some ⟨g, 0, none⟩) (n + 1) cap)) w') : if Region.wanted o (yielded ops a.tmps) = true then Oper.wp Tryd.prog o a w K Q else E := by
  obtain ⟨i0, hi, hz0, hz1, hz2⟩ := info_parts info_L
  refine step_append_lies w hgd s x 90 ho base 2 i0 _ 1 8 Tryd.underlying90 hi hz0 hz1 hz2 rfl (by decide) v n (fl encI l) hs hown ⟨B, 0, none⟩ 1 c (encI y) hx (by simp [encI]) (World.news_of_block (cs := (encI y).toArray) (t := 2) (fr := (0, 0)) hB) (by intro u hu; simp [encI] at hu; first | (subst hu; rfl) | (rcases hu with rfl | rfl <;> rfl) | (rcases hu with rfl | rfl | rfl | rfl | rfl <;> rfl)) (by omega) (by unfold maxLen; omega) (by omega) hbase _ rfl ?_
  intro g cap w' h1 h2 h3 h4
  rw [← fl_snoc] at h1
  exact h g cap w' h1 h2 h3 h4

theorem info_I : (Tryd.prog.info? 3).map (fun i => (i.zero, i.size, i.bytes)) = some (some (.int .i64 0), 1, 8) := by kernel_rfl
theorem push_I {w : World} {ops : Array Oper} {rest : List Oper} {o : Oper} {a : Act} {Q : Exit → Act → World → Prop} (hgd : o.guard = none) (s x : Operand) (ho : o.op = .call { callee := .builtin .append, args := #[s, x], argTypes := #[29, 29] })
    (base : Nat) (v : Value) (l : List Int) (n : Nat) (hn : n = l.length) (hs : a.eval s = v) (hown : w.ownsRow base 3 1 v n (fl encI l)) (B c : Nat) (y : Int) (hx : a.eval x = .slice (some ⟨B, 0, none⟩) 1 c) (hB : Blk w B (encI y).toArray 3) (hl : n < 17592186044416) (hbase : base ≤ w.heap.size)
    (h : ∀ g cap w', w'.ownsRow base 3 1 (.slice (some ⟨g, 0, none⟩) (n + 1) cap) (n + 1) (fl encI (l ++ [y])) → w.grownBy w' v.ownBlock → (v.ownBlock = some g ∨ g = w.heap.size) → g < w'.heap.size → wpList Tryd.prog ops Q rest (a.put o.dst (.slice (some ⟨g, 0, none⟩) (n + 1) cap)) w') : wpList Tryd.prog ops Q (o :: rest) a w := by
  obtain ⟨i0, hi, hz0, hz1, hz2⟩ := info_parts info_I
  refine wpList_append_lies w hgd s x 29 ho base 3 i0 _ 1 8 Tryd.underlying29 hi hz0 hz1 hz2 rfl (by decide) v n (fl encI l) hs hown ⟨B, 0, none⟩ 1 c (encI y) hx (by simp [encI]) (World.news_of_block (cs := (encI y).toArray) (t := 3) (fr := (0, 0)) hB) (by intro u hu; simp [encI] at hu; first | (subst hu; rfl) | (rcases hu with rfl | rfl <;> rfl) | (rcases hu with rfl | rfl | rfl | rfl | rfl <;> rfl)) (by omega) (by unfold maxLen; omega) (by omega) hbase _ rfl ?_
  intro g cap w' h1 h2 h3 h4
  rw [← fl_snoc] at h1
  exact h g cap w' h1 h2 h3 h4
theorem spush_I {w : World} {ops : Array Oper} {o : Oper} {a : Act} {K : Act → World → Prop} {Q : Exit → Act → World → Prop} {E : Prop} (hgd : o.guard = none) (s x : Operand) (ho : o.op = .call { callee := .builtin .append, args := #[s, x], argTypes := #[29, 29] })
    (base : Nat) (v : Value) (l : List Int) (n : Nat) (hn : n = l.length) (hs : a.eval s = v) (hown : w.ownsRow base 3 1 v n (fl encI l)) (B c : Nat) (y : Int) (hx : a.eval x = .slice (some ⟨B, 0, none⟩) 1 c) (hB : Blk w B (encI y).toArray 3) (hl : n < 17592186044416) (hbase : base ≤ w.heap.size)
    (h : ∀ g cap w', w'.ownsRow base 3 1 (.slice (some ⟨g, 0, none⟩) (n + 1) cap) (n + 1) (fl encI (l ++ [y])) → w.grownBy w' v.ownBlock → (v.ownBlock = some g ∨ g = w.heap.size) → g < w'.heap.size → K (a.put o.dst (.slice (some ⟨g, 0, none⟩) (n + 1) cap)) w') : if Region.wanted o (yielded ops a.tmps) = true then Oper.wp Tryd.prog o a w K Q else E := by
  obtain ⟨i0, hi, hz0, hz1, hz2⟩ := info_parts info_I
  refine step_append_lies w hgd s x 29 ho base 3 i0 _ 1 8 Tryd.underlying29 hi hz0 hz1 hz2 rfl (by decide) v n (fl encI l) hs hown ⟨B, 0, none⟩ 1 c (encI y) hx (by simp [encI]) (World.news_of_block (cs := (encI y).toArray) (t := 3) (fr := (0, 0)) hB) (by intro u hu; simp [encI] at hu; first | (subst hu; rfl) | (rcases hu with rfl | rfl <;> rfl) | (rcases hu with rfl | rfl | rfl | rfl | rfl <;> rfl)) (by omega) (by unfold maxLen; omega) (by omega) hbase _ rfl ?_
  intro g cap w' h1 h2 h3 h4
  rw [← fl_snoc] at h1
  exact h g cap w' h1 h2 h3 h4

theorem info_Fr : (Tryd.prog.info? 40).map (fun i => (i.zero, i.size, i.bytes)) = some (some (.agg #[.int .i64 0, .int .i64 0]), 2, 16) := by kernel_rfl
theorem push_Fr {w : World} {ops : Array Oper} {rest : List Oper} {o : Oper} {a : Act} {Q : Exit → Act → World → Prop} (hgd : o.guard = none) (s x : Operand) (ho : o.op = .call { callee := .builtin .append, args := #[s, x], argTypes := #[22, 22] })
    (base : Nat) (v : Value) (l : List Fr) (n : Nat) (hn : n = l.length) (hs : a.eval s = v) (hown : w.ownsRow base 40 2 v n (fl encFr l)) (B c : Nat) (y : Fr) (hx : a.eval x = .slice (some ⟨B, 0, none⟩) 1 c) (hB : Blk w B (encFr y).toArray 40) (hl : n < 8796093022208) (hbase : base ≤ w.heap.size)
    (h : ∀ g cap w', w'.ownsRow base 40 2 (.slice (some ⟨g, 0, none⟩) (n + 1) cap) (n + 1) (fl encFr (l ++ [y])) → w.grownBy w' v.ownBlock → (v.ownBlock = some g ∨ g = w.heap.size) → g < w'.heap.size → wpList Tryd.prog ops Q rest (a.put o.dst (.slice (some ⟨g, 0, none⟩) (n + 1) cap)) w') : wpList Tryd.prog ops Q (o :: rest) a w := by
  obtain ⟨i0, hi, hz0, hz1, hz2⟩ := info_parts info_Fr
  refine wpList_append_lies w hgd s x 22 ho base 40 i0 _ 2 16 Tryd.underlying22 hi hz0 hz1 hz2 rfl (by decide) v n (fl encFr l) hs hown ⟨B, 0, none⟩ 1 c (encFr y) hx (by simp [encFr]) (World.news_of_block (cs := (encFr y).toArray) (t := 40) (fr := (0, 0)) hB) (by intro u hu; simp [encFr] at hu; first | (subst hu; rfl) | (rcases hu with rfl | rfl <;> rfl) | (rcases hu with rfl | rfl | rfl | rfl | rfl <;> rfl)) (by omega) (by unfold maxLen; omega) (by omega) hbase _ rfl ?_
  intro g cap w' h1 h2 h3 h4
  rw [← fl_snoc] at h1
  exact h g cap w' h1 h2 h3 h4
theorem spush_Fr {w : World} {ops : Array Oper} {o : Oper} {a : Act} {K : Act → World → Prop} {Q : Exit → Act → World → Prop} {E : Prop} (hgd : o.guard = none) (s x : Operand) (ho : o.op = .call { callee := .builtin .append, args := #[s, x], argTypes := #[22, 22] })
    (base : Nat) (v : Value) (l : List Fr) (n : Nat) (hn : n = l.length) (hs : a.eval s = v) (hown : w.ownsRow base 40 2 v n (fl encFr l)) (B c : Nat) (y : Fr) (hx : a.eval x = .slice (some ⟨B, 0, none⟩) 1 c) (hB : Blk w B (encFr y).toArray 40) (hl : n < 8796093022208) (hbase : base ≤ w.heap.size)
    (h : ∀ g cap w', w'.ownsRow base 40 2 (.slice (some ⟨g, 0, none⟩) (n + 1) cap) (n + 1) (fl encFr (l ++ [y])) → w.grownBy w' v.ownBlock → (v.ownBlock = some g ∨ g = w.heap.size) → g < w'.heap.size → K (a.put o.dst (.slice (some ⟨g, 0, none⟩) (n + 1) cap)) w') : if Region.wanted o (yielded ops a.tmps) = true then Oper.wp Tryd.prog o a w K Q else E := by
  obtain ⟨i0, hi, hz0, hz1, hz2⟩ := info_parts info_Fr
  refine step_append_lies w hgd s x 22 ho base 40 i0 _ 2 16 Tryd.underlying22 hi hz0 hz1 hz2 rfl (by decide) v n (fl encFr l) hs hown ⟨B, 0, none⟩ 1 c (encFr y) hx (by simp [encFr]) (World.news_of_block (cs := (encFr y).toArray) (t := 40) (fr := (0, 0)) hB) (by intro u hu; simp [encFr] at hu; first | (subst hu; rfl) | (rcases hu with rfl | rfl <;> rfl) | (rcases hu with rfl | rfl | rfl | rfl | rfl <;> rfl)) (by omega) (by unfold maxLen; omega) (by omega) hbase _ rfl ?_
  intro g cap w' h1 h2 h3 h4
  rw [← fl_snoc] at h1
  exact h g cap w' h1 h2 h3 h4

theorem info_Mg : (Tryd.prog.info? 42).map (fun i => (i.zero, i.size, i.bytes)) = some (some (.agg #[.int .i64 0, .int .i64 0, .int .i64 0, .int .i64 0, .int .i64 0]), 5, 40) := by kernel_rfl
theorem push_Mg {w : World} {ops : Array Oper} {rest : List Oper} {o : Oper} {a : Act} {Q : Exit → Act → World → Prop} (hgd : o.guard = none) (s x : Operand) (ho : o.op = .call { callee := .builtin .append, args := #[s, x], argTypes := #[36, 36] })
    (base : Nat) (v : Value) (l : List Mg) (n : Nat) (hn : n = l.length) (hs : a.eval s = v) (hown : w.ownsRow base 42 5 v n (fl encMg l)) (B c : Nat) (y : Mg) (hx : a.eval x = .slice (some ⟨B, 0, none⟩) 1 c) (hB : Blk w B (encMg y).toArray 42) (hl : n < 3518437208883) (hbase : base ≤ w.heap.size)
    (h : ∀ g cap w', w'.ownsRow base 42 5 (.slice (some ⟨g, 0, none⟩) (n + 1) cap) (n + 1) (fl encMg (l ++ [y])) → w.grownBy w' v.ownBlock → (v.ownBlock = some g ∨ g = w.heap.size) → g < w'.heap.size → wpList Tryd.prog ops Q rest (a.put o.dst (.slice (some ⟨g, 0, none⟩) (n + 1) cap)) w') : wpList Tryd.prog ops Q (o :: rest) a w := by
  obtain ⟨i0, hi, hz0, hz1, hz2⟩ := info_parts info_Mg
  refine wpList_append_lies w hgd s x 36 ho base 42 i0 _ 5 40 Tryd.underlying36 hi hz0 hz1 hz2 rfl (by decide) v n (fl encMg l) hs hown ⟨B, 0, none⟩ 1 c (encMg y) hx (by simp [encMg]) (World.news_of_block (cs := (encMg y).toArray) (t := 42) (fr := (0, 0)) hB) (by intro u hu; simp [encMg] at hu; first | (subst hu; rfl) | (rcases hu with rfl | rfl <;> rfl) | (rcases hu with rfl | rfl | rfl | rfl | rfl <;> rfl)) (by omega) (by unfold maxLen; omega) (by omega) hbase _ rfl ?_
  intro g cap w' h1 h2 h3 h4
  rw [← fl_snoc] at h1
  exact h g cap w' h1 h2 h3 h4
theorem spush_Mg {w : World} {ops : Array Oper} {o : Oper} {a : Act} {K : Act → World → Prop} {Q : Exit → Act → World → Prop} {E : Prop} (hgd : o.guard = none) (s x : Operand) (ho : o.op = .call { callee := .builtin .append, args := #[s, x], argTypes := #[36, 36] })
    (base : Nat) (v : Value) (l : List Mg) (n : Nat) (hn : n = l.length) (hs : a.eval s = v) (hown : w.ownsRow base 42 5 v n (fl encMg l)) (B c : Nat) (y : Mg) (hx : a.eval x = .slice (some ⟨B, 0, none⟩) 1 c) (hB : Blk w B (encMg y).toArray 42) (hl : n < 3518437208883) (hbase : base ≤ w.heap.size)
    (h : ∀ g cap w', w'.ownsRow base 42 5 (.slice (some ⟨g, 0, none⟩) (n + 1) cap) (n + 1) (fl encMg (l ++ [y])) → w.grownBy w' v.ownBlock → (v.ownBlock = some g ∨ g = w.heap.size) → g < w'.heap.size → K (a.put o.dst (.slice (some ⟨g, 0, none⟩) (n + 1) cap)) w') : if Region.wanted o (yielded ops a.tmps) = true then Oper.wp Tryd.prog o a w K Q else E := by
  obtain ⟨i0, hi, hz0, hz1, hz2⟩ := info_parts info_Mg
  refine step_append_lies w hgd s x 36 ho base 42 i0 _ 5 40 Tryd.underlying36 hi hz0 hz1 hz2 rfl (by decide) v n (fl encMg l) hs hown ⟨B, 0, none⟩ 1 c (encMg y) hx (by simp [encMg]) (World.news_of_block (cs := (encMg y).toArray) (t := 42) (fr := (0, 0)) hB) (by intro u hu; simp [encMg] at hu; first | (subst hu; rfl) | (rcases hu with rfl | rfl <;> rfl) | (rcases hu with rfl | rfl | rfl | rfl | rfl <;> rfl)) (by omega) (by unfold maxLen; omega) (by omega) hbase _ rfl ?_
  intro g cap w' h1 h2 h3 h4
  rw [← fl_snoc] at h1
  exact h g cap w' h1 h2 h3 h4

theorem info_Nd : (Tryd.prog.info? 66).map (fun i => (i.zero, i.size, i.bytes)) = some (some (.agg #[.int .i64 0, .string ByteArray.empty]), 2, 24) := by kernel_rfl
theorem push_Nd {w : World} {ops : Array Oper} {rest : List Oper} {o : Oper} {a : Act} {Q : Exit → Act → World → Prop} (hgd : o.guard = none) (s x : Operand) (ho : o.op = .call { callee := .builtin .append, args := #[s, x], argTypes := #[60, 60] })
    (base : Nat) (v : Value) (l : List Nd) (n : Nat) (hn : n = l.length) (hs : a.eval s = v) (hown : w.ownsRow base 66 2 v n (fl encNd l)) (B c : Nat) (y : Nd) (hx : a.eval x = .slice (some ⟨B, 0, none⟩) 1 c) (hB : Blk w B (encNd y).toArray 66) (hl : n < 5864062014805) (hbase : base ≤ w.heap.size)
    (h : ∀ g cap w', w'.ownsRow base 66 2 (.slice (some ⟨g, 0, none⟩) (n + 1) cap) (n + 1) (fl encNd (l ++ [y])) → w.grownBy w' v.ownBlock → (v.ownBlock = some g ∨ g = w.heap.size) → g < w'.heap.size → wpList Tryd.prog ops Q rest (a.put o.dst (.slice (some ⟨g, 0, none⟩) (n + 1) cap)) w') : wpList Tryd.prog ops Q (o :: rest) a w := by
  obtain ⟨i0, hi, hz0, hz1, hz2⟩ := info_parts info_Nd
  refine wpList_append_lies w hgd s x 60 ho base 66 i0 _ 2 24 Tryd.underlying60 hi hz0 hz1 hz2 rfl (by decide) v n (fl encNd l) hs hown ⟨B, 0, none⟩ 1 c (encNd y) hx (by simp [encNd]) (World.news_of_block (cs := (encNd y).toArray) (t := 66) (fr := (0, 0)) hB) (by intro u hu; simp [encNd] at hu; first | (subst hu; rfl) | (rcases hu with rfl | rfl <;> rfl) | (rcases hu with rfl | rfl | rfl | rfl | rfl <;> rfl)) (by omega) (by unfold maxLen; omega) (by omega) hbase _ rfl ?_
  intro g cap w' h1 h2 h3 h4
  rw [← fl_snoc] at h1
  exact h g cap w' h1 h2 h3 h4
theorem spush_Nd {w : World} {ops : Array Oper} {o : Oper} {a : Act} {K : Act → World → Prop} {Q : Exit → Act → World → Prop} {E : Prop} (hgd : o.guard = none) (s x : Operand) (ho : o.op = .call { callee := .builtin .append, args := #[s, x], argTypes := #[60, 60] })
    (base : Nat) (v : Value) (l : List Nd) (n : Nat) (hn : n = l.length) (hs : a.eval s = v) (hown : w.ownsRow base 66 2 v n (fl encNd l)) (B c : Nat) (y : Nd) (hx : a.eval x = .slice (some ⟨B, 0, none⟩) 1 c) (hB : Blk w B (encNd y).toArray 66) (hl : n < 5864062014805) (hbase : base ≤ w.heap.size)
    (h : ∀ g cap w', w'.ownsRow base 66 2 (.slice (some ⟨g, 0, none⟩) (n + 1) cap) (n + 1) (fl encNd (l ++ [y])) → w.grownBy w' v.ownBlock → (v.ownBlock = some g ∨ g = w.heap.size) → g < w'.heap.size → K (a.put o.dst (.slice (some ⟨g, 0, none⟩) (n + 1) cap)) w') : if Region.wanted o (yielded ops a.tmps) = true then Oper.wp Tryd.prog o a w K Q else E := by
  obtain ⟨i0, hi, hz0, hz1, hz2⟩ := info_parts info_Nd
  refine step_append_lies w hgd s x 60 ho base 66 i0 _ 2 24 Tryd.underlying60 hi hz0 hz1 hz2 rfl (by decide) v n (fl encNd l) hs hown ⟨B, 0, none⟩ 1 c (encNd y) hx (by simp [encNd]) (World.news_of_block (cs := (encNd y).toArray) (t := 66) (fr := (0, 0)) hB) (by intro u hu; simp [encNd] at hu; first | (subst hu; rfl) | (rcases hu with rfl | rfl <;> rfl) | (rcases hu with rfl | rfl | rfl | rfl | rfl <;> rfl)) (by omega) (by unfold maxLen; omega) (by omega) hbase _ rfl ?_
  intro g cap w' h1 h2 h3 h4
  rw [← fl_snoc] at h1
  exact h g cap w' h1 h2 h3 h4

theorem info_R : (Tryd.prog.info? 29).map (fun i => (i.zero, i.size, i.bytes)) = some (some (.slice none 0 0), 1, 24) := by kernel_rfl
theorem push_R {w : World} {ops : Array Oper} {rest : List Oper} {o : Oper} {a : Act} {Q : Exit → Act → World → Prop} (hgd : o.guard = none) (s x : Operand) (ho : o.op = .call { callee := .builtin .append, args := #[s, x], argTypes := #[49, 49] })
    (base : Nat) (v : Value) (l : List Rw) (n : Nat) (hn : n = l.length) (hs : a.eval s = v) (hown : w.ownsRow base 29 1 v n (fl encR l)) (B c : Nat) (y : Rw) (hx : a.eval x = .slice (some ⟨B, 0, none⟩) 1 c) (hB : Blk w B (encR y).toArray 29) (hl : n < 5864062014805) (hbase : base ≤ w.heap.size)
    (h : ∀ g cap w', w'.ownsRow base 29 1 (.slice (some ⟨g, 0, none⟩) (n + 1) cap) (n + 1) (fl encR (l ++ [y])) → w.grownBy w' v.ownBlock → (v.ownBlock = some g ∨ g = w.heap.size) → g < w'.heap.size → wpList Tryd.prog ops Q rest (a.put o.dst (.slice (some ⟨g, 0, none⟩) (n + 1) cap)) w') : wpList Tryd.prog ops Q (o :: rest) a w := by
  obtain ⟨i0, hi, hz0, hz1, hz2⟩ := info_parts info_R
  refine wpList_append_lies w hgd s x 49 ho base 29 i0 _ 1 24 Tryd.underlying49 hi hz0 hz1 hz2 rfl (by decide) v n (fl encR l) hs hown ⟨B, 0, none⟩ 1 c (encR y) hx (by simp [encR]) (World.news_of_block (cs := (encR y).toArray) (t := 29) (fr := (0, 0)) hB) (by intro u hu; simp [encR] at hu; first | (subst hu; rfl) | (rcases hu with rfl | rfl <;> rfl) | (rcases hu with rfl | rfl | rfl | rfl | rfl <;> rfl)) (by omega) (by unfold maxLen; omega) (by omega) hbase _ rfl ?_
  intro g cap w' h1 h2 h3 h4
  rw [← fl_snoc] at h1
  exact h g cap w' h1 h2 h3 h4
theorem spush_R {w : World} {ops : Array Oper} {o : Oper} {a : Act} {K : Act → World → Prop} {Q : Exit → Act → World → Prop} {E : Prop} (hgd : o.guard = none) (s x : Operand) (ho : o.op = .call { callee := .builtin .append, args := #[s, x], argTypes := #[49, 49] })
    (base : Nat) (v : Value) (l : List Rw) (n : Nat) (hn : n = l.length) (hs : a.eval s = v) (hown : w.ownsRow base 29 1 v n (fl encR l)) (B c : Nat) (y : Rw) (hx : a.eval x = .slice (some ⟨B, 0, none⟩) 1 c) (hB : Blk w B (encR y).toArray 29) (hl : n < 5864062014805) (hbase : base ≤ w.heap.size)
    (h : ∀ g cap w', w'.ownsRow base 29 1 (.slice (some ⟨g, 0, none⟩) (n + 1) cap) (n + 1) (fl encR (l ++ [y])) → w.grownBy w' v.ownBlock → (v.ownBlock = some g ∨ g = w.heap.size) → g < w'.heap.size → K (a.put o.dst (.slice (some ⟨g, 0, none⟩) (n + 1) cap)) w') : if Region.wanted o (yielded ops a.tmps) = true then Oper.wp Tryd.prog o a w K Q else E := by
  obtain ⟨i0, hi, hz0, hz1, hz2⟩ := info_parts info_R
  refine step_append_lies w hgd s x 49 ho base 29 i0 _ 1 24 Tryd.underlying49 hi hz0 hz1 hz2 rfl (by decide) v n (fl encR l) hs hown ⟨B, 0, none⟩ 1 c (encR y) hx (by simp [encR]) (World.news_of_block (cs := (encR y).toArray) (t := 29) (fr := (0, 0)) hB) (by intro u hu; simp [encR] at hu; first | (subst hu; rfl) | (rcases hu with rfl | rfl <;> rfl) | (rcases hu with rfl | rfl | rfl | rfl | rfl <;> rfl)) (by omega) (by unfold maxLen; omega) (by omega) hbase _ rfl ?_
  intro g cap w' h1 h2 h3 h4
  rw [← fl_snoc] at h1
  exact h g cap w' h1 h2 h3 h4

theorem info_S : (Tryd.prog.info? 9).map (fun i => (i.zero, i.size, i.bytes)) = some (some (.string ByteArray.empty), 1, 16) := by kernel_rfl
theorem push_S {w : World} {ops : Array Oper} {rest : List Oper} {o : Oper} {a : Act} {Q : Exit → Act → World → Prop} (hgd : o.guard = none) (s x : Operand) (ho : o.op = .call { callee := .builtin .append, args := #[s, x], argTypes := #[58, 58] })
    (base : Nat) (v : Value) (l : List ByteArray) (n : Nat) (hn : n = l.length) (hs : a.eval s = v) (hown : w.ownsRow base 9 1 v n (fl encS l)) (B c : Nat) (y : ByteArray) (hx : a.eval x = .slice (some ⟨B, 0, none⟩) 1 c) (hB : Blk w B (encS y).toArray 9) (hl : n < 8796093022208) (hbase : base ≤ w.heap.size)
    (h : ∀ g cap w', w'.ownsRow base 9 1 (.slice (some ⟨g, 0, none⟩) (n + 1) cap) (n + 1) (fl encS (l ++ [y])) → w.grownBy w' v.ownBlock → (v.ownBlock = some g ∨ g = w.heap.size) → g < w'.heap.size → wpList Tryd.prog ops Q rest (a.put o.dst (.slice (some ⟨g, 0, none⟩) (n + 1) cap)) w') : wpList Tryd.prog ops Q (o :: rest) a w := by
  obtain ⟨i0, hi, hz0, hz1, hz2⟩ := info_parts info_S
  refine wpList_append_lies w hgd s x 58 ho base 9 i0 _ 1 16 Tryd.underlying58 hi hz0 hz1 hz2 rfl (by decide) v n (fl encS l) hs hown ⟨B, 0, none⟩ 1 c (encS y) hx (by simp [encS]) (World.news_of_block (cs := (encS y).toArray) (t := 9) (fr := (0, 0)) hB) (by intro u hu; simp [encS] at hu; first | (subst hu; rfl) | (rcases hu with rfl | rfl <;> rfl) | (rcases hu with rfl | rfl | rfl | rfl | rfl <;> rfl)) (by omega) (by unfold maxLen; omega) (by omega) hbase _ rfl ?_
  intro g cap w' h1 h2 h3 h4
  rw [← fl_snoc] at h1
  exact h g cap w' h1 h2 h3 h4
theorem spush_S {w : World} {ops : Array Oper} {o : Oper} {a : Act} {K : Act → World → Prop} {Q : Exit → Act → World → Prop} {E : Prop} (hgd : o.guard = none) (s x : Operand) (ho : o.op = .call { callee := .builtin .append, args := #[s, x], argTypes := #[58, 58] })
    (base : Nat) (v : Value) (l : List ByteArray) (n : Nat) (hn : n = l.length) (hs : a.eval s = v) (hown : w.ownsRow base 9 1 v n (fl encS l)) (B c : Nat) (y : ByteArray) (hx : a.eval x = .slice (some ⟨B, 0, none⟩) 1 c) (hB : Blk w B (encS y).toArray 9) (hl : n < 8796093022208) (hbase : base ≤ w.heap.size)
    (h : ∀ g cap w', w'.ownsRow base 9 1 (.slice (some ⟨g, 0, none⟩) (n + 1) cap) (n + 1) (fl encS (l ++ [y])) → w.grownBy w' v.ownBlock → (v.ownBlock = some g ∨ g = w.heap.size) → g < w'.heap.size → K (a.put o.dst (.slice (some ⟨g, 0, none⟩) (n + 1) cap)) w') : if Region.wanted o (yielded ops a.tmps) = true then Oper.wp Tryd.prog o a w K Q else E := by
  obtain ⟨i0, hi, hz0, hz1, hz2⟩ := info_parts info_S
  refine step_append_lies w hgd s x 58 ho base 9 i0 _ 1 16 Tryd.underlying58 hi hz0 hz1 hz2 rfl (by decide) v n (fl encS l) hs hown ⟨B, 0, none⟩ 1 c (encS y) hx (by simp [encS]) (World.news_of_block (cs := (encS y).toArray) (t := 9) (fr := (0, 0)) hB) (by intro u hu; simp [encS] at hu; first | (subst hu; rfl) | (rcases hu with rfl | rfl <;> rfl) | (rcases hu with rfl | rfl | rfl | rfl | rfl <;> rfl)) (by omega) (by unfold maxLen; omega) (by omega) hbase _ rfl ?_
  intro g cap w' h1 h2 h3 h4
  rw [← fl_snoc] at h1
  exact h g cap w' h1 h2 h3 h4

end Go.Proofs.YtahgffjkkdbjeaaDoor
namespace Go.Proofs.YtahgffjkkdbjeaaDoor
open Go.RowKit
section
variable {α : Type} {enc : α → List Value}
theorem run_append_nilsrc {P : Program} (w : World) {base : Nat} {t ty e : TypeId} {i : TypeInfo} {k : Nat} (ht : P.underlying t = some (.slice e)) (hi : P.info? e = some i) {v : Value} {n : Nat} {xs : List Value} (hown : w.ownsRow base e k v n xs) (c : Nat) :
    (Builtin.append_ #[t, t] ty #[v, .slice none 0 c]).run P w = .ok v w := by
  rcases hown.2 with ⟨rfl, rfl⟩ | ⟨g, cap, cur, rfl, _, _, hnc, _⟩
  · simp [Builtin.append_, run_underlying ht, sizeOf, typeInfo, hi, Builtin.lenOf, Builtin.firstCells]
  · simp [Builtin.append_, run_underlying ht, sizeOf, typeInfo, hi, Builtin.lenOf, Builtin.firstCells, hnc, storeCells]
/-- One append of a whole list. -/
theorem run_pushs {w : World} {k bytes : Nat} (hk : ∀ x, (enc x).length = k) (hk0 : 0 < k) (h1 : ∀ x, ∀ u ∈ enc x, u.oneCell' = true) {base : Nat} {t ty e : TypeId} {z : Value} (ht : Tryd.prog.underlying t = some (.slice e))
    (hinfo : (Tryd.prog.info? e).map (fun i => (i.zero, i.size, i.bytes)) = some (some z, k, bytes)) (hzs : z.cells.size = k) (v : Value) (l : List α) (n : Nat) (hn : n = l.length) (hown : w.ownsRow base e k v n (fl enc l))
    (A : Option Addr) (m c : Nat) (l2 : List α) (hm : m = l2.length) (hA : Rd w A (fl enc l2)) (hA0 : A = none → m = 0) (hlen : n + m < 1048576) (hbytes : bytes ≤ 1048576) (hbase : base ≤ w.heap.size) :
    ∃ v' w', (Builtin.append_ #[t, t] ty #[v, .slice A m c]).run Tryd.prog w = .ok v' w' ∧ w'.ownsRow base e k v' (n + m) (fl enc (l ++ l2)) ∧ w.grownBy w' v.ownBlock ∧ (v'.ownBlock = v.ownBlock ∨ v'.ownBlock = some w.heap.size) := by
  obtain ⟨i0, hi, hz0, hz1, hz2⟩ := info_parts hinfo
  rcases A with _ | ad
  · have h0 := hA0 rfl
    subst h0
    have : l2 = [] := List.eq_nil_of_length_eq_zero hm.symm
    subst this
    refine ⟨v, w, run_append_nilsrc w ht hi hown c, ?_, World.grownBy.refl w _, .inl rfl⟩
    rw [List.append_nil]; exact hown
  · have hcells : ∀ j u, (fl enc l2)[j]? = some u → w.cell? (ad.add j) = some u := by
      intro j u hu
      have hj : j < (fl enc l2).length := by
        rcases Nat.lt_or_ge j (fl enc l2).length with h | h
        · exact h
        · rw [List.getElem?_eq_none h] at hu; cases hu
      obtain ⟨b, off, e1, _, hc⟩ := hA (by omega)
      have e1 := Option.some.inj e1
      have h7 := hc j hj
      rw [List.getD_eq_getElem?_getD, hu] at h7
      rw [e1]
      by_cases ej : j = 0
      · subst ej; simpa [Addr.add] using h7
      · simpa [Addr.add, ej] using h7
    have hmul : (n + m) * bytes ≤ 1048576 * 1048576 := Nat.mul_le_mul (Nat.le_of_lt hlen) hbytes
    obtain ⟨v', w', hrun, h2, h3, _, h5⟩ := run_append_own_at (P := Tryd.prog) w base t ty e i0 z k bytes ht hi hz0 hz1 hz2 hzs hk0 v n (fl enc l) hown ad m c (fl enc l2) (by rw [fl_length hk, hm]) hcells
      (fun u hu => by
        obtain ⟨x, _, hx⟩ := List.mem_flatMap.1 hu
        exact h1 x u hx) (by unfold maxLen; omega) (by omega) hbase
    exact ⟨v', w', hrun, by rw [fl_append]; exact h2, h3, h5⟩
theorem wp_pushs {w : World} {k bytes : Nat} {o : Oper} {a : Act} {K : Act → World → Prop} {Q : Exit → Act → World → Prop} (hk : ∀ x, (enc x).length = k) (hk0 : 0 < k) (h1 : ∀ x, ∀ u ∈ enc x, u.oneCell' = true) {base : Nat} {t e : TypeId} {z : Value} (ht : Tryd.prog.underlying t = some (.slice e))
    (hinfo : (Tryd.prog.info? e).map (fun i => (i.zero, i.size, i.bytes)) = some (some z, k, bytes)) (hzs : z.cells.size = k) (s x : Operand) (ho : o.op = .call { callee := .builtin .append, args := #[s, x], argTypes := #[t, t] })
    (v : Value) (l : List α) (n : Nat) (hn : n = l.length) (hs : a.eval s = v) (hown : w.ownsRow base e k v n (fl enc l))
    (A : Option Addr) (m c : Nat) (l2 : List α) (hm : m = l2.length) (hx : a.eval x = .slice A m c) (hA : Rd w A (fl enc l2)) (hA0 : A = none → m = 0) (hlen : n + m < 1048576) (hbytes : bytes ≤ 1048576) (hbase : base ≤ w.heap.size)
    (h : ∀ v' w', w'.ownsRow base e k v' (n + m) (fl enc (l ++ l2)) → w.grownBy w' v.ownBlock → (v'.ownBlock = v.ownBlock ∨ v'.ownBlock = some w.heap.size) → K (a.put o.dst v') w') : o.wp Tryd.prog a w K Q := by
  obtain ⟨v', w', hrun, h2, h3, h4⟩ := run_pushs (ty := o.type) hk hk0 h1 ht hinfo hzs v l n hn hown A m c l2 hm hA hA0 hlen hbytes hbase
  unfold Oper.wp execOp
  simp only [ho, resolve, invoke, builtin, Sem.run_bind, Sem.run_pure, Result.andThen_ok, List.map_toArray, List.map_cons, List.map_nil, hs, hx, hrun]
  exact h v' w' h2 h3 h4
theorem wpList_pushs {w : World} {k bytes : Nat} {ops : Array Oper} {rest : List Oper} {o : Oper} {a : Act} {Q : Exit → Act → World → Prop} (hgd : o.guard = none) (hk : ∀ x, (enc x).length = k) (hk0 : 0 < k) (h1 : ∀ x, ∀ u ∈ enc x, u.oneCell' = true) {base : Nat} {t e : TypeId} {z : Value} (ht : Tryd.prog.underlying t = some (.slice e))
    (hinfo : (Tryd.prog.info? e).map (fun i => (i.zero, i.size, i.bytes)) = some (some z, k, bytes)) (hzs : z.cells.size = k) (s x : Operand) (ho : o.op = .call { callee := .builtin .append, args := #[s, x], argTypes := #[t, t] })
    (v : Value) (l : List α) (n : Nat) (hn : n = l.length) (hs : a.eval s = v) (hown : w.ownsRow base e k v n (fl enc l))
    (A : Option Addr) (m c : Nat) (l2 : List α) (hm : m = l2.length) (hx : a.eval x = .slice A m c) (hA : Rd w A (fl enc l2)) (hA0 : A = none → m = 0) (hlen : n + m < 1048576) (hbytes : bytes ≤ 1048576) (hbase : base ≤ w.heap.size)
    (h : ∀ v' w', w'.ownsRow base e k v' (n + m) (fl enc (l ++ l2)) → w.grownBy w' v.ownBlock → (v'.ownBlock = v.ownBlock ∨ v'.ownBlock = some w.heap.size) → wpList Tryd.prog ops Q rest (a.put o.dst v') w') : wpList Tryd.prog ops Q (o :: rest) a w :=
  wpList_plain hgd fun _ hK => wp_pushs hk hk0 h1 ht hinfo hzs s x ho v l n hn hs hown A m c l2 hm hx hA hA0 hlen hbytes hbase fun v' w' h2 h3 h4 => hK _ _ (h v' w' h2 h3 h4)
end
end Go.Proofs.YtahgffjkkdbjeaaDoor
namespace Go.Proofs.YtahgffjkkdbjeaaDoor
def ltK (K : Nat → Nat) (x y : Nat) : Prop := K x < K y ∨ (K x = K y ∧ x < y)
theorem ltK_trans {K : Nat → Nat} {x y z : Nat} (h : ltK K x y) (k : ltK K y z) : ltK K x z := by unfold ltK at *; omega
def cmp3 (a b : Nat) : Int := if a < b then -1 else if b < a then 1 else 0
theorem cmp3_lt (a b : Nat) : decide (cmp3 a b < 0) = decide (a < b) := by
  unfold cmp3
  (repeat' split) <;> simp <;> omega
def Srt (K : Nat → Nat) (f : Nat → Nat) (a b : Nat) : Prop := ∀ p q, a ≤ p → p < q → q < b → ltK K (f p) (f q)
def Same (f f' : Nat → Nat) (a b : Nat) : Prop := (∀ p, ¬ (a ≤ p ∧ p < b) → f' p = f p) ∧ ∀ v, (∃ p, (a ≤ p ∧ p < b) ∧ f' p = v) ↔ ∃ p, (a ≤ p ∧ p < b) ∧ f p = v
theorem Same.refl (f : Nat → Nat) (a b : Nat) : Same f f a b := ⟨fun _ _ => rfl, fun _ => Iff.rfl⟩
theorem Same.trans {f g h : Nat → Nat} {a b : Nat} (h1 : Same f g a b) (h2 : Same g h a b) : Same f h a b := ⟨fun p hp => (h2.1 p hp).trans (h1.1 p hp), fun v => (h2.2 v).trans (h1.2 v)⟩
/-- What is the same within a part is the same in the whole. -/
theorem Same.wide {f g : Nat → Nat} {a b a' b' : Nat} (h : Same f g a b) (ha : a' ≤ a) (hb : b ≤ b') : Same f g a' b' := by
  refine ⟨fun p hp => h.1 p (by omega), fun v => ⟨?_, ?_⟩⟩
  · rintro ⟨p, hp, rfl⟩
    by_cases e : a ≤ p ∧ p < b
    · obtain ⟨q, hq, hv⟩ := (h.2 _).1 ⟨p, e, rfl⟩
      exact ⟨q, by omega, hv⟩
    · exact ⟨p, hp, (h.1 p e).symm⟩
  · rintro ⟨p, hp, rfl⟩
    by_cases e : a ≤ p ∧ p < b
    · obtain ⟨q, hq, hv⟩ := (h.2 _).2 ⟨p, e, rfl⟩
      exact ⟨q, by omega, hv⟩
    · exact ⟨p, hp, h.1 p e⟩

/-- An insertion: the element that moves is at j; it comes of place i. -/
structure InsInv (K f fj : Nat → Nat) (a i j : Nat) : Prop where
  rng : a ≤ j ∧ j ≤ i
  out : ∀ p, ¬ (a ≤ p ∧ p ≤ i) → fj p = f p
  src : ∀ p, a ≤ p → p ≤ i → p ≠ j → ∃ q, a ≤ q ∧ q < i ∧ fj p = f q
  all : ∀ q, a ≤ q → q < i → ∃ p, a ≤ p ∧ p ≤ i ∧ p ≠ j ∧ fj p = f q
  mv : fj j = f i
  srt : ∀ p q, a ≤ p → p < q → q ≤ i → p ≠ j → q ≠ j → ltK K (fj p) (fj q)
  up : ∀ q, j < q → q ≤ i → ltK K (f i) (fj q)
/-- The first i places are sorted. -/
structure OutInv (K f fi : Nat → Nat) (a i : Nat) : Prop where
  out : ∀ p, ¬ (a ≤ p ∧ p < i) → fi p = f p
  src : ∀ p, a ≤ p → p < i → ∃ q, a ≤ q ∧ q < i ∧ fi p = f q
  all : ∀ q, a ≤ q → q < i → ∃ p, a ≤ p ∧ p < i ∧ fi p = f q
  srt : Srt K fi a i
theorem OutInv.start (K f : Nat → Nat) (a : Nat) : OutInv K f f a (a + 1) :=
  ⟨fun _ _ => rfl, fun p h1 h2 => ⟨p, h1, h2, rfl⟩, fun p h1 h2 => ⟨p, h1, h2, rfl⟩, fun p q h1 h2 h3 => by omega⟩
theorem OutInv.same {K f fi : Nat → Nat} {a i : Nat} (h : OutInv K f fi a i) : Same f fi a i :=
  ⟨h.out, fun v => ⟨fun ⟨p, hp, hv⟩ => let ⟨q, h1, h2, h3⟩ := h.src p hp.1 hp.2; ⟨q, ⟨h1, h2⟩, h3.symm.trans hv⟩, fun ⟨p, hp, hv⟩ => let ⟨q, h1, h2, h3⟩ := h.all p hp.1 hp.2; ⟨q, ⟨h1, h2⟩, h3.trans hv⟩⟩⟩
theorem InsInv.start {K f fi : Nat → Nat} {a i : Nat} (h : OutInv K f fi a i) (ha : a ≤ i) : InsInv K f fi a i i where
  rng := ⟨ha, Nat.le_refl _⟩
  out p hp := h.out p (by omega)
  src p h1 h2 h3 := h.src p h1 (by omega)
  all q h1 h2 := let ⟨p, a1, a2, a3⟩ := h.all q h1 h2; ⟨p, a1, by omega, by omega, a3⟩
  mv := h.out i (by omega)
  srt p q h1 h2 h3 h4 h5 := h.srt p q h1 h2 (by omega)
  up q h1 h2 := by omega
def swp1 (f : Nat → Nat) (j : Nat) : Nat → Nat := fun p => if p = j - 1 then f j else if p = j then f (j - 1) else f p
theorem InsInv.swap {K f fj : Nat → Nat} {a i j : Nat} (h : InsInv K f fj a i j) (ha : a < j) (hk : K (f i) < K (fj (j - 1))) : InsInv K f (swp1 fj j) a i (j - 1) := by
  have hr := h.rng
  refine ⟨by omega, fun p hp => ?_, fun p h1 h2 h3 => ?_, fun q h1 h2 => ?_, ?_, fun p q h1 h2 h3 h4 h5 => ?_, fun q h1 h2 => ?_⟩
  · unfold swp1
    rw [if_neg (by omega), if_neg (by omega)]
    exact h.out p hp
  · unfold swp1
    rw [if_neg h3]
    by_cases e : p = j
    · rw [if_pos e]
      exact h.src (j - 1) (by omega) (by omega) (by omega)
    · rw [if_neg e]
      exact h.src p h1 h2 e
  · obtain ⟨p, a1, a2, a3, a4⟩ := h.all q h1 h2
    by_cases e : p = j - 1
    · exact ⟨j, by omega, by omega, by omega, by unfold swp1; rw [if_neg (by omega), if_pos rfl, ← e]; exact a4⟩
    · exact ⟨p, a1, a2, e, by unfold swp1; rw [if_neg e, if_neg a3]; exact a4⟩
  · unfold swp1
    rw [if_pos rfl]
    exact h.mv
  · unfold swp1
    rw [if_neg h4, if_neg h5]
    by_cases e1 : p = j
    · rw [if_pos e1, if_neg (by omega)]
      exact h.srt (j - 1) q (by omega) (by omega) h3 (by omega) (by omega)
    · rw [if_neg e1]
      by_cases e2 : q = j
      · rw [if_pos e2]
        exact h.srt p (j - 1) h1 (by omega) (by omega) e1 (by omega)
      · rw [if_neg e2]
        exact h.srt p q h1 h2 h3 e1 e2
  · unfold swp1
    rw [if_neg (by omega)]
    by_cases e : q = j
    · rw [if_pos e]
      exact .inl hk
    · rw [if_neg e]
      exact h.up q (by omega) h2
theorem InsInv.done {K f fj : Nat → Nat} {a i j : Nat} (h : InsInv K f fj a i j) (ht : ∀ q, a ≤ q → q < i → K (f q) = K (f i) → f q < f i) (hk : j = a ∨ K (fj (j - 1)) ≤ K (f i)) : OutInv K f fj a (i + 1) := by
  have hr := h.rng
  have low : ∀ p, a ≤ p → p < j → ltK K (fj p) (f i) := by
    intro p h1 h2
    have hj : ltK K (fj (j - 1)) (f i) := by
      rcases hk with hk | hk
      · omega
      · obtain ⟨q, b1, b2, b3⟩ := h.src (j - 1) (by omega) (by omega) (by omega)
        unfold ltK
        rcases Nat.lt_or_ge (K (fj (j - 1))) (K (f i)) with e | e
        · exact .inl e
        · have e2 : K (fj (j - 1)) = K (f i) := by omega
          exact .inr ⟨e2, by rw [b3]; exact ht q b1 b2 (by rw [← b3]; exact e2)⟩
    by_cases e : p = j - 1
    · rw [e]; exact hj
    · exact ltK_trans (h.srt p (j - 1) h1 (by omega) (by omega) (by omega) (by omega)) hj
  refine ⟨fun p hp => h.out p (by omega), fun p h1 h2 => ?_, fun q h1 h2 => ?_, fun p q h1 h2 h3 => ?_⟩
  · by_cases e : p = j
    · exact ⟨i, by omega, by omega, by rw [e]; exact h.mv⟩
    · obtain ⟨q, b1, b2, b3⟩ := h.src p h1 (by omega) e
      exact ⟨q, b1, by omega, b3⟩
  · by_cases e : q = i
    · exact ⟨j, by omega, by omega, by rw [e]; exact h.mv⟩
    · obtain ⟨p, b1, b2, _, b4⟩ := h.all q h1 (by omega)
      exact ⟨p, b1, by omega, b4⟩
  · by_cases e1 : p = j
    · rw [e1, h.mv]; exact h.up q (by omega) (by omega)
    · by_cases e2 : q = j
      · rw [e2, h.mv]; exact low p h1 (by omega)
      · exact h.srt p q h1 h2 (by omega) e1 e2
end Go.Proofs.YtahgffjkkdbjeaaDoor
namespace Go.Proofs.YtahgffjkkdbjeaaDoor
/-- As rotF, of numbers from 0 on. -/
def rotN (f : Nat → Nat) (a m b : Nat) : Nat → Nat := fun p => if a ≤ p ∧ p < a + (b - m) then f (p - a + m) else if a + (b - m) ≤ p ∧ p < b then f (p - (b - m)) else f p
theorem rotN_same (f : Nat → Nat) {a m b : Nat} (h1 : a ≤ m) (h2 : m ≤ b) : Same f (rotN f a m b) a b := by
  refine ⟨fun p hp => ?_, fun v => ⟨?_, ?_⟩⟩
  · unfold rotN; rw [if_neg (by omega), if_neg (by omega)]
  · rintro ⟨p, hp, rfl⟩
    unfold rotN
    by_cases e : a ≤ p ∧ p < a + (b - m)
    · exact ⟨p - a + m, by omega, by rw [if_pos e]⟩
    · exact ⟨p - (b - m), by omega, by rw [if_neg e, if_pos (by omega)]⟩
  · rintro ⟨p, hp, rfl⟩
    unfold rotN
    by_cases e : p < m
    · exact ⟨p + (b - m), by omega, by rw [if_neg (by omega), if_pos (by omega), Nat.add_sub_cancel]⟩
    · exact ⟨p - m + a, by omega, by rw [if_pos (by omega)]; congr 1; omega⟩
theorem rotN_id (f : Nat → Nat) {a m b : Nat} (h1 : a ≤ m) (h2 : m ≤ b) (h : a = m ∨ b = m) : rotN f a m b = f := by
  funext p
  unfold rotN
  (repeat' split) <;> first | rfl | (exfalso; omega) | (congr 1; omega)
/-- All sorted, where the four parts stand rightly to each other. -/
theorem rotN_srt {K f : Nat → Nat} {a m b s t : Nat} (hA : Srt K f a m) (hB : Srt K f m b) (hs : a ≤ s ∧ s ≤ m) (ht : m ≤ t ∧ t ≤ b)
    (h1 : ∀ p q, a ≤ p → p < s → t ≤ q → q < b → ltK K (f p) (f q)) (h2 : ∀ p q, s ≤ p → p < m → m ≤ q → q < t → ltK K (f q) (f p))
    (h3 : ∀ p q, s ≤ p → p < m → t ≤ q → q < b → ltK K (f p) (f q)) (h4 : ∀ p q, a ≤ p → p < s → m ≤ q → q < t → ltK K (f p) (f q)) : Srt K (rotN f s m t) a b := by
  intro p q hp hpq hq
  rcases Nat.lt_or_ge p s with e1 | e1 <;> rcases Nat.lt_or_ge p t with e2 | e2 <;> rcases Nat.lt_or_ge q s with e3 | e3 <;> rcases Nat.lt_or_ge q t with e4 | e4
  all_goals
    unfold rotN
    (repeat' split)
  all_goals first
    | (exfalso; omega)
    | (refine hB _ _ ?_ ?_ ?_ <;> omega)
    | (refine hA _ _ ?_ ?_ ?_ <;> omega)
    | (refine h1 _ _ ?_ ?_ ?_ ?_ <;> omega)
    | (refine h2 _ _ ?_ ?_ ?_ ?_ <;> omega)
    | (refine h3 _ _ ?_ ?_ ?_ ?_ <;> omega)
    | (refine h4 _ _ ?_ ?_ ?_ ?_ <;> omega)
/-- What a merge asks. -/
structure MergePre (K f : Nat → Nat) (a m b : Nat) : Prop where
  am : a < m
  mb : m < b
  left : Srt K f a m
  right : Srt K f m b
  tie : ∀ p q, a ≤ p → p < m → m ≤ q → q < b → K (f p) = K (f q) → f p < f q
theorem MergePre.le {K f : Nat → Nat} {a m b : Nat} (h : MergePre K f a m b) {p q : Nat} (h1 : a ≤ p) (h2 : p < m) (h3 : m ≤ q) (h4 : q < b) (hk : K (f p) ≤ K (f q)) : ltK K (f p) (f q) := by
  rcases Nat.lt_or_ge (K (f p)) (K (f q)) with e | e
  · exact .inl e
  · have e2 : K (f p) = K (f q) := by omega
    exact .inr ⟨e2, h.tie p q h1 h2 h3 h4 e2⟩
theorem Srt.le {K f : Nat → Nat} {a b p q : Nat} (h : Srt K f a b) (h1 : a ≤ p) (h2 : p ≤ q) (h3 : q < b) : K (f p) ≤ K (f q) := by
  rcases Nat.lt_or_ge p q with e | e
  · rcases h p q h1 e h3 with k | k <;> omega
  · have : p = q := by omega
    subst this; exact Nat.le_refl _
/-- The first search (one element on the left): i to j are left. -/
structure Find1 (K f : Nat → Nat) (a m b i j : Nat) : Prop where
  rng : m ≤ i ∧ i ≤ j ∧ j ≤ b
  lo : ∀ q, m ≤ q → q < i → K (f q) < K (f a)
  hi : ∀ q, j ≤ q → q < b → K (f a) ≤ K (f q)
theorem Find1.srt {K f : Nat → Nat} {a m b i : Nat} (hp : MergePre K f a m b) (h : Find1 K f a m b i i) (e : m = a + 1) : Srt K (rotN f a m i) a b := by
  have hr := h.rng
  refine rotN_srt hp.left hp.right (by omega) (by omega) (fun p q h1 h2 => by omega) (fun p q h1 h2 h3 h4 => ?_) (fun p q h1 h2 h3 h4 => ?_) (fun p q h1 h2 => by omega)
  · have : p = a := by omega
    subst this; exact .inl (h.lo q h3 h4)
  · have : p = a := by omega
    subst this; exact hp.le (by omega) h2 (by omega) h4 (h.hi q h3 h4)
/-- The second search (one element on the right). -/
structure Find2 (K f : Nat → Nat) (a m i j : Nat) : Prop where
  rng : a ≤ i ∧ i ≤ j ∧ j ≤ m
  lo : ∀ q, a ≤ q → q < i → K (f q) ≤ K (f m)
  hi : ∀ q, j ≤ q → q < m → K (f m) < K (f q)
theorem Find2.srt {K f : Nat → Nat} {a m b i : Nat} (hp : MergePre K f a m b) (h : Find2 K f a m i i) (e : b = m + 1) : Srt K (rotN f i m b) a b := by
  have hr := h.rng
  refine rotN_srt hp.left hp.right (by omega) (by omega) (fun p q h1 h2 => by omega) (fun p q h1 h2 h3 h4 => ?_) (fun p q h1 h2 h3 h4 => by omega) (fun p q h1 h2 h3 h4 => ?_)
  · have : q = m := by omega
    subst this; exact .inl (h.hi p h1 h2)
  · have : q = m := by omega
    subst this; exact hp.le h1 (by omega) (by omega) (by omega) (h.lo p h1 h2)
/-- The third search. -/
structure Find3 (K f : Nat → Nat) (p s0 r0 i j : Nat) : Prop where
  rng : s0 ≤ i ∧ i ≤ j ∧ j ≤ r0
  lo : ∀ c, s0 ≤ c → c < i → K (f c) ≤ K (f (p - c))
  hi : ∀ c, j ≤ c → c < r0 → K (f (p - c)) < K (f c)
/-- The bounds of the third search. -/
structure Bds (a m b mid s0 r0 : Nat) : Prop where
  mid1 : mid = (a + b) / 2
  cases : (m > mid ∧ s0 = mid + m - b ∧ r0 = mid) ∨ (m ≤ mid ∧ s0 = a ∧ r0 = m)
theorem Bds.ok {a m b mid s0 r0 : Nat} (h : Bds a m b mid s0 r0) (h1 : a < m) (h2 : m < b) : a ≤ s0 ∧ s0 ≤ r0 ∧ r0 ≤ m ∧ r0 ≤ mid ∧ mid < b ∧ a < mid ∨ (a ≤ s0 ∧ s0 ≤ r0 ∧ r0 ≤ m ∧ mid < b ∧ a ≤ mid) := by
  have := h.mid1
  rcases h.cases with ⟨c1, c2, c3⟩ | ⟨c1, c2, c3⟩ <;> omega
theorem Bds.idx {a m b mid s0 r0 : Nat} (h : Bds a m b mid s0 r0) (h1 : a < m) (h2 : m < b) {c : Nat} (hc : s0 ≤ c) (hc2 : c < r0) : a ≤ c ∧ c < m ∧ m ≤ mid + m - 1 - c ∧ mid + m - 1 - c < b ∧ c ≤ mid + m - 1 := by
  have := h.mid1
  rcases h.cases with ⟨c1, c2, c3⟩ | ⟨c1, c2, c3⟩ <;> omega
theorem Find3.low {K f : Nat → Nat} {a m b mid s0 r0 i j c : Nat} (hp : MergePre K f a m b) (hb : Bds a m b mid s0 r0) (h : Find3 K f (mid + m - 1) s0 r0 i j) (h1 : i ≤ c) (h2 : c < j) (hk : K (f c) ≤ K (f (mid + m - 1 - c))) : Find3 K f (mid + m - 1) s0 r0 (c + 1) j := by
  have hr := h.rng
  refine ⟨by omega, fun d d1 d2 => ?_, h.hi⟩
  rcases Nat.lt_or_ge d i with e | e
  · exact h.lo d d1 e
  · have i1 := hb.idx hp.am hp.mb d1 (show d < r0 by omega)
    have i2 := hb.idx hp.am hp.mb (show s0 ≤ c by omega) (show c < r0 by omega)
    have k1 := hp.left.le i1.1 (show d ≤ c by omega) i2.2.1
    have k2 := hp.right.le i2.2.2.1 (show mid + m - 1 - c ≤ mid + m - 1 - d by omega) i1.2.2.2.1
    omega
theorem Find3.high {K f : Nat → Nat} {a m b mid s0 r0 i j c : Nat} (hp : MergePre K f a m b) (hb : Bds a m b mid s0 r0) (h : Find3 K f (mid + m - 1) s0 r0 i j) (h1 : i ≤ c) (h2 : c < j) (hk : K (f (mid + m - 1 - c)) < K (f c)) : Find3 K f (mid + m - 1) s0 r0 i c := by
  have hr := h.rng
  refine ⟨by omega, h.lo, fun d d1 d2 => ?_⟩
  rcases Nat.lt_or_ge d j with e | e
  · have i1 := hb.idx hp.am hp.mb (show s0 ≤ d by omega) d2
    have i2 := hb.idx hp.am hp.mb (show s0 ≤ c by omega) (show c < r0 by omega)
    have k1 := hp.left.le i2.1 (show c ≤ d by omega) i1.2.1
    have k2 := hp.right.le i1.2.2.1 (show mid + m - 1 - d ≤ mid + m - 1 - c by omega) i2.2.2.2.1
    omega
  · exact h.hi d e d2
/-- Behind the third search: the two halves, and how they stand to each other. -/
structure Halves (K f f1 : Nat → Nat) (a m b mid s t : Nat) : Prop where
  rng : a ≤ s ∧ s ≤ mid ∧ mid ≤ t ∧ t ≤ b ∧ s ≤ m ∧ m ≤ t ∧ a ≤ mid ∧ mid ≤ b
  same : Same f f1 a b
  left : s = a ∨ s = mid → Srt K f1 a mid
  right : t = mid ∨ t = b → Srt K f1 mid b
  leftP : a < s → s < mid → MergePre K f1 a s mid
  rightP : mid < t → t < b → MergePre K f1 mid t b
  cross : ∀ p q, a ≤ p → p < mid → mid ≤ q → q < b → ltK K (f1 p) (f1 q)
theorem Find3.halves {K f : Nat → Nat} {a m b mid s0 r0 s : Nat} (hp : MergePre K f a m b) (hb : Bds a m b mid s0 r0) (h : Find3 K f (mid + m - 1) s0 r0 s s) : Halves K f (rotN f s m (mid + m - s)) a m b mid s (mid + m - s) := by
  have hr := h.rng
  have hm := hb.mid1
  have am := hp.am
  have mb := hp.mb
  have r1 : a ≤ s ∧ s ≤ mid ∧ mid ≤ mid + m - s ∧ mid + m - s ≤ b ∧ s ≤ m ∧ m ≤ mid + m - s ∧ a ≤ mid ∧ mid ≤ b := by
    rcases hb.cases with ⟨c1, c2, c3⟩ | ⟨c1, c2, c3⟩ <;> omega
  obtain ⟨t, ht⟩ : ∃ t, t = mid + m - s := ⟨_, rfl⟩
  rw [← ht] at r1 ⊢
  have x1 : ∀ p q, a ≤ p → p < s → t ≤ q → q < b → ltK K (f p) (f q) := by
    intro p q h1 h2 h3 h4
    have hs : s0 < s := by rcases hb.cases with ⟨c1, c2, c3⟩ | ⟨c1, c2, c3⟩ <;> omega
    have hk := h.lo (s - 1) (by omega) (by omega)
    have i2 := hb.idx am mb (show s0 ≤ s - 1 by omega) (show s - 1 < r0 by omega)
    rw [show mid + m - 1 - (s - 1) = t by omega] at hk
    have k1 := hp.left.le h1 (show p ≤ s - 1 by omega) (by omega)
    have k2 := hp.right.le (show m ≤ t by omega) h3 h4
    exact hp.le h1 (by omega) (by omega) h4 (by omega)
  have x2 : ∀ p q, s ≤ p → p < m → m ≤ q → q < t → ltK K (f q) (f p) := by
    intro p q h1 h2 h3 h4
    have hs : s < r0 := by rcases hb.cases with ⟨c1, c2, c3⟩ | ⟨c1, c2, c3⟩ <;> omega
    have hk := h.hi s (by omega) hs
    rw [show mid + m - 1 - s = t - 1 by omega] at hk
    have k1 := hp.left.le (show a ≤ s by omega) h1 h2
    have k2 := hp.right.le h3 (show q ≤ t - 1 by omega) (by omega)
    exact .inl (by omega)
  have hc : s + (t - m) = mid := by omega
  have sm := (rotN_same f (show s ≤ m by omega) (show m ≤ t by omega)).wide (a' := a) (b' := b) (by omega) (by omega)
  have rl : ∀ p, p < s → rotN f s m t p = f p := fun p h1 => by unfold rotN; rw [if_neg (by omega), if_neg (by omega)]
  have rb : ∀ p, s ≤ p → p < mid → rotN f s m t p = f (p - s + m) := fun p h1 h2 => by unfold rotN; rw [if_pos (by omega)]
  have ra : ∀ p, mid ≤ p → p < t → rotN f s m t p = f (p - (t - m)) := fun p h1 h2 => by unfold rotN; rw [if_neg (by omega), if_pos (by omega)]
  have rr : ∀ p, t ≤ p → rotN f s m t p = f p := fun p h1 => by unfold rotN; rw [if_neg (by omega), if_neg (by omega)]
  generalize rotN f s m t = f1 at *
  have lA1 : Srt K f1 a s := fun p q h1 h2 h3 => by rw [rl p (by omega), rl q h3]; exact hp.left p q h1 h2 (by omega)
  have lB1 : Srt K f1 s mid := fun p q h1 h2 h3 => by rw [rb p h1 (by omega), rb q (by omega) h3]; exact hp.right _ _ (by omega) (by omega) (by omega)
  have lA2 : Srt K f1 mid t := fun p q h1 h2 h3 => by rw [ra p h1 (by omega), ra q (by omega) h3]; exact hp.left _ _ (by omega) (by omega) (by omega)
  have lB2 : Srt K f1 t b := fun p q h1 h2 h3 => by rw [rr p h1, rr q (by omega)]; exact hp.right p q (by omega) h2 h3
  refine ⟨r1, sm, fun e => ?_, fun e => ?_, fun e1 e2 => ⟨e1, e2, lA1, lB1, fun p q h1 h2 h3 h4 h5 => ?_⟩, fun e1 e2 => ⟨e1, e2, lA2, lB2, fun p q h1 h2 h3 h4 h5 => ?_⟩, fun p q h1 h2 h3 h4 => ?_⟩
  · rcases e with e | e
    · rw [← e]; exact lB1
    · rw [← e]; exact lA1
  · rcases e with e | e
    · rw [← e]; exact lB2
    · rw [← e]; exact lA2
  · rw [rl p h2] at h5 ⊢
    rw [rb q h3 h4] at h5 ⊢
    exact hp.tie _ _ h1 (by omega) (by omega) (by omega) h5
  · rw [ra p h1 h2] at h5 ⊢
    rw [rr q h3] at h5 ⊢
    exact hp.tie _ _ (by omega) (by omega) (by omega) h4 h5
  · rcases Nat.lt_or_ge p s with e1 | e1
    · rw [rl p e1]
      rcases Nat.lt_or_ge q t with e2 | e2
      · rw [ra q h3 e2]
        exact hp.left _ _ h1 (by omega) (by omega)
      · rw [rr q e2]
        exact x1 p q h1 e1 e2 h4
    · rw [rb p e1 h2]
      rcases Nat.lt_or_ge q t with e2 | e2
      · rw [ra q h3 e2]
        exact x2 _ _ (by omega) (by omega) (by omega) (by omega)
      · rw [rr q e2]
        exact hp.right _ _ (by omega) (by omega) h4
/-- Both halves sorted: the whole is. -/
theorem Halves.done {K f f1 f2 : Nat → Nat} {a m b mid s t : Nat} (h : Halves K f f1 a m b mid s t) (h2 : ∀ p, ¬ (a ≤ p ∧ p < b) → f2 p = f1 p)
    (hl : ∀ p, a ≤ p → p < mid → ∃ q, (a ≤ q ∧ q < mid) ∧ f1 q = f2 p) (hr : ∀ p, mid ≤ p → p < b → ∃ q, (mid ≤ q ∧ q < b) ∧ f1 q = f2 p) (sl : Srt K f2 a mid) (sr : Srt K f2 mid b) : Srt K f2 a b := by
  intro p q h3 h4 h5
  rcases Nat.lt_or_ge q mid with e | e
  · exact sl p q h3 h4 e
  · rcases Nat.lt_or_ge p mid with e2 | e2
    · obtain ⟨p', hp', e3⟩ := hl p h3 e2
      obtain ⟨q', hq', e4⟩ := hr q e h5
      rw [← e3, ← e4]
      exact h.cross p' q' hp'.1 hp'.2 hq'.1 hq'.2
    · exact sr p q e2 h4 h5
end Go.Proofs.YtahgffjkkdbjeaaDoor
namespace Go.Proofs.YtahgffjkkdbjeaaDoor
open Go.RowKit
/-- A function of the place, changed at one place. -/
def updN (f : Nat → Nat) (p v : Nat) : Nat → Nat := fun q => if q = p then v else f q
theorem updN_same (f : Nat → Nat) (p v : Nat) : updN f p v p = v := if_pos rfl
theorem updN_other (f : Nat → Nat) {p q : Nat} (v : Nat) (h : q ≠ p) : updN f p v q = f q := if_neg h
theorem cg_size (s f : Nat → Nat) (a v : Nat) (ha : a < 24) : (ofF 600 fun j => if j = a then .int .i64 v else cg s f j) = ofF 600 (cg (updN s a v) f) := by
  refine ofF_congr fun i _ => ?_
  unfold cg updN
  by_cases e : i = a
  · subst e; rw [if_pos rfl, if_pos ha]; simp
  · rw [if_neg e]
    by_cases h : i < 24
    · rw [if_pos h, if_pos h, if_neg e]
    · rw [if_neg h, if_neg h]
theorem cg_with (s f : Nat → Nat) (k v : Nat) : (ofF 600 fun j => if j = 24 + k then .int .i64 v else cg s f j) = ofF 600 (cg s (updN f k v)) := by
  refine ofF_congr fun i _ => ?_
  unfold cg updN
  by_cases e : i = 24 + k
  · subst e; rw [if_pos rfl, if_neg (by omega), show 24 + k - 24 = k by omega, if_pos rfl]
  · rw [if_neg e]
    by_cases h : i < 24
    · rw [if_pos h, if_pos h]
    · rw [if_neg h, if_neg h, if_neg (by omega)]
theorem cg_at_size (s f : Nat → Nat) (a : Nat) (ha : a < 24) : cg s f a = .int .i64 (s a) := if_pos ha
theorem cg_at_with (s f : Nat → Nat) (k : Nat) : cg s f (24 + k) = .int .i64 (f k) := by unfold cg; rw [if_neg (by omega), show 24 + k - 24 = k by omega]

/-- n clusters of one language each. -/
def aloneS (n : Nat) : Nat → Nat := fun a => if a < n then 1 else 0
theorem aloneS_next (k : Nat) : updN (aloneS k) k 1 = aloneS (k + 1) := by
  funext a
  unfold updN aloneS
  by_cases e : a = k
  · subst e; simp
  · rw [if_neg e]
    by_cases h : a < k
    · rw [if_pos h, if_pos (by omega)]
    · rw [if_neg h, if_neg (by omega)]
/-- Sizes, with a and b made one. -/
def joinS (s : Nat → Nat) (a b : Nat) : Nat → Nat := updN (updN s a (s a + s b)) b 0
/-- The table after i steps of a join. -/
def jw (f : Nat → Nat) (a b : Nat) : Nat → Nat → Nat
  | 0 => f
  | i + 1 => updN (updN (jw f a b i) (a * 24 + i) (jw f a b i (a * 24 + i) + jw f a b i (b * 24 + i))) (i * 24 + a) (jw f a b i (a * 24 + i) + jw f a b i (b * 24 + i))
theorem two_digits {x y z t : Nat} (hy : y < 24) (ht : t < 24) : x * 24 + y = z * 24 + t ↔ x = z ∧ y = t := by omega
/-- What a join's table is, where neither is a. -/
theorem jw_other (f : Nat → Nat) {a b x y : Nat} (ha : a < 24) (hy : y < 24) (hx : x ≠ a) (hy2 : y ≠ a) : ∀ i, i ≤ 24 → jw f a b i (x * 24 + y) = f (x * 24 + y)
  | 0, _ => rfl
  | i + 1, hi => by
    rw [jw, updN_other _ _ (by omega), updN_other _ _ (by omega)]
    exact jw_other f ha hy hx hy2 i (by omega)
/-- Row a, where it was not yet changed. -/
theorem jw_rest (f : Nat → Nat) {a b x z : Nat} (ha : a < 24) (hz : z < 24) (hx : x = a ∨ x = b) (hab : a < b) : ∀ i, i ≤ z → i ≤ a ∨ z ≠ a → jw f a b i (x * 24 + z) = f (x * 24 + z)
  | 0, _, _ => rfl
  | i + 1, hi, hz2 => by
    rw [jw, updN_other _ _ (by omega), updN_other _ _ (by omega)]
    exact jw_rest f ha hz hx hab i (by omega) (by omega)
/-- Row a and column a, where they were changed. -/
theorem jw_new (f : Nat → Nat) {a b z : Nat} (ha : a < 24) (hz : z < 24) (hza : z ≠ a) (hab : a < b) : ∀ i, i ≤ 24 → z < i → jw f a b i (a * 24 + z) = f (a * 24 + z) + f (b * 24 + z) ∧ jw f a b i (z * 24 + a) = f (a * 24 + z) + f (b * 24 + z)
  | 0, _, h => by omega
  | i + 1, hi, h => by
    by_cases e : z = i
    · subst e
      have h1 := jw_rest f (x := a) ha hz (.inl rfl) hab z (Nat.le_refl _) (.inr hza)
      have h2 := jw_rest f (x := b) ha hz (.inr rfl) hab z (Nat.le_refl _) (.inr hza)
      rw [jw, h1, h2]
      refine ⟨?_, updN_same _ _ _⟩
      rw [updN_other _ _ (by omega), updN_same]
    · obtain ⟨h1, h2⟩ := jw_new f ha hz hza hab i (by omega) (by omega)
      rw [jw]
      refine ⟨?_, ?_⟩
      · rw [updN_other _ _ (by omega), updN_other _ _ (by omega)]; exact h1
      · rw [updN_other _ _ (by omega), updN_other _ _ (by omega)]; exact h2
/-- The table stays below twice its bound. -/
theorem jw_le (f : Nat → Nat) {a b M : Nat} (ha : a < 24) (hb : b < 24) (hab : a < b) (hM : ∀ k, f k ≤ M) : ∀ i, i ≤ 24 → ∀ k, jw f a b i k ≤ 2 * M
  | 0, _ => fun k => by have := hM k; rw [jw]; omega
  | i + 1, hi => fun k => by
    have ih := jw_le f ha hb hab hM i (by omega)
    have h1 : jw f a b i (a * 24 + i) ≤ M := by
      by_cases e : i = a
      · subst e; rw [jw_rest f (x := i) ha ha (.inl rfl) hab i (Nat.le_refl _) (.inl (Nat.le_refl _))]; exact hM _
      · rw [jw_rest f (x := a) ha (by omega) (.inl rfl) hab i (Nat.le_refl _) (.inr e)]; exact hM _
    have h2 : jw f a b i (b * 24 + i) ≤ M := by
      by_cases e : i = a
      · subst e; rw [jw_rest f (x := b) ha ha (.inr rfl) hab i (Nat.le_refl _) (.inl (Nat.le_refl _))]; exact hM _
      · rw [jw_rest f (x := b) ha (by omega) (.inr rfl) hab i (Nat.le_refl _) (.inr e)]; exact hM _
    rw [jw]
    unfold updN
    split
    · omega
    · split
      · omega
      · exact ih k
theorem jw_cells (f : Nat → Nat) {a b i M : Nat} (ha : a < 24) (hi : i < 24) (hab : a < b) (hM : ∀ k, f k ≤ M) : jw f a b i (a * 24 + i) ≤ M ∧ jw f a b i (b * 24 + i) ≤ M := by
  by_cases e : i = a
  · subst e
    rw [jw_rest f (x := i) ha ha (.inl rfl) hab i (Nat.le_refl _) (.inl (Nat.le_refl _)), jw_rest f (x := b) ha ha (.inr rfl) hab i (Nat.le_refl _) (.inl (Nat.le_refl _))]
    exact ⟨hM _, hM _⟩
  · rw [jw_rest f (x := a) ha hi (.inl rfl) hab i (Nat.le_refl _) (.inr e), jw_rest f (x := b) ha hi (.inr rfl) hab i (Nat.le_refl _) (.inr e)]
    exact ⟨hM _, hM _⟩
end Go.Proofs.YtahgffjkkdbjeaaDoor
namespace Go.Proofs.YtahgffjkkdbjeaaDoor
open Go.RowKit
/-- v put at place t of the first b. -/
def insF (f : Nat → Nat) (t b : Nat) : Nat → Nat := fun p => if p < t then f p else if p = t then b else if p ≤ b then f (p - 1) else p
theorem insF_same {f : Nat → Nat} {t b : Nat} (h : Same (fun p => p) f 0 b) (ht : t ≤ b) : Same (fun p => p) (insF f t b) 0 (b + 1) := by
  refine ⟨fun p hp => ?_, fun v => ⟨?_, ?_⟩⟩
  · unfold insF; rw [if_neg (by omega), if_neg (by omega), if_neg (by omega)]
  · rintro ⟨p, hp, rfl⟩
    unfold insF
    by_cases h1 : p < t
    · rw [if_pos h1]
      obtain ⟨q, hq, e⟩ := (h.2 (f p)).1 ⟨p, by omega, rfl⟩
      exact ⟨q, by omega, e⟩
    · rw [if_neg h1]
      by_cases h2 : p = t
      · rw [if_pos h2]; exact ⟨b, by omega, rfl⟩
      · rw [if_neg h2, if_pos (by omega)]
        obtain ⟨q, hq, e⟩ := (h.2 (f (p - 1))).1 ⟨p - 1, by omega, rfl⟩
        exact ⟨q, by omega, e⟩
  · rintro ⟨p, hp, rfl⟩
    by_cases h1 : p = b
    · subst h1; exact ⟨t, by omega, by unfold insF; rw [if_neg (by omega), if_pos rfl]⟩
    · obtain ⟨q, hq, e⟩ := (h.2 p).2 ⟨p, by omega, rfl⟩
      by_cases h2 : q < t
      · exact ⟨q, by omega, by unfold insF; rw [if_pos h2]; exact e⟩
      · exact ⟨q + 1, by omega, by unfold insF; rw [if_neg (by omega), if_neg (by omega), if_pos (by omega)]; exact e⟩
theorem same_lt {f : Nat → Nat} {b : Nat} (h : Same (fun p => p) f 0 b) {p : Nat} (hp : p < b) : f p < b := by
  obtain ⟨q, hq, e⟩ := (h.2 (f p)).1 ⟨p, by omega, rfl⟩
  have e : q = f p := e
  omega
theorem insF_lt {f : Nat → Nat} {t b p : Nat} (h : p < t) : insF f t b p = f p := if_pos h
theorem insF_eq {f : Nat → Nat} {t b : Nat} : insF f t b t = b := by unfold insF; rw [if_neg (by omega), if_pos rfl]
theorem insF_gt {f : Nat → Nat} {t b p : Nat} (h : t < p) (h2 : p ≤ b) : insF f t b p = f (p - 1) := by unfold insF; rw [if_neg (by omega), if_neg (by omega), if_pos h2]
theorem insF_srt {K f : Nat → Nat} {t b : Nat} (hs : Srt K f 0 b) (hm : Same (fun p => p) f 0 b) (ht : t ≤ b) (h1 : ∀ p, p < t → K (f p) ≤ K b) (h2 : t < b → K b < K (f t)) : Srt K (insF f t b) 0 (b + 1) := by
  intro p q _ hpq hq
  rcases Nat.lt_trichotomy q t with a1 | a1 | a1
  · rw [insF_lt a1, insF_lt (by omega)]; exact hs p q (Nat.zero_le _) hpq (by omega)
  · subst a1
    rw [insF_eq, insF_lt hpq]
    have := h1 p hpq
    have := same_lt hm (show p < b by omega)
    unfold ltK; omega
  · rw [insF_gt a1 (by omega)]
    rcases Nat.lt_trichotomy p t with a3 | a3 | a3
    · rw [insF_lt a3]; exact hs p (q - 1) (Nat.zero_le _) (by omega) (by omega)
    · subst a3
      rw [insF_eq]
      have k1 := h2 (by omega)
      have : K (f p) ≤ K (f (q - 1)) := by
        by_cases e : p = q - 1
        · rw [e]; exact Nat.le_refl _
        · have := hs p (q - 1) (Nat.zero_le _) (by omega) (by omega); unfold ltK at this; omega
      unfold ltK; omega
    · rw [insF_gt a3 (by omega)]; exact hs (p - 1) (q - 1) (Nat.zero_le _) (by omega) (by omega)
/-- The row as a list of numbers. -/
def rowL (f : Nat → Nat) (b : Nat) : List Int := (List.range b).map fun p => (f p : Int)
theorem rowL_len (f : Nat → Nat) (b : Nat) : (rowL f b).length = b := by simp [rowL]
theorem rowL_ins (f : Nat → Nat) {t b : Nat} (ht : t ≤ b) : rowL (insF f t b) (b + 1) = (rowL f b).take t ++ [(b : Int)] ++ (rowL f b).drop t := by
  apply List.ext_getElem?
  intro i
  have l1 : ((rowL f b).take t).length = t := by simp [rowL_len]; omega
  by_cases h1 : i < t
  · rw [List.append_assoc, List.getElem?_append_left (by omega), List.getElem?_take, if_pos h1]
    simp [rowL, insF, h1, show i < b + 1 by omega, show i < b by omega]
  · by_cases h2 : i = t
    · subst h2
      rw [List.append_assoc, List.getElem?_append_right (Nat.le_of_eq l1), l1]
      simp [rowL, insF, show i < b + 1 by omega]
    · rw [List.getElem?_append_right (by rw [List.length_append, l1, List.length_singleton]; omega)]
      simp only [List.length_append, l1, List.length_singleton, List.getElem?_drop]
      by_cases h3 : i < b + 1
      · simp [rowL, insF, h1, h2, h3, show i ≤ b by omega, show t + (i - (t + 1)) = i - 1 by omega, show i - 1 < b by omega]
      · rw [List.getElem?_eq_none (by rw [rowL_len]; omega), List.getElem?_eq_none (by rw [rowL_len]; omega)]
theorem rowL_at (f : Nat → Nat) {b p : Nat} (hp : p < b) : iA (rowL f b) p = (f p : Int) := by simp [iA, rowL, hp]
/-- The first part of a row that is read. -/
theorem Rd.take1 {w : World} {a : Option Addr} {α : Type} {f : α → Value} {l : List α} (h : Rd w a (fl (fun y => [f y]) l)) (t : Nat) : Rd w a (fl (fun y => [f y]) (l.take t)) := by
  have len : ∀ l : List α, (fl (fun y => [f y]) l).length = l.length := fun l => by rw [fl_length (k := 1) (fun _ => rfl)]; omega
  intro h0
  have l0 := len l
  rw [len] at h0
  have l1 : (l.take t).length ≤ l.length := by rw [List.length_take]; omega
  obtain ⟨b, o, e, hb, hc⟩ := h (by omega)
  refine ⟨b, o, e, hb, fun i hi => ?_⟩
  rw [len] at hi
  have e2 : fl (fun y => [f y]) l = fl (fun y => [f y]) (l.take t) ++ fl (fun y => [f y]) (l.drop t) := by rw [← fl_append, List.take_append_drop]
  rw [hc i (by omega), e2, List.getD_eq_getElem?_getD, List.getD_eq_getElem?_getD, List.getElem?_append_left (by rw [len]; exact hi)]
theorem Rd.drop1 {w : World} {g o : Nat} {α : Type} {f : α → Value} {l : List α} (h : Rd w (some ⟨g, o, none⟩) (fl (fun y => [f y]) l)) (t : Nat) : Rd w (some ⟨g, o + t, none⟩) (fl (fun y => [f y]) (l.drop t)) := by
  have len : ∀ l : List α, (fl (fun y => [f y]) l).length = l.length := fun l => by rw [fl_length (k := 1) (fun _ => rfl)]; omega
  intro h0
  have l0 := len l
  rw [len, List.length_drop] at h0
  obtain ⟨b, o', e, hb, hc⟩ := h (by omega)
  have e := Option.some.inj e
  obtain ⟨rfl, rfl⟩ : g = b ∧ o = o' := by have := congrArg Addr.block e; have := congrArg Addr.off e; exact ⟨by assumption, by assumption⟩
  refine ⟨g, o + t, rfl, hb, fun i hi => ?_⟩
  rw [len, List.length_drop] at hi
  have e2 : fl (fun y => [f y]) l = fl (fun y => [f y]) (l.take t) ++ fl (fun y => [f y]) (l.drop t) := by rw [← fl_append, List.take_append_drop]
  have l3 : (fl (fun y => [f y]) (l.take t)).length = t := by rw [len, List.length_take]; omega
  rw [show o + t + i = o + (t + i) by omega, hc (t + i) (by omega), e2, List.getD_eq_getElem?_getD, List.getD_eq_getElem?_getD, List.getElem?_append_right (by omega), l3, show t + i - t = i by omega]
end Go.Proofs.YtahgffjkkdbjeaaDoor
namespace Go.Proofs.YtahgffjkkdbjeaaDoor
open Go.RowKit
/-- The pairs of cluster a with those below k. -/
def rowP (s : Nat → Nat) (a k : Nat) : List (Nat × Nat) := ((List.range k).filter fun y => decide (a < y) && decide (0 < s y)).map fun y => (a, y)
/-- The pairs of clusters below n, the first one below a. -/
def prs (s : Nat → Nat) (n : Nat) : Nat → List (Nat × Nat)
  | 0 => []
  | a + 1 => prs s n a ++ if 0 < s a then rowP s a n else []
theorem rowP_skip (s : Nat → Nat) (a k : Nat) (h : ¬ (a < k ∧ 0 < s k)) : rowP s a (k + 1) = rowP s a k := by
  have e : (decide (a < k) && decide (0 < s k)) = false := by
    by_cases h1 : a < k
    · have : ¬ 0 < s k := fun h2 => h ⟨h1, h2⟩
      simp [this]
    · simp [h1]
  simp [rowP, List.range_succ, List.filter_append, e]
theorem rowP_next (s : Nat → Nat) (a k : Nat) (h : a < k) (h2 : 0 < s k) : rowP s a (k + 1) = rowP s a k ++ [(a, k)] := by
  have e : (decide (a < k) && decide (0 < s k)) = true := by simp [h, h2]
  simp [rowP, List.range_succ, List.filter_append, e]
theorem rowP_low (s : Nat → Nat) (a : Nat) : ∀ k, k ≤ a + 1 → rowP s a k = []
  | 0, _ => rfl
  | k + 1, h => by rw [rowP_skip s a k (by omega)]; exact rowP_low s a k (by omega)
theorem rowP_len (s : Nat → Nat) (a k : Nat) : (rowP s a k).length ≤ k := by
  unfold rowP
  rw [List.length_map]
  exact Nat.le_trans (List.length_filter_le _ _) (by simp)
theorem prs_len (s : Nat → Nat) (n : Nat) (hn : n ≤ 24) : ∀ a, (prs s n a).length ≤ a * 24
  | 0 => by simp [prs]
  | a + 1 => by
    have := prs_len s n hn a
    have h2 := rowP_len s a n
    rw [prs, List.length_append]
    split
    · omega
    · simp only [List.length_nil]; omega
theorem mem_rowP {s : Nat → Nat} {a k : Nat} {p : Nat × Nat} : p ∈ rowP s a k ↔ p.1 = a ∧ a < p.2 ∧ p.2 < k ∧ 0 < s p.2 := by
  obtain ⟨x, y⟩ := p
  simp only [rowP, List.mem_map, List.mem_filter, List.mem_range, Bool.and_eq_true, decide_eq_true_eq, Prod.mk.injEq]
  constructor
  · rintro ⟨z, ⟨h1, h2, h3⟩, rfl, rfl⟩; exact ⟨rfl, h2, h1, h3⟩
  · rintro ⟨rfl, h2, h1, h3⟩; exact ⟨y, ⟨h1, h2, h3⟩, rfl, rfl⟩
theorem mem_prs {s : Nat → Nat} {n : Nat} {p : Nat × Nat} : ∀ {a : Nat}, p ∈ prs s n a ↔ p.1 < a ∧ 0 < s p.1 ∧ p.1 < p.2 ∧ p.2 < n ∧ 0 < s p.2
  | 0 => by simp [prs]
  | a + 1 => by
    rw [prs, List.mem_append, mem_prs (a := a)]
    by_cases h : 0 < s a
    · rw [if_pos h, mem_rowP]
      constructor
      · rintro (⟨h1, h2⟩ | ⟨h1, h2⟩)
        · exact ⟨by omega, h2⟩
        · rw [h1]; exact ⟨by omega, h, h2⟩
      · rintro ⟨h1, h2, h3⟩
        by_cases e : p.1 = a
        · right; exact ⟨e, by omega, h3.2⟩
        · left; exact ⟨by omega, h2, h3⟩
    · rw [if_neg h]
      constructor
      · rintro (⟨h1, h2⟩ | h1)
        · exact ⟨by omega, h2⟩
        · cases h1
      · rintro ⟨h1, h2, h3⟩
        by_cases e : p.1 = a
        · rw [e] at h2; exact absurd h2 h
        · left; exact ⟨by omega, h2, h3⟩
/-- How many pairs of languages two clusters have. -/
def cnt (s : Nat → Nat) (a b : Nat) : Nat := s a * s b
theorem cnt_le {s : Nat → Nat} (hs : ∀ k, s k ≤ 24) (a b : Nat) : cnt s a b ≤ 576 := Nat.mul_le_mul (hs a) (hs b)
/-- One join of two clusters is nearer than another one. -/
def nearB (s f : Nat → Nat) (a b i j : Nat) : Bool := decide (f (a * 24 + b) * cnt s i j < f (i * 24 + j) * cnt s a b)
/-- The nearest pair so far. -/
def stepB (s f : Nat → Nat) (o : Option (Nat × Nat)) (x : Nat × Nat) : Option (Nat × Nat) := match o with
  | none => some x
  | some p => if nearB s f x.1 x.2 p.1 p.2 = true then some x else some p
def bestP (s f : Nat → Nat) (l : List (Nat × Nat)) : Option (Nat × Nat) := l.foldl (stepB s f) none
theorem bestP_snoc (s f : Nat → Nat) (l : List (Nat × Nat)) (x : Nat × Nat) : bestP s f (l ++ [x]) = stepB s f (bestP s f l) x := by simp [bestP]
theorem bestP_some (s f : Nat → Nat) : ∀ (l : List (Nat × Nat)) (o : Option (Nat × Nat)), (∃ p, l.foldl (stepB s f) o = some p ∧ (p ∈ l ∨ o = some p)) ∨ (l = [] ∧ o = none)
  | [], none => .inr ⟨rfl, rfl⟩
  | [], some p => .inl ⟨p, rfl, .inr rfl⟩
  | x :: l, o => by
    left
    rw [List.foldl_cons]
    have hs : stepB s f o x = some x ∨ (stepB s f o x = o ∧ ∃ p, o = some p) := by
      unfold stepB
      cases o with
      | none => exact .inl rfl
      | some p =>
        simp only
        split
        · exact .inl rfl
        · exact .inr ⟨rfl, p, rfl⟩
    rcases bestP_some s f l (stepB s f o x) with ⟨p, h1, h2⟩ | ⟨rfl, h2⟩
    · refine ⟨p, h1, ?_⟩
      rcases h2 with h2 | h2
      · exact .inl (List.mem_cons_of_mem _ h2)
      · rcases hs with h3 | ⟨h3, _⟩
        · rw [h3] at h2; left; rw [Option.some.inj h2]; exact List.mem_cons_self
        · right; rw [← h3]; exact h2
    · rcases hs with h3 | ⟨h3, p, h4⟩
      · rw [h3] at h2; cases h2
      · rw [h3, h4] at h2; cases h2
theorem bestP_mem {s f : Nat → Nat} {l : List (Nat × Nat)} (h : l ≠ []) : ∃ p, bestP s f l = some p ∧ p ∈ l := by
  rcases bestP_some s f l none with ⟨p, h1, h2 | h2⟩ | ⟨h1, _⟩
  · exact ⟨p, h1, h2⟩
  · cases h2
  · exact absurd h1 h
/-- Sums over the first n. -/
def sumN (s : Nat → Nat) : Nat → Nat
  | 0 => 0
  | n + 1 => sumN s n + s n
theorem sumN_congr {s t : Nat → Nat} : ∀ {n : Nat}, (∀ a, a < n → s a = t a) → sumN s n = sumN t n
  | 0, _ => rfl
  | n + 1, h => by rw [sumN, sumN, h n (by omega), sumN_congr fun a ha => h a (by omega)]
theorem sumN_upd (s : Nat → Nat) {p v : Nat} : ∀ {n : Nat}, p < n → sumN (updN s p v) n + s p = sumN s n + v
  | 0, h => by omega
  | n + 1, h => by
    rw [sumN, sumN]
    by_cases e : p = n
    · subst e
      rw [updN_same, sumN_congr (t := s) fun a ha => updN_other s v (by omega)]
      omega
    · rw [updN_other _ _ (by omega)]
      have := sumN_upd s (v := v) (show p < n by omega)
      omega
theorem sumN_one (s : Nat → Nat) {p : Nat} : ∀ {n : Nat}, p < n → s p ≤ sumN s n
  | 0, h => by omega
  | n + 1, h => by
    rw [sumN]
    by_cases e : p = n
    · subst e; omega
    · have := sumN_one s (show p < n by omega); omega
theorem sumN_two (s : Nat → Nat) {p q : Nat} (hpq : p < q) : ∀ {n : Nat}, q < n → s p + s q ≤ sumN s n
  | 0, h => by omega
  | n + 1, h => by
    rw [sumN]
    by_cases e : q = n
    · subst e; have := sumN_one s hpq; omega
    · have := sumN_two s hpq (show q < n by omega); omega
/-- Which clusters there are. -/
def ind (s : Nat → Nat) : Nat → Nat := fun a => if 0 < s a then 1 else 0
theorem ind_upd (s : Nat → Nat) (p v : Nat) : ind (updN s p v) = updN (ind s) p (if 0 < v then 1 else 0) := by
  funext a
  unfold ind updN
  by_cases e : a = p
  · rw [if_pos e, if_pos e]
  · rw [if_neg e, if_neg e]
theorem ind_one {s : Nat → Nat} : ∀ {n : Nat}, 1 ≤ sumN (ind s) n → ∃ x, x < n ∧ 0 < s x
  | 0, h => by simp [sumN] at h
  | n + 1, h => by
    by_cases e : 0 < s n
    · exact ⟨n, by omega, e⟩
    · rw [sumN, show ind s n = 0 from if_neg e] at h
      obtain ⟨x, h1, h2⟩ := ind_one (s := s) (n := n) (by omega)
      exact ⟨x, by omega, h2⟩
theorem ind_two {s : Nat → Nat} : ∀ {n : Nat}, 2 ≤ sumN (ind s) n → ∃ x y, x < y ∧ y < n ∧ 0 < s x ∧ 0 < s y
  | 0, h => by simp [sumN] at h
  | n + 1, h => by
    by_cases e : 0 < s n
    · rw [sumN, show ind s n = 1 from if_pos e] at h
      obtain ⟨x, h1, h2⟩ := ind_one (s := s) (n := n) (by omega)
      exact ⟨x, n, h1, by omega, h2, e⟩
    · rw [sumN, show ind s n = 0 from if_neg e] at h
      obtain ⟨x, y, h1, h2, h3⟩ := ind_two (s := s) (n := n) (by omega)
      exact ⟨x, y, h1, by omega, h3⟩
/-- What holds of sizes and table after k steps. -/
structure MInv (n k : Nat) (s f : Nat → Nat) : Prop where
  sum : sumN s n = n
  live : sumN (ind s) n + k = n
  out : ∀ a, n ≤ a → s a = 0
  tab : ∀ t, f t ≤ 1073741824 * 2 ^ k
theorem sumN_const : ∀ n, sumN (fun _ => 1) n = n
  | 0 => rfl
  | n + 1 => by rw [sumN, sumN_const n]
theorem MInv.start {n : Nat} {f : Nat → Nat} (hf : ∀ t, f t ≤ 1073741824) : MInv n 0 (aloneS n) f where
  sum := by rw [sumN_congr (s := aloneS n) (t := fun _ => 1) fun a ha => if_pos ha, sumN_const]
  live := by rw [sumN_congr (s := ind (aloneS n)) (t := fun _ => 1) fun a ha => by unfold ind aloneS; rw [if_pos ha]; rfl, sumN_const]; rfl
  out a ha := if_neg (by omega)
  tab t := by have := hf t; omega
theorem MInv.le {n k : Nat} {s f : Nat → Nat} (h : MInv n k s f) (a : Nat) : s a ≤ n := by
  by_cases ha : a < n
  · have := sumN_one s ha; have := h.sum; omega
  · rw [h.out a (by omega)]; exact Nat.zero_le _
theorem MInv.pairs {n k : Nat} {s f : Nat → Nat} (h : MInv n k s f) (hk : k + 1 < n) : prs s n n ≠ [] := by
  obtain ⟨x, y, h1, h2, h3, h4⟩ := ind_two (s := s) (n := n) (by have := h.live; omega)
  intro e
  have := (mem_prs (s := s) (n := n) (a := n) (p := (x, y))).2 ⟨by show x < n; omega, h3, h1, h2, h4⟩
  rw [e] at this
  cases this
theorem MInv.next {n k : Nat} {s f : Nat → Nat} (h : MInv n k s f) (hn : n ≤ 24) {i j : Nat} (hp : (i, j) ∈ prs s n n) : MInv n (k + 1) (joinS s i j) (jw f i j 24) := by
  obtain ⟨h1, h2, h3, h4, h5⟩ := mem_prs.1 hp
  simp only at h1 h2 h3 h4 h5
  have e1 : updN s i (s i + s j) j = s j := updN_other _ _ (by omega)
  refine ⟨?_, ?_, ?_, ?_⟩
  · have a1 := sumN_upd s (v := s i + s j) h1
    have a2 := sumN_upd (updN s i (s i + s j)) (v := 0) h4
    have := h.sum
    rw [e1] at a2
    unfold joinS
    omega
  · have a1 := sumN_upd (ind s) (v := 1) h1
    have a2 := sumN_upd (updN (ind s) i 1) (v := 0) h4
    have b1 : ind s i = 1 := if_pos h2
    have b2 : updN (ind s) i 1 j = 1 := by rw [updN_other _ _ (by omega)]; exact if_pos h5
    have := h.live
    rw [b1] at a1
    rw [b2] at a2
    unfold joinS
    rw [ind_upd, ind_upd, if_pos (by omega), if_neg (by omega)]
    omega
  · intro a ha
    unfold joinS
    rw [updN_other _ _ (by omega), updN_other _ _ (by omega)]
    exact h.out a ha
  · intro t
    have := jw_le f (show i < 24 by omega) (show j < 24 by omega) h3 h.tab 24 (Nat.le_refl _) t
    rw [Nat.pow_succ]
    omega
theorem MInv.bound {n k : Nat} {s f : Nat → Nat} (h : MInv n k s f) (hk : k ≤ 23) : ∀ t, f t ≤ 9007199254740992 := fun t => by
  have h1 := h.tab t
  have h2 : 2 ^ k ≤ 2 ^ 23 := Nat.pow_le_pow_right (by omega) hk
  have h3 : 1073741824 * 2 ^ k ≤ 1073741824 * 2 ^ 23 := Nat.mul_le_mul_left _ h2
  have : (1073741824 * 2 ^ 23 : Nat) = 9007199254740992 := by decide
  omega
/-- The merge of two clusters. -/
def mgOf (c : Nat) (s f : Nat → Nat) (p : Nat × Nat) : Mg := (((p.1 : Int), (p.2 : Int)), lowF ((f (p.1 * 24 + p.2) : Int), ((cnt s p.1 p.2 * c : Nat) : Int)), ((s p.1 + s p.2 : Nat) : Int))
/-- The pair that is joined next. -/
def mPick (n : Nat) (s f : Nat → Nat) : Nat × Nat := (bestP s f (prs s n n)).getD (0, 1)
structure MSt where
  s : Nat → Nat
  f : Nat → Nat
  l : List Mg
/-- k steps of a clustering of n languages whose scaled distances are the table g. -/
def mRun (n c : Nat) (g : Nat → Nat) : Nat → MSt
  | 0 => ⟨aloneS n, g, []⟩
  | k + 1 => let t := mRun n c g k; let p := mPick n t.s t.f; ⟨joinS t.s p.1 p.2, jw t.f p.1 p.2 24, t.l ++ [mgOf c t.s t.f p]⟩
theorem mRun_pick {n c k : Nat} {g : Nat → Nat} (h : MInv n k (mRun n c g k).s (mRun n c g k).f) (hk : k + 1 < n) : bestP (mRun n c g k).s (mRun n c g k).f (prs (mRun n c g k).s n n) = some (mPick n (mRun n c g k).s (mRun n c g k).f) ∧ mPick n (mRun n c g k).s (mRun n c g k).f ∈ prs (mRun n c g k).s n n := by
  obtain ⟨p, h1, h2⟩ := bestP_mem (s := (mRun n c g k).s) (f := (mRun n c g k).f) (h.pairs hk)
  rw [mPick, h1]
  exact ⟨rfl, h2⟩
theorem mRun_inv {n c : Nat} {g : Nat → Nat} (hn : n ≤ 24) (hg : ∀ t, g t ≤ 1073741824) : ∀ k, k < n → MInv n k (mRun n c g k).s (mRun n c g k).f
  | 0, _ => MInv.start hg
  | k + 1, h => by
    have ih := mRun_inv (c := c) hn hg k (by omega)
    exact ih.next hn (mRun_pick ih h).2
theorem mRun_len (n c : Nat) (g : Nat → Nat) : ∀ k, (mRun n c g k).l.length = k
  | 0 => rfl
  | k + 1 => by rw [mRun]; simp [mRun_len n c g k]
end Go.Proofs.YtahgffjkkdbjeaaDoor
namespace Go.Proofs.YtahgffjkkdbjeaaDoor
open Go.RowKit
/-- Row k. -/
def rwk (L : List (List Int)) (k : Nat) : List Int := L.getD k []
/-- A slice of slices of numbers is read. -/
structure Rows (w : World) (a : Option Addr) (rs : List Rw) (L : List (List Int)) : Prop where
  rd : Rd w a (fl encR rs)
  len : rs.length = L.length
  row : ∀ i, i < L.length → Rd w (rA rs i) (fl encI (rwk L i)) ∧ rN rs i = (rwk L i).length ∧ rN rs i ≤ 1152921504606846976
theorem Rows.bl {w w' : World} {a : Option Addr} {rs : List Rw} {L : List (List Int)} (h : Rows w a rs L) (hb : Below w.heap.size w w') : Rows w' a rs L :=
  ⟨h.rd.bl hb, h.len, fun i hi => ⟨(h.row i hi).1.bl hb, (h.row i hi).2⟩⟩
def longR (r : Rw) : Bool := decide (24 < r.2.1)
def longL (r : List Int) : Bool := decide (24 < r.length)
theorem Rows.long {w : World} {a : Option Addr} {rs : List Rw} {L : List (List Int)} (h : Rows w a rs L) : rs.any longR = L.any longL := by
  rw [Bool.eq_iff_iff, List.any_eq_true, List.any_eq_true]
  have key : ∀ i (hi : i < rs.length) (hi2 : i < L.length), longR rs[i] = longL L[i] := fun i hi hi2 => by
    have h1 := (h.row i hi2).2.1
    simp only [rN, rwk, List.getD_eq_getElem?_getD, List.getElem?_eq_getElem hi, List.getElem?_eq_getElem hi2, Option.getD_some] at h1
    simp only [longR, longL, h1]
  constructor
  · rintro ⟨x, hx, h1⟩
    obtain ⟨i, hi, rfl⟩ := List.getElem_of_mem hx
    have hi2 : i < L.length := by rw [← h.len]; exact hi
    exact ⟨L[i], List.getElem_mem hi2, by rw [← key i hi hi2]; exact h1⟩
  · rintro ⟨x, hx, h1⟩
    obtain ⟨i, hi, rfl⟩ := List.getElem_of_mem hx
    have hi2 : i < rs.length := by rw [h.len]; exact hi
    exact ⟨rs[i], List.getElem_mem hi2, by rw [key i hi2 hi]; exact h1⟩
def RowOk (L : List (List Int)) (i : Nat) : Prop := (rwk L i).length = (rwk L 0).length ∧ (rwk L i).any under = false
instance (L : List (List Int)) (i : Nat) : Decidable (RowOk L i) := by unfold RowOk; infer_instance
def AllOk (L : List (List Int)) : Prop := ∀ i, i < L.length → RowOk L i
instance (L : List (List Int)) : Decidable (AllOk L) := by unfold AllOk; infer_instance
/-- How many languages there are, or the error. -/
def sharesE (L : List (List Int)) : Except Int Nat := if 256 < L.length ∨ L.any longL = true then .error 12 else if ¬ AllOk L then .error 2 else .ok (rwk L 0).length
/-- In row k both have a word; .. cognate words. -/
def bothR (L : List (List Int)) (a b k : Nat) : Prop := 0 ≤ iA (rwk L k) a ∧ 0 ≤ iA (rwk L k) b
instance (L : List (List Int)) (a b k : Nat) : Decidable (bothR L a b k) := by unfold bothR; infer_instance
def bothK (L : List (List Int)) (a b : Nat) : Nat → Nat
  | 0 => 0
  | k + 1 => bothK L a b k + if bothR L a b k then 1 else 0
def sameK (L : List (List Int)) (a b : Nat) : Nat → Nat
  | 0 => 0
  | k + 1 => sameK L a b k + if bothR L a b k ∧ iA (rwk L k) a = iA (rwk L k) b then 1 else 0
theorem bothK_le (L : List (List Int)) (a b : Nat) : ∀ k, bothK L a b k ≤ k
  | 0 => Nat.le_refl _
  | k + 1 => by have := bothK_le L a b k; rw [bothK]; split <;> omega
theorem sameK_le (L : List (List Int)) (a b : Nat) : ∀ k, sameK L a b k ≤ bothK L a b k
  | 0 => Nat.le_refl _
  | k + 1 => by
    have := sameK_le L a b k
    rw [sameK, bothK]
    by_cases h : bothR L a b k
    · rw [if_pos h]; split <;> omega
    · rw [if_neg (fun h2 => h h2.1), if_neg h]; omega
theorem bothR_comm (L : List (List Int)) (a b k : Nat) : bothR L a b k ↔ bothR L b a k := ⟨fun h => ⟨h.2, h.1⟩, fun h => ⟨h.2, h.1⟩⟩
theorem bothK_comm (L : List (List Int)) (a b : Nat) : ∀ k, bothK L a b k = bothK L b a k
  | 0 => rfl
  | k + 1 => by
    rw [bothK, bothK, bothK_comm L a b k]
    by_cases h : bothR L a b k
    · rw [if_pos h, if_pos ((bothR_comm L a b k).1 h)]
    · rw [if_neg h, if_neg (fun h2 => h ((bothR_comm L a b k).2 h2))]
theorem sameK_comm (L : List (List Int)) (a b : Nat) : ∀ k, sameK L a b k = sameK L b a k
  | 0 => rfl
  | k + 1 => by
    rw [sameK, sameK, sameK_comm L a b k]
    by_cases h : bothR L a b k ∧ iA (rwk L k) a = iA (rwk L k) b
    · rw [if_pos h, if_pos ⟨(bothR_comm L a b k).1 h.1, h.2.symm⟩]
    · rw [if_neg h, if_neg (fun h2 => h ⟨(bothR_comm L a b k).2 h2.1, h2.2.symm⟩)]
/-- The share of two languages. -/
def shareF (L : List (List Int)) (a b : Nat) : Fr := lowF ((sameK L a b L.length : Int), ((max (bothK L a b L.length) 1 : Nat) : Int))
theorem shareF_comm (L : List (List Int)) (a b : Nat) : shareF L a b = shareF L b a := by rw [shareF, shareF, bothK_comm, sameK_comm]
def shL (L : List (List Int)) (n : Nat) : List Fr := (List.range (n * n)).map fun k => shareF L (k / n) (k % n)
/-- The shares that are known when all pairs before (a, b) are done. -/
def shP (L : List (List Int)) (n a b : Nat) (k : Nat) : Fr := if max (k / n) (k % n) < a ∨ (max (k / n) (k % n) = a ∧ min (k / n) (k % n) < b) then shareF L (k / n) (k % n) else (0, 0)
theorem shP_row (L : List (List Int)) (n a k : Nat) : shP L n a (a + 1) k = shP L n (a + 1) 0 k := by
  unfold shP
  generalize k / n = i
  generalize k % n = j
  by_cases h : max i j < a ∨ (max i j = a ∧ min i j < a + 1)
  · rw [if_pos h, if_pos (by omega)]
  · rw [if_neg h, if_neg (by omega)]
theorem shP_all (L : List (List Int)) (n k : Nat) (hk : k < n * n) : shP L n n 0 k = shareF L (k / n) (k % n) := by
  have hn : 0 < n := by rcases Nat.eq_zero_or_pos n with h | h; · subst h; simp at hk
                        · exact h
  have h1 : k / n < n := (Nat.div_lt_iff_lt_mul hn).2 hk
  have h2 : k % n < n := Nat.mod_lt _ hn
  exact if_pos (.inl (Nat.max_lt.2 ⟨h1, h2⟩))
/-- A list of fractions, changed at one place. -/
def updF (h : Nat → Fr) (p : Nat) (v : Fr) : Nat → Fr := fun q => if q = p then v else h q
theorem map_updF (N : Nat) (f : Nat → Fr) (p : Nat) (v : Fr) : (List.range N).map (updF f p v) = ((List.range N).map f).set p v := by
  apply List.ext_getElem?
  intro i
  rw [List.getElem?_set]
  by_cases hi : i < N
  · by_cases e : p = i
    · subst e; simp [hi, updF]
    · simp [hi, updF, e]; omega
  · by_cases e : p = i
    · subst e; simp [hi]
    · simp [hi, e]
theorem shP_next (L : List (List Int)) {n a b : Nat} (ha : a < n) (hb : b ≤ a) (k : Nat) : updF (updF (shP L n a b) (a * n + b) (shareF L a b)) (b * n + a) (shareF L a b) k = shP L n a (b + 1) k := by
  have d1 : (a * n + b) / n = a := by rw [Nat.mul_comm, Nat.mul_add_div (by omega), Nat.div_eq_of_lt (by omega), Nat.add_zero]
  have d2 : (a * n + b) % n = b := by rw [Nat.mul_comm, Nat.mul_add_mod, Nat.mod_eq_of_lt (by omega)]
  have d3 : (b * n + a) / n = b := by rw [Nat.mul_comm, Nat.mul_add_div (by omega), Nat.div_eq_of_lt (by omega), Nat.add_zero]
  have d4 : (b * n + a) % n = a := by rw [Nat.mul_comm, Nat.mul_add_mod, Nat.mod_eq_of_lt (by omega)]
  unfold updF
  by_cases e1 : k = b * n + a
  · subst e1
    rw [if_pos rfl, shP, d3, d4, if_pos (by omega), shareF_comm]
  · rw [if_neg e1]
    by_cases e2 : k = a * n + b
    · subst e2
      rw [if_pos rfl, shP, d1, d2, if_pos (by omega)]
    · rw [if_neg e2]
      unfold shP
      have hk : k = k / n * n + k % n := by rw [Nat.mul_comm]; exact (Nat.div_add_mod k n).symm
      have h1 : ¬ (k / n = a ∧ k % n = b) := fun ⟨h1, h2⟩ => e2 (by rw [h1, h2] at hk; exact hk)
      have h2 : ¬ (k / n = b ∧ k % n = a) := fun ⟨h1, h2⟩ => e1 (by rw [h1, h2] at hk; exact hk)
      by_cases h : max (k / n) (k % n) < a ∨ (max (k / n) (k % n) = a ∧ min (k / n) (k % n) < b)
      · rw [if_pos h, if_pos (by omega)]
      · rw [if_neg h, if_neg (by omega)]
end Go.Proofs.YtahgffjkkdbjeaaDoor
namespace Go.Proofs.YtahgffjkkdbjeaaDoor
open Go.RowKit
/-- The sizes of the clusters after k merges. -/
def stS (n : Nat) (l : List Mg) : Nat → Nat → Nat
  | 0 => aloneS n
  | k + 1 => joinS (stS n l k) (mA l k).toNat (mB l k).toNat
/-- Merge k joins two clusters. -/
def StepOk (n : Nat) (l : List Mg) (k : Nat) : Prop := 0 ≤ mA l k ∧ mA l k < mB l k ∧ mB l k < n ∧ stS n l k (mA l k).toNat ≠ 0 ∧ stS n l k (mB l k).toNat ≠ 0 ∧ mS l k = ((stS n l k (mA l k).toNat + stS n l k (mB l k).toNat : Nat) : Int) ∧ 1 ≤ mD l k ∧ 0 ≤ mN l k
instance (n : Nat) (l : List Mg) (k : Nat) : Decidable (StepOk n l k) := by unfold StepOk; infer_instance
def StepsOk (n : Nat) (l : List Mg) : Prop := l.length + 1 = n ∧ ∀ k, k < l.length → StepOk n l k
instance (n : Nat) (l : List Mg) : Decidable (StepsOk n l) := by unfold StepsOk; infer_instance
structure StInv (n : Nat) (s : Nat → Nat) : Prop where
  sum : sumN s n = n
  out : ∀ a, n ≤ a → s a = 0
theorem StInv.le {n : Nat} {s : Nat → Nat} (h : StInv n s) (a : Nat) : s a ≤ n := by
  by_cases ha : a < n
  · have := sumN_one s ha; have := h.sum; omega
  · rw [h.out a (by omega)]; exact Nat.zero_le _
theorem StInv.next {n : Nat} {s : Nat → Nat} (h : StInv n s) {i j : Nat} (h1 : i < j) (h2 : j < n) : StInv n (joinS s i j) := by
  have e1 : updN s i (s i + s j) j = s j := updN_other _ _ (by omega)
  refine ⟨?_, fun a ha => ?_⟩
  · have a1 := sumN_upd s (v := s i + s j) (show i < n by omega)
    have a2 := sumN_upd (updN s i (s i + s j)) (v := 0) h2
    have := h.sum
    rw [e1] at a2
    unfold joinS
    omega
  · unfold joinS
    rw [updN_other _ _ (by omega), updN_other _ _ (by omega)]
    exact h.out a ha
theorem stS_inv {n : Nat} {l : List Mg} : ∀ k, (∀ i, i < k → StepOk n l i) → StInv n (stS n l k)
  | 0, _ => ⟨by rw [stS, sumN_congr (s := aloneS n) (t := fun _ => 1) fun a ha => if_pos ha, sumN_const], fun a ha => if_neg (by omega)⟩
  | k + 1, h => by
    obtain ⟨h1, h2, h3, _⟩ := h k (by omega)
    exact (stS_inv k fun i hi => h i (by omega)).next (by omega) (by omega)
theorem jw_zero (a b : Nat) : ∀ i, jw (fun _ => 0) a b i = fun _ => 0
  | 0 => rfl
  | i + 1 => by
    funext t
    rw [jw, jw_zero a b i]
    simp [updN]
end Go.Proofs.YtahgffjkkdbjeaaDoor
namespace Go.Proofs.YtahgffjkkdbjeaaDoor
open Go.RowKit
/-- The sum of the distances of all pairs of two lists. -/
def sumF (f : Nat → Nat) : List Nat → Nat
  | [] => 0
  | x :: l => f x + sumF f l
def btw (D : Nat → Nat → Nat) (A B : List Nat) : Nat := sumF (fun p => sumF (D p) B) A
theorem sumF_append (f : Nat → Nat) : ∀ (A B : List Nat), sumF f (A ++ B) = sumF f A + sumF f B
  | [], B => by simp [sumF]
  | x :: A, B => by rw [List.cons_append, sumF, sumF, sumF_append f A B]; omega
theorem sumF_add (f g : Nat → Nat) : ∀ (A : List Nat), sumF (fun x => f x + g x) A = sumF f A + sumF g A
  | [] => by simp [sumF]
  | x :: A => by rw [sumF, sumF, sumF, sumF_add f g A]; omega
theorem btw_left (D : Nat → Nat → Nat) (A B I : List Nat) : btw D (A ++ B) I = btw D A I + btw D B I := sumF_append _ _ _
theorem btw_right (D : Nat → Nat → Nat) (I A B : List Nat) : btw D I (A ++ B) = btw D I A + btw D I B := by
  unfold btw
  rw [← sumF_add]
  congr 1
  funext p
  exact sumF_append _ _ _
theorem sumF_le {f : Nat → Nat} {M : Nat} : ∀ {A : List Nat}, (∀ x ∈ A, f x ≤ M) → sumF f A ≤ A.length * M
  | [], _ => by simp [sumF]
  | x :: A, h => by
    have h1 := h x List.mem_cons_self
    have h2 := sumF_le (A := A) (M := M) fun y hy => h y (List.mem_cons_of_mem _ hy)
    rw [sumF, List.length_cons, Nat.succ_mul]; omega
theorem btw_le {D : Nat → Nat → Nat} {M : Nat} {A B : List Nat} (h : ∀ p ∈ A, ∀ q ∈ B, D p q ≤ M) : btw D A B ≤ A.length * (B.length * M) :=
  sumF_le fun p hp => sumF_le fun q hq => h p hp q hq
theorem sumF_take (f : Nat → Nat) (A : List Nat) {i : Nat} (h : i < A.length) : sumF f (A.take (i + 1)) = sumF f (A.take i) + f (A.getD i 0) := by
  rw [List.take_add_one, List.getElem?_eq_getElem h, sumF_append]
  simp [sumF, h]
/-- The list i of clusters, and its least language. -/
def cC (C : List (List Nat)) (i : Nat) : List Nat := C.getD i []
def hC (C : List (List Nat)) (i : Nat) : Nat := (cC C i).headD 0
/-- Lists of clusters against sizes. -/
structure ClS (n : Nat) (C : List (List Nat)) (s : Nat → Nat) : Prop where
  ne : ∀ i, i < C.length → cC C i ≠ []
  inc : ∀ i j, i < j → j < C.length → hC C i < hC C j
  lt : ∀ i, i < C.length → ∀ p ∈ cC C i, p < n
  live : ∀ a, 0 < s a → ∃ i, i < C.length ∧ hC C i = a
  size : ∀ i, i < C.length → s (hC C i) = (cC C i).length
/-- Lists of clusters against sizes and a table. -/
structure ClR (n : Nat) (D : Nat → Nat → Nat) (C : List (List Nat)) (s f : Nat → Nat) : Prop extends ClS n C s where
  tab : ∀ i j, i < C.length → j < C.length → i ≠ j → f (hC C i * 24 + hC C j) = btw D (cC C i) (cC C j)
  sym : ∀ i j, i < C.length → j < C.length → i ≠ j → f (hC C i * 24 + hC C j) = f (hC C j * 24 + hC C i)
theorem head_mem {l : List Nat} (h : l ≠ []) : l.headD 0 ∈ l := by
  cases l with
  | nil => exact absurd rfl h
  | cons x l => exact List.mem_cons_self
section
variable {n : Nat} {C : List (List Nat)} {s : Nat → Nat}
theorem ClS.hlt (h : ClS n C s) {i : Nat} (hi : i < C.length) : hC C i < n := h.lt i hi _ (head_mem (h.ne i hi))
theorem ClS.hne (h : ClS n C s) {i j : Nat} (hi : i < C.length) (hj : j < C.length) (e : i ≠ j) : hC C i ≠ hC C j := by
  rcases Nat.lt_or_gt_of_ne e with h1 | h1
  · have := h.inc i j h1 hj; omega
  · have := h.inc j i h1 hi; omega
theorem ClS.pos (h : ClS n C s) {i : Nat} (hi : i < C.length) : 0 < s (hC C i) := by
  rw [h.size i hi]; exact List.length_pos_iff.2 (h.ne i hi)
end
/-- Clusters i and k made one: the first m of the list. -/
def rj (C : List (List Nat)) (i k : Nat) : Nat → List (List Nat)
  | 0 => []
  | m + 1 => rj C i k m ++ (if m = i then [cC C i ++ cC C k] else if m = k then [] else [cC C m])
theorem rj_len (C : List (List Nat)) {i k : Nat} (hik : i < k) : ∀ m, (rj C i k m).length = if k < m then m - 1 else m
  | 0 => by simp [rj]
  | m + 1 => by
    rw [rj, List.length_append, rj_len C hik m]
    by_cases e1 : m = i
    · rw [if_pos e1, if_neg (by omega), if_neg (by omega)]; rfl
    · rw [if_neg e1]
      by_cases e2 : m = k
      · rw [if_pos e2, if_neg (by omega), if_pos (by omega)]; simp
      · rw [if_neg e2]
        by_cases e3 : k < m
        · rw [if_pos e3, if_pos (by omega)]; simp; omega
        · rw [if_neg e3, if_neg (by omega)]; rfl
def rjI (k t : Nat) : Nat := if t < k then t else t + 1
theorem rj_get (C : List (List Nat)) {i k : Nat} (hik : i < k) : ∀ m t, t < (rj C i k m).length → cC (rj C i k m) t = if t = i then cC C i ++ cC C k else cC C (rjI k t)
  | 0, t, h => by simp [rj] at h
  | m + 1, t, h => by
    have hl := rj_len C hik m
    by_cases ht : t < (rj C i k m).length
    · have e : cC (rj C i k (m + 1)) t = cC (rj C i k m) t := by
        unfold cC
        rw [rj, List.getD_eq_getElem?_getD, List.getElem?_append_left ht, ← List.getD_eq_getElem?_getD]
      rw [e]; exact rj_get C hik m t ht
    · have e0 : cC (rj C i k (m + 1)) t = (if m = i then [cC C i ++ cC C k] else if m = k then [] else [cC C m]).getD (t - (rj C i k m).length) [] := by
        show (rj C i k (m + 1)).getD t [] = _
        rw [rj, List.getD_eq_getElem?_getD, List.getElem?_append_right (by omega), ← List.getD_eq_getElem?_getD]
      have hl2 := rj_len C hik (m + 1)
      rw [hl2] at h
      rw [hl] at ht
      rw [e0, hl]
      by_cases e1 : m = i
      · rw [if_pos e1, if_neg (by omega)]
        rw [if_neg (by omega)] at ht
        rw [if_neg (by omega)] at h
        obtain rfl : t = m := by omega
        rw [if_pos e1, Nat.sub_self]; rfl
      · rw [if_neg e1]
        by_cases e2 : m = k
        · rw [if_neg (by omega)] at ht
          rw [if_pos (by omega)] at h
          omega
        · rw [if_neg e2]
          by_cases e3 : k < m
          · rw [if_pos e3] at ht ⊢
            rw [if_pos (by omega)] at h
            obtain rfl : t = m - 1 := by omega
            rw [if_neg (by omega), Nat.sub_self, rjI, if_neg (by omega), show m - 1 + 1 = m by omega]; rfl
          · rw [if_neg e3] at ht ⊢
            rw [if_neg (by omega)] at h
            obtain rfl : t = m := by omega
            rw [if_neg e1, Nat.sub_self, rjI, if_pos (by omega)]; rfl
theorem headD_append {A B : List Nat} (h : A ≠ []) : (A ++ B).headD 0 = A.headD 0 := by
  cases A with
  | nil => exact absurd rfl h
  | cons x l => rfl
/-- What the joined list has. -/
structure RjF (n : Nat) (C : List (List Nat)) (i k : Nat) : Prop where
  len : (rj C i k C.length).length = C.length - 1
  get : ∀ t, t < C.length - 1 → cC (rj C i k C.length) t = if t = i then cC C i ++ cC C k else cC C (rjI k t)
  idx : ∀ t, t < C.length - 1 → rjI k t < C.length ∧ rjI k t ≠ k ∧ (t = i ↔ rjI k t = i)
  hds : ∀ t, t < C.length - 1 → hC (rj C i k C.length) t = hC C (rjI k t)
theorem ClS.rjF {n : Nat} {C : List (List Nat)} {s : Nat → Nat} (h : ClS n C s) {i k : Nat} (hik : i < k) (hk : k < C.length) : RjF n C i k := by
  have hl : (rj C i k C.length).length = C.length - 1 := by rw [rj_len C hik, if_pos hk]
  have hi : i < C.length := by omega
  have hg : ∀ t, t < C.length - 1 → cC (rj C i k C.length) t = if t = i then cC C i ++ cC C k else cC C (rjI k t) := fun t ht => rj_get C hik _ t (by rw [hl]; exact ht)
  have hI : ∀ t, t < C.length - 1 → rjI k t < C.length ∧ rjI k t ≠ k ∧ (t = i ↔ rjI k t = i) := fun t ht => by unfold rjI; split <;> omega
  have hh : ∀ t, t < C.length - 1 → hC (rj C i k C.length) t = hC C (rjI k t) := fun t ht => by
    show (cC _ t).headD 0 = _
    rw [hg t ht]
    by_cases e : t = i
    · rw [if_pos e, headD_append (h.ne i hi), e, (hI i (by omega)).2.2.1 rfl]; rfl
    · rw [if_neg e]; rfl
  exact ⟨hl, hg, hI, hh⟩
theorem ClS.next {n : Nat} {C : List (List Nat)} {s : Nat → Nat} (h : ClS n C s) {i k : Nat} (hik : i < k) (hk : k < C.length) :
    ClS n (rj C i k C.length) (joinS s (hC C i) (hC C k)) := by
  obtain ⟨hl, hg, hI, hh⟩ := h.rjF hik hk
  have hi : i < C.length := by omega
  have hinc := h.inc i k hik hk
  have hai := h.hlt hi
  have hak := h.hlt hk
  refine ⟨?_, ?_, ?_, ?_, ?_⟩
  · intro t ht
    rw [hl] at ht
    rw [hg t ht]
    split
    · intro e; exact h.ne i hi (List.append_eq_nil_iff.1 e).1
    · exact h.ne _ (hI t ht).1
  · intro t u htu hu
    rw [hl] at hu
    rw [hh t (by omega), hh u hu]
    exact h.inc _ _ (by unfold rjI; split <;> split <;> omega) (hI u hu).1
  · intro t ht p hp
    rw [hl] at ht
    rw [hg t ht] at hp
    split at hp
    · rcases List.mem_append.1 hp with h1 | h1
      · exact h.lt i hi p h1
      · exact h.lt k hk p h1
    · exact h.lt _ (hI t ht).1 p hp
  · intro a ha
    unfold joinS updN at ha
    split at ha
    · omega
    · rename_i hab
      have : ∃ u, u < C.length ∧ hC C u = a := by
        split at ha
        · exact ⟨i, hi, by omega⟩
        · exact h.live a ha
      obtain ⟨u, hu, rfl⟩ := this
      have huk : u ≠ k := fun e => hab (by rw [e])
      refine ⟨if u < k then u else u - 1, ?_, ?_⟩
      · rw [hl]; split <;> omega
      · rw [hh _ (by split <;> omega)]
        have e : rjI k (if u < k then u else u - 1) = u := by
          unfold rjI
          by_cases h1 : u < k
          · rw [if_pos h1, if_pos h1]
          · rw [if_neg h1, if_neg (by omega)]; omega
        rw [e]
  · intro t ht
    rw [hl] at ht
    rw [hh t ht, hg t ht]
    obtain ⟨q1, q2, q3⟩ := hI t ht
    unfold joinS updN
    rw [if_neg (h.hne q1 hk q2)]
    by_cases e : t = i
    · rw [if_pos e, if_pos (by rw [q3.1 e]), List.length_append, h.size i hi, h.size k hk]
    · rw [if_neg e, if_neg (h.hne q1 hi (fun e2 => e (q3.2 e2)))]
      exact h.size _ q1
theorem ClR.next {n : Nat} {D : Nat → Nat → Nat} {C : List (List Nat)} {s f : Nat → Nat} (h : ClR n D C s f) (hn : n ≤ 24) {i k : Nat} (hik : i < k) (hk : k < C.length) :
    ClR n D (rj C i k C.length) (joinS s (hC C i) (hC C k)) (jw f (hC C i) (hC C k) 24) := by
  obtain ⟨hl, hg, hI, hh⟩ := h.rjF hik hk
  have hi : i < C.length := by omega
  have hinc := h.inc i k hik hk
  have hai := h.hlt hi
  have hak := h.hlt hk
  refine ⟨h.toClS.next hik hk, ?_, ?_⟩
  · intro t u ht hu htu
    rw [hl] at ht hu
    rw [hh t ht, hh u hu, hg t ht, hg u hu]
    obtain ⟨q1, q2, q3⟩ := hI t ht
    obtain ⟨r1, r2, r3⟩ := hI u hu
    have ltu : rjI k t ≠ rjI k u := by unfold rjI; split <;> split <;> omega
    have l1 := h.hlt q1
    have l2 := h.hlt r1
    by_cases e1 : t = i
    · have e2 : u ≠ i := by omega
      rw [if_pos e1, if_neg e2, q3.1 e1, btw_left, ← h.tab i _ hi r1 (by rw [← q3.1 e1]; exact ltu), ← h.tab k _ hk r1 (Ne.symm r2)]
      exact (jw_new f (by omega) (by omega) (h.hne r1 hi (fun e => e2 (r3.2 e))) hinc 24 (by omega) (by omega)).1
    · rw [if_neg e1]
      by_cases e2 : u = i
      · rw [if_pos e2, r3.1 e2, btw_right, ← h.tab _ i q1 hi (by rw [← r3.1 e2]; exact ltu), ← h.tab _ k q1 hk q2, h.sym _ i q1 hi (by rw [← r3.1 e2]; exact ltu), h.sym _ k q1 hk q2]
        exact (jw_new f (by omega) (by omega) (h.hne q1 hi (fun e => e1 (q3.2 e))) hinc 24 (by omega) (by omega)).2
      · rw [if_neg e2, ← h.tab _ _ q1 r1 ltu]
        exact jw_other f (by omega) (by omega) (h.hne q1 hi (fun e => e1 (q3.2 e))) (h.hne r1 hi (fun e => e2 (r3.2 e))) 24 (by omega)
  · intro t u ht hu htu
    rw [hl] at ht hu
    rw [hh t ht, hh u hu]
    obtain ⟨q1, q2, q3⟩ := hI t ht
    obtain ⟨r1, r2, r3⟩ := hI u hu
    have ltu : rjI k t ≠ rjI k u := by unfold rjI; split <;> split <;> omega
    have l1 := h.hlt q1
    have l2 := h.hlt r1
    by_cases e1 : t = i
    · have e2 : u ≠ i := by omega
      rw [q3.1 e1]
      have := jw_new f (show hC C i < 24 by omega) (show hC C (rjI k u) < 24 by omega) (h.hne r1 hi (fun e => e2 (r3.2 e))) hinc 24 (by omega) (by omega)
      rw [this.1, this.2]
    · by_cases e2 : u = i
      · rw [r3.1 e2]
        have := jw_new f (show hC C i < 24 by omega) (show hC C (rjI k t) < 24 by omega) (h.hne q1 hi (fun e => e1 (q3.2 e))) hinc 24 (by omega) (by omega)
        rw [this.1, this.2]
      · have n1 := h.hne q1 hi (fun e => e1 (q3.2 e))
        have n2 := h.hne r1 hi (fun e => e2 (r3.2 e))
        rw [jw_other f (by omega) (by omega) n1 n2 24 (by omega), jw_other f (by omega) (by omega) n2 n1 24 (by omega)]
        exact h.sym _ _ q1 r1 ltu
/-- Each language alone. -/
def aloneC (n : Nat) : List (List Nat) := (List.range n).map fun a => [a]
theorem aloneC_len (n : Nat) : (aloneC n).length = n := by simp [aloneC]
theorem aloneC_at {n a : Nat} (h : a < n) : cC (aloneC n) a = [a] := by simp [cC, aloneC, h]
theorem aloneC_next (n : Nat) : aloneC n ++ [[n]] = aloneC (n + 1) := by simp [aloneC, List.range_succ]
theorem aloneC_hd {n a : Nat} (h : a < n) : hC (aloneC n) a = a := by show (cC _ a).headD 0 = a; rw [aloneC_at h]; rfl
theorem ClS.start (n : Nat) : ClS n (aloneC n) (aloneS n) := by
  have hh : ∀ a, a < n → hC (aloneC n) a = a := fun a h => aloneC_hd h
  refine ⟨?_, ?_, ?_, ?_, ?_⟩
  · intro i hi; rw [aloneC_len] at hi; rw [aloneC_at hi]; exact List.cons_ne_nil _ _
  · intro i j hij hj; rw [aloneC_len] at hj; rw [hh i (by omega), hh j hj]; exact hij
  · intro i hi p hp; rw [aloneC_len] at hi; rw [aloneC_at hi, List.mem_singleton] at hp; omega
  · intro a ha
    have : a < n := by
      rcases Nat.lt_or_ge a n with h | h
      · exact h
      · rw [aloneS, if_neg (by omega)] at ha; omega
    exact ⟨a, by rw [aloneC_len]; exact this, hh a this⟩
  · intro i hi; rw [aloneC_len] at hi; rw [hh i hi, aloneC_at hi, aloneS, if_pos hi]; rfl
theorem ClR.start {n : Nat} {D : Nat → Nat → Nat} {g : Nat → Nat} (hg : ∀ i j, i < n → j < n → g (i * 24 + j) = D i j) (hs : ∀ i j, i < n → j < n → D i j = D j i) : ClR n D (aloneC n) (aloneS n) g := by
  have hh : ∀ a, a < n → hC (aloneC n) a = a := fun a h => aloneC_hd h
  refine ⟨ClS.start n, ?_, ?_⟩
  · intro i j hi hj _; rw [aloneC_len] at hi hj; rw [hh i hi, hh j hj, aloneC_at hi, aloneC_at hj, hg i j hi hj]; simp [btw, sumF]
  · intro i j hi hj _; rw [aloneC_len] at hi hj; rw [hh i hi, hh j hj, hg i j hi hj, hg j i hj hi]; exact hs i j hi hj
/-- Pairs: where no cluster lies between. -/
theorem rowP_gap {s : Nat → Nat} {a k : Nat} : ∀ {m : Nat}, k ≤ m → (∀ y, k ≤ y → y < m → ¬ 0 < s y) → rowP s a m = rowP s a k
  | 0, hk, _ => by rw [show k = 0 by omega]
  | m + 1, hk, h => by
    by_cases e : k = m + 1
    · rw [e]
    · rw [rowP_skip s a m (fun h2 => h m (by omega) (by omega) h2.2)]
      exact rowP_gap (by omega) fun y h1 h2 => h y h1 (by omega)
theorem prs_gap {s : Nat → Nat} {n k : Nat} : ∀ {m : Nat}, k ≤ m → (∀ y, k ≤ y → y < m → ¬ 0 < s y) → prs s n m = prs s n k
  | 0, hk, _ => by rw [show k = 0 by omega]
  | m + 1, hk, h => by
    by_cases e : k = m + 1
    · rw [e]
    · rw [prs, if_neg (h m (by omega) (by omega)), List.append_nil]
      exact prs_gap (by omega) fun y h1 h2 => h y h1 (by omega)
/-- The least language of cluster i, or n behind the last. -/
def hX (C : List (List Nat)) (n i : Nat) : Nat := if i < C.length then hC C i else n
def preP (s : Nat → Nat) (C : List (List Nat)) (n i j : Nat) : List (Nat × Nat) := prs s n (hX C n i) ++ rowP s (hX C n i) (hX C n j)
section
variable {n : Nat} {C : List (List Nat)} {s : Nat → Nat}
theorem ClS.gap (h : ClS n C s) {i : Nat} (hi : i < C.length) : hC C i + 1 ≤ hX C n (i + 1) ∧ ∀ y, hC C i + 1 ≤ y → y < hX C n (i + 1) → ¬ 0 < s y := by
  refine ⟨?_, fun y h1 h2 h3 => ?_⟩
  · unfold hX
    split
    · exact h.inc i (i + 1) (by omega) (by assumption)
    · exact h.hlt hi
  · obtain ⟨t, ht, rfl⟩ := h.live y h3
    have hti : i < t := by
      rcases Nat.lt_trichotomy i t with h4 | h4 | h4
      · exact h4
      · subst h4; omega
      · have := h.inc t i h4 hi; omega
    rw [hX, if_pos (by omega)] at h2
    by_cases e : t = i + 1
    · subst e; omega
    · have := h.inc (i + 1) t (by omega) ht; omega
theorem ClS.pre_zero (h : ClS n C s) : prs s n (hX C n 0) = [] := by
  rw [prs_gap (k := 0) (Nat.zero_le _) fun y _ h2 h3 => ?_]; · rfl
  obtain ⟨t, ht, rfl⟩ := h.live y h3
  rw [hX, if_pos (by omega)] at h2
  by_cases e : t = 0
  · subst e; omega
  · have := h.inc 0 t (by omega) ht; omega
theorem ClS.pre_first (h : ClS n C s) {i : Nat} (hi : i < C.length) : preP s C n i (i + 1) = prs s n (hX C n i) := by
  obtain ⟨h1, h2⟩ := h.gap hi
  have e : hX C n i = hC C i := if_pos hi
  rw [preP, e, rowP_gap h1 h2, rowP_low _ _ _ (Nat.le_refl _), List.append_nil]
theorem ClS.pre_next (h : ClS n C s) {i j : Nat} (hij : i < j) (hj : j < C.length) : preP s C n i (j + 1) = preP s C n i j ++ [(hC C i, hC C j)] := by
  obtain ⟨h1, h2⟩ := h.gap hj
  have e : hX C n i = hC C i := if_pos (by omega)
  have e2 : hX C n j = hC C j := if_pos hj
  rw [preP, preP, e, e2, rowP_gap h1 h2, rowP_next _ _ _ (h.inc i j hij hj) (h.pos hj), List.append_assoc]
theorem ClS.pre_last (h : ClS n C s) {i : Nat} (hi : i < C.length) : preP s C n i C.length = prs s n (hX C n (i + 1)) := by
  obtain ⟨h1, h2⟩ := h.gap hi
  have e : hX C n i = hC C i := if_pos hi
  have e2 : hX C n C.length = n := if_neg (Nat.lt_irrefl _)
  rw [preP, e, e2, prs_gap h1 h2, prs, if_pos (h.pos hi)]
theorem pre_all : prs s n (hX C n C.length) = prs s n n := by rw [show hX C n C.length = n from if_neg (Nat.lt_irrefl _)]
end
theorem ClS.total {n k : Nat} {C : List (List Nat)} {s f : Nat → Nat} (h : ClS n C s) (hm : MInv n k s f) {i : Nat} (hi : i < C.length) : (cC C i).length ≤ n := by
  rw [← h.size i hi]; exact hm.le _
end Go.Proofs.YtahgffjkkdbjeaaDoor
namespace Go.Proofs.YtahgffjkkdbjeaaDoor
open Go.RowKit
/-- The table that GlottoOwn builds: row i, language a. -/
def ownK (X : Nat → Nat → Int) (i a : Nat) : Int := X i a % 5 - 1
def ownM (X : Nat → Nat → Int) (u : Int) (i a : Nat) : Int := if 0 ≤ ownK X i a then 3 * ownK X i a + u else ownK X i a
def otab (f : Nat → Nat → Int) (m n : Nat) : List (List Int) := (List.range m).map fun i => (List.range n).map (f i)
theorem otab_row (f : Nat → Nat → Int) {m n i : Nat} (h : i < m) : rwk (otab f m n) i = (List.range n).map (f i) := by simp [rwk, otab, h]
theorem otab_at (f : Nat → Nat → Int) {m n i a : Nat} (h : i < m) (ha : a < n) : iA (rwk (otab f m n) i) a = f i a := by rw [otab_row f h]; simp [iA, ha]
theorem otab_next (f : Nat → Nat → Int) (m n : Nat) : otab f m n ++ [(List.range n).map (f m)] = otab f (m + 1) n := by simp [otab, List.range_succ]
theorem otab_ok {f : Nat → Nat → Int} {m n : Nat} (hm : m ≤ 40) (hn : n ≤ 24) (hf : ∀ i a, -1 ≤ f i a) : sharesE (otab f m n) = .ok (if m = 0 then 0 else n) := by
  have h1 : ¬ (256 < (otab f m n).length ∨ (otab f m n).any longL = true) := by
    rintro (h | h)
    · simp [otab] at h; omega
    · obtain ⟨r, hr, h2⟩ := List.any_eq_true.1 h
      obtain ⟨i, _, rfl⟩ := List.mem_map.1 hr
      simp [longL] at h2
      omega
  have h2 : AllOk (otab f m n) := by
    intro i hi
    have hi : i < m := by simpa [otab] using hi
    refine ⟨by rw [otab_row f hi, otab_row f (by omega)]; simp, ?_⟩
    rw [otab_row f hi, List.any_eq_false]
    intro x hx
    obtain ⟨a, _, rfl⟩ := List.mem_map.1 hx
    have := hf i a
    simp [under]; omega
  rw [sharesE, if_neg h1, if_neg (fun h => h h2)]
  by_cases e : m = 0
  · subst e; simp [otab, rwk]
  · rw [if_neg e, otab_row f (by omega)]; simp
theorem tab_alike {f g : Nat → Nat → Int} {m n a b : Nat} (ha : a < n) (hb : b < n) (h0 : ∀ i c, 0 ≤ f i c ↔ 0 ≤ g i c) (h1 : ∀ i c d, 0 ≤ f i c → 0 ≤ f i d → (f i c = f i d ↔ g i c = g i d)) :
    ∀ k, k ≤ m → bothK (otab f m n) a b k = bothK (otab g m n) a b k ∧ sameK (otab f m n) a b k = sameK (otab g m n) a b k
  | 0, _ => ⟨rfl, rfl⟩
  | k + 1, hk => by
    obtain ⟨e1, e2⟩ := tab_alike (m := m) ha hb h0 h1 k (by omega)
    have fa := otab_at f (m := m) (i := k) (by omega) ha
    have fb := otab_at f (m := m) (i := k) (by omega) hb
    have ga := otab_at g (m := m) (i := k) (by omega) ha
    have gb := otab_at g (m := m) (i := k) (by omega) hb
    have hb2 : bothR (otab f m n) a b k ↔ bothR (otab g m n) a b k := by
      unfold bothR
      rw [fa, fb, ga, gb, h0, h0]
    have hs : (bothR (otab f m n) a b k ∧ iA (rwk (otab f m n) k) a = iA (rwk (otab f m n) k) b) ↔ (bothR (otab g m n) a b k ∧ iA (rwk (otab g m n) k) a = iA (rwk (otab g m n) k) b) := by
      rw [← hb2]
      refine and_congr_right fun h => ?_
      unfold bothR at h
      rw [fa, fb] at h
      rw [fa, fb, ga, gb]
      exact h1 k a b h.1 h.2
    rw [bothK, bothK, sameK, sameK, e1, e2]
    exact ⟨by simp only [hb2], by simp only [hs]⟩
theorem shareF_alike {f g : Nat → Nat → Int} {m n a b : Nat} (ha : a < n) (hb : b < n) (h0 : ∀ i c, 0 ≤ f i c ↔ 0 ≤ g i c) (h1 : ∀ i c d, 0 ≤ f i c → 0 ≤ f i d → (f i c = f i d ↔ g i c = g i d)) : shareF (otab f m n) a b = shareF (otab g m n) a b := by
  have hl : (otab f m n).length = m := by simp [otab]
  have hl2 : (otab g m n).length = m := by simp [otab]
  obtain ⟨e1, e2⟩ := tab_alike (m := m) ha hb h0 h1 m (Nat.le_refl _)
  rw [shareF, shareF, hl, hl2, e1, e2]
theorem shL_alike {f g : Nat → Nat → Int} {m n : Nat} (h0 : ∀ i c, 0 ≤ f i c ↔ 0 ≤ g i c) (h1 : ∀ i c d, 0 ≤ f i c → 0 ≤ f i d → (f i c = f i d ↔ g i c = g i d)) : shL (otab f m n) n = shL (otab g m n) n := by
  unfold shL
  refine List.map_congr_left fun k hk => ?_
  have hk : k < n * n := by simpa using hk
  have hn : 0 < n := by rcases Nat.eq_zero_or_pos n with h | h; · subst h; simp at hk
                        · exact h
  exact shareF_alike ((Nat.div_lt_iff_lt_mul hn).2 hk) (Nat.mod_lt _ hn) h0 h1
theorem own_alike {X : Nat → Nat → Int} {u : Int} (hu : 0 ≤ u) : (∀ i c, 0 ≤ ownK X i c ↔ 0 ≤ ownM X u i c) ∧ ∀ i c d, 0 ≤ ownK X i c → 0 ≤ ownK X i d → (ownK X i c = ownK X i d ↔ ownM X u i c = ownM X u i d) := by
  refine ⟨fun i c => ?_, fun i c d h1 h2 => ?_⟩
  · unfold ownM; split <;> omega
  · unfold ownM; rw [if_pos h1, if_pos h2]; omega
def someB (f : Nat → Nat → Int) (m a : Nat) : Bool := (List.range m).any fun i => decide (0 ≤ f i a)
theorem own_counts (f : Nat → Nat → Int) {m n a : Nat} (ha : a < n) : ∀ k, k ≤ m → sameK (otab f m n) a a k = bothK (otab f m n) a a k ∧ (0 < bothK (otab f m n) a a k ↔ someB f k a = true)
  | 0, _ => ⟨rfl, by simp [bothK, someB]⟩
  | k + 1, hk => by
    obtain ⟨e1, e2⟩ := own_counts f (m := m) ha k (by omega)
    have hb : bothR (otab f m n) a a k ↔ 0 ≤ f k a := by unfold bothR; rw [otab_at f (m := m) (i := k) (by omega) ha]; omega
    have hsb : someB f (k + 1) a = (someB f k a || decide (0 ≤ f k a)) := by simp [someB, List.range_succ]
    rw [bothK, sameK, e1, hsb]
    by_cases h : 0 ≤ f k a
    · simp [hb, h]
    · simp [hb, h, e2]
theorem share_own (f : Nat → Nat → Int) {m n a : Nat} (ha : a < n) : shareF (otab f m n) a a = if someB f m a = true then (1, 1) else (0, 1) := by
  have hl : (otab f m n).length = m := by simp [otab]
  obtain ⟨e1, e2⟩ := own_counts f (m := m) ha m (Nat.le_refl _)
  rw [shareF, hl, e1]
  generalize bothK (otab f m n) a a m = b at *
  by_cases h : someB f m a = true
  · have hb := e2.2 h
    rw [if_pos h, show max b 1 = b by omega]
    simp [lowF, lowN, lowD, Nat.div_self hb]
  · have hb : b = 0 := by
      rcases Nat.eq_zero_or_pos b with h3 | h3
      · exact h3
      · exact absurd (e2.1 h3) h
    subst hb
    rw [if_neg h]
    simp [lowF, lowN, lowD]
theorem share_bd (L : List (List Int)) {a b : Nat} (hL : L.length ≤ 40) : ∃ p q : Nat, shareF L a b = ((p : Int), (q : Int)) ∧ p ≤ q ∧ 1 ≤ q ∧ q ≤ 40 ∧ Nat.gcd p q = 1 := by
  have h1 := sameK_le L a b L.length
  have h2 := bothK_le L a b L.length
  rw [shareF]
  generalize sameK L a b L.length = s at *
  generalize bothK L a b L.length = t at *
  obtain ⟨T, hT⟩ : ∃ T, max t 1 = T := ⟨_, rfl⟩
  have hg : 0 < Nat.gcd s T := Nat.gcd_pos_of_pos_right _ (by omega)
  refine ⟨s / Nat.gcd s T, T / Nat.gcd s T, by simp [lowF, lowN, lowD, hT], Nat.div_le_div_right (by omega), ?_, ?_, ?_⟩
  · exact Nat.div_pos (Nat.le_of_dvd (by omega) (Nat.gcd_dvd_right s T)) hg
  · exact Nat.le_trans (Nat.div_le_self _ _) (by omega)
  · exact Nat.coprime_div_gcd_div_gcd hg
theorem cop_not {p q k : Nat} (h : Nat.gcd p q = 1) (hk : 2 ≤ k) : ¬ (p % k = 0 ∧ q % k = 0) := fun ⟨h1, h2⟩ => by
  have := Nat.dvd_gcd (Nat.dvd_of_mod_eq_zero h1) (Nat.dvd_of_mod_eq_zero h2)
  rw [h] at this
  have := Nat.le_of_dvd (by omega) this
  omega
end Go.Proofs.YtahgffjkkdbjeaaDoor
namespace Go.Proofs.YtahgffjkkdbjeaaDoor
open Go.RowKit
/-- What is planted below node up for cluster k, when pos nodes stand already: at most f merges deep. -/
def plantL (nm : Int → ByteArray) (bel : List Fr) : Nat → Int → Int → Nat → List Nd
  | 0, _, _, _ => []
  | f + 1, up, k, pos =>
    (up, nm k) :: if k < 0 then [] else
      plantL nm bel f pos (fN bel k.toNat) (pos + 1) ++ plantL nm bel f pos (fD bel k.toNat) (pos + 1 + (plantL nm bel f pos (fN bel k.toNat) (pos + 1)).length)
theorem plantL_len (nm : Int → ByteArray) (bel : List Fr) : ∀ (f : Nat) (up k : Int) (pos : Nat), (plantL nm bel f up k pos).length + 1 ≤ 2 ^ f
  | 0, _, _, _ => by simp [plantL]
  | f + 1, up, k, pos => by
    have h1 := plantL_len nm bel f pos (fN bel k.toNat) (pos + 1)
    have h2 := plantL_len nm bel f pos (fD bel k.toNat) (pos + 1 + (plantL nm bel f pos (fN bel k.toNat) (pos + 1)).length)
    rw [plantL, Nat.pow_succ]
    split
    · simp; omega
    · rw [List.length_cons, List.length_append]; omega
/-- Each merge's parts are languages or earlier merges. -/
def BelOk (n : Nat) (bel : List Fr) : Prop := ∀ i, i < bel.length → (fN bel i < i ∧ -1 - (n : Int) < fN bel i) ∧ (fD bel i < i ∧ -1 - (n : Int) < fD bel i)
/-- What stands after a merge itself and its first i parts. -/
def plAcc (nm : Int → ByteArray) (bel : List Fr) (f pos : Nat) (X Y : Int) (o1 : List Nd) : Nat → List Nd
  | 0 => o1
  | 1 => o1 ++ plantL nm bel f pos X (pos + 1)
  | _ => o1 ++ plantL nm bel f pos X (pos + 1) ++ plantL nm bel f pos Y (pos + 1 + (plantL nm bel f pos X (pos + 1)).length)
theorem plAcc_two (nm : Int → ByteArray) (bel : List Fr) (f pos : Nat) (up : Int) (j : Nat) (o : List Nd) : plAcc nm bel f pos (fN bel j) (fD bel j) (o ++ [(up, nm j)]) 2 = o ++ plantL nm bel (f + 1) up j pos := by
  rw [plantL, if_neg (by omega)]
  simp [plAcc, Int.toNat_natCast]
end Go.Proofs.YtahgffjkkdbjeaaDoor
namespace Go.Proofs.YtahgffjkkdbjeaaDoor
open Go.RowKit
theorem info_Pr : (Tryd.prog.info? 120).map (fun i => (i.zero, i.size, i.bytes)) = some (some (.agg #[.int .i64 0, .int .i64 0]), 2, 16) := by kernel_rfl
theorem push_Pr {w : World} {ops : Array Oper} {rest : List Oper} {o : Oper} {a : Act} {Q : Exit → Act → World → Prop} (hgd : o.guard = none) (s x : Operand) (ho : o.op = .call { callee := .builtin .append, args := #[s, x], argTypes := #[116, 116] })
    (base : Nat) (v : Value) (l : List Fr) (n : Nat) (hn : n = l.length) (hs : a.eval s = v) (hown : w.ownsRow base 120 2 v n (fl encFr l)) (B c : Nat) (y : Fr) (hx : a.eval x = .slice (some ⟨B, 0, none⟩) 1 c) (hB : Blk w B (encFr y).toArray 120) (hl : n < 8796093022208) (hbase : base ≤ w.heap.size)
    (h : ∀ g cap w', w'.ownsRow base 120 2 (.slice (some ⟨g, 0, none⟩) (n + 1) cap) (n + 1) (fl encFr (l ++ [y])) → w.grownBy w' v.ownBlock → (v.ownBlock = some g ∨ g = w.heap.size) → g < w'.heap.size → wpList Tryd.prog ops Q rest (a.put o.dst (.slice (some ⟨g, 0, none⟩) (n + 1) cap)) w') : wpList Tryd.prog ops Q (o :: rest) a w := by
  obtain ⟨i0, hi, hz0, hz1, hz2⟩ := info_parts info_Pr
  refine wpList_append_lies w hgd s x 116 ho base 120 i0 _ 2 16 Tryd.underlying116 hi hz0 hz1 hz2 rfl (by decide) v n (fl encFr l) hs hown ⟨B, 0, none⟩ 1 c (encFr y) hx (by simp [encFr]) (World.news_of_block (cs := (encFr y).toArray) (t := 120) (fr := (0, 0)) hB) (by intro u hu; simp [encFr] at hu; first | (subst hu; rfl) | (rcases hu with rfl | rfl <;> rfl) | (rcases hu with rfl | rfl | rfl | rfl | rfl <;> rfl)) (by omega) (by unfold maxLen; omega) (by omega) hbase _ rfl ?_
  intro g cap w' h1 h2 h3 h4
  rw [← fl_snoc] at h1
  exact h g cap w' h1 h2 h3 h4
theorem spush_Pr {w : World} {ops : Array Oper} {o : Oper} {a : Act} {K : Act → World → Prop} {Q : Exit → Act → World → Prop} {E : Prop} (hgd : o.guard = none) (s x : Operand) (ho : o.op = .call { callee := .builtin .append, args := #[s, x], argTypes := #[116, 116] })
    (base : Nat) (v : Value) (l : List Fr) (n : Nat) (hn : n = l.length) (hs : a.eval s = v) (hown : w.ownsRow base 120 2 v n (fl encFr l)) (B c : Nat) (y : Fr) (hx : a.eval x = .slice (some ⟨B, 0, none⟩) 1 c) (hB : Blk w B (encFr y).toArray 120) (hl : n < 8796093022208) (hbase : base ≤ w.heap.size)
    (h : ∀ g cap w', w'.ownsRow base 120 2 (.slice (some ⟨g, 0, none⟩) (n + 1) cap) (n + 1) (fl encFr (l ++ [y])) → w.grownBy w' v.ownBlock → (v.ownBlock = some g ∨ g = w.heap.size) → g < w'.heap.size → K (a.put o.dst (.slice (some ⟨g, 0, none⟩) (n + 1) cap)) w') : if Region.wanted o (yielded ops a.tmps) = true then Oper.wp Tryd.prog o a w K Q else E := by
  obtain ⟨i0, hi, hz0, hz1, hz2⟩ := info_parts info_Pr
  refine step_append_lies w hgd s x 116 ho base 120 i0 _ 2 16 Tryd.underlying116 hi hz0 hz1 hz2 rfl (by decide) v n (fl encFr l) hs hown ⟨B, 0, none⟩ 1 c (encFr y) hx (by simp [encFr]) (World.news_of_block (cs := (encFr y).toArray) (t := 120) (fr := (0, 0)) hB) (by intro u hu; simp [encFr] at hu; first | (subst hu; rfl) | (rcases hu with rfl | rfl <;> rfl) | (rcases hu with rfl | rfl | rfl | rfl | rfl <;> rfl)) (by omega) (by unfold maxLen; omega) (by omega) hbase _ rfl ?_
  intro g cap w' h1 h2 h3 h4
  rw [← fl_snoc] at h1
  exact h g cap w' h1 h2 h3 h4

end Go.Proofs.YtahgffjkkdbjeaaDoor
