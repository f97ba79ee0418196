/- What all walks of a seat share: memory, lists in memory, appends, regions that draw their order. Small laws that many texts share. Sets as numbers of 64 bits; slices.IndexFunc and ContainsFunc of such numbers; innov.Check at every table. The document's Check of a table; compatible sets; the first conflict of a table, in the program and in the document. phylo.groups: the sets of more than one language, not all, that fit every other; in order, each once. Plain: how many bits of a number are set, by sums of its digits. How many languages a set has, in Go's library and in the document; the order of sets. How many languages a set has, in Go's library and in the document; the order of sets. Contracts of the library that the kit has proved, laid at this dump by the kit's tool (no walk). slices.SortFunc and slices.Compact at sets: the shelf's contracts, in the words of this seat. A row of sets of the call's own after slices.SortFunc and slices.Compact. Sorting and compacting a row of sets of the call's own. Compacting a row of sets of the call's own. -/
import Derived.WalkKit
import Derived.WalkSpells
import Derived.WalkLawsBesides
import Derived.Lib.Hide
import Derived.StillTail
import Derived.Deep.Quiet
import Derived.BigQuiet
import Derived.Below
import Derived.Deep.RegionHeld3
import Derived.Test.YtkdehkkkbfackaaGreatDoorRows
import Derived.Deep.QuietTactic
import Derived.Deep.AppendLies
import Derived.Maps.AppendAt
import Derived.Deep.CutBlock
import Derived.Deep.DeepCutAuto
import Derived.Deep.RegionWith
import Derived.LoopIn
import Derived.LoopNIn
import Derived.OwnWalkIn
import Derived.RangeFuncBound
import Derived.RangeFuncCalls
import Derived.RangeFuncLeaves
import Derived.RangeFuncNested
import Derived.Shelf.Abstract
import Derived.Shelf.RegionOpen
import Derived.TacticsInMore
import Derived.RegionTactic
import Derived.BigRegion
import Derived.IntWalk
import Derived.Deep.RegionLaw
import Derived.Laws.EntriesVeiled
import Derived.Sort.Defs
import Derived.Lib.Zigzag
import Derived.Shelf.Small.Bits
import Derived.Shelf.Strconv.Itoa0
import Derived.Shelf.Strconv.Itoa1
import Derived.Shelf.LaysM
import Derived.Shelf.Strconv.Itoa2
import Derived.Shelf.Strconv.Itoa3
import Derived.Ground.SlgnProg
import Derived.Shelf.SlicesE.Equal
import Derived.Ground.SlgmProg
import Derived.Shelf.SortM.Plain
import Derived.Shelf.SortM.SortNone
import Derived.Shelf.SlGeneric
import Derived.Shelf.SlSortCmp.NoneTotal
import Derived.Ground.SlsfProg
import Derived.Test.YtkdehkkkbfackaaGreatDoorProg
import Derived.Shelf.SlicesE.Compact
namespace Go.Proofs.YtkdehkkkbfackaaGreatDoor
open Go.RowKit

theorem drewN_add (w : World) (m n : Nat) : (w.drewN m).drewN n = w.drewN (m + n) := by simp
theorem drewN_zero (w : World) : w.drewN 0 = w := rfl
theorem drewN_one (w : World) : w.drew = w.drewN 1 := rfl

theorem bl_drewN {B : Nat} {a w : World} (h : Below B a w) (n : Nat) : Below B a (w.drewN n) := ⟨h.os, h.tape, h.output, h.size, h.block⟩
theorem bl_alloc {a w : World} (h : Below a.heap.size a w) (o : Obj) : Below a.heap.size a (w.alloc o) := h.alloc h.size o
theorem bl_set {a w : World} (h : Below a.heap.size a w) (b o : Nat) (s : Option Nat) (v : Value) (hb : a.heap.size ≤ b) : Below a.heap.size a (w.setCell ⟨b, o, s⟩ v) := h.setCell (p := ⟨b, o, s⟩) hb v
theorem bl_trans {a b c : World} (h : Below a.heap.size a b) (k : Below b.heap.size b c) : Below a.heap.size a c := h.trans (k.mono h.size)
theorem bl_of_drewN (w : World) {w' : World} (h : ∃ n, w' = w.drewN n) : Below w.heap.size w w' := by
  obtain ⟨n, rfl⟩ := h
  exact bl_drewN (Below.refl _ _) n

/-- From 'a' cells are read: the list cs. -/
def Rd (w : World) (a : Option Addr) (cs : List Value) : Prop :=
  0 < cs.length → ∃ b off, a = some ⟨b, off, none⟩ ∧ b < w.heap.size ∧ ∀ i, i < cs.length → w.cell? ⟨b, off + i, none⟩ = some (cs.getD i undef)

theorem Rd.nil (w : World) (a : Option Addr) : Rd w a [] := fun h => absurd h (by simp)
theorem Rd.below {w w' : World} {a : Option Addr} {cs : List Value} (h : Rd w a cs) {B : Nat} (hb : Below B w w') (hB : w.heap.size ≤ B) : Rd w' a cs := by
  intro h0
  obtain ⟨b, off, e, hlt, hc⟩ := h h0
  exact ⟨b, off, e, Nat.lt_of_lt_of_le hlt hb.size, fun i hi => (hb.cell (p := ⟨b, off + i, none⟩) (Nat.lt_of_lt_of_le hlt hB)).trans (hc i hi)⟩
theorem Rd.bl {w w' : World} {a : Option Addr} {cs : List Value} (h : Rd w a cs) (hb : Below w.heap.size w w') : Rd w' a cs := h.below hb (Nat.le_refl _)
theorem Rd.drewN {w : World} {a : Option Addr} {cs : List Value} (h : Rd w a cs) (n : Nat) : Rd (w.drewN n) a cs := h

/-- The cells of a list of elements. -/
def fl {α : Type} (enc : α → List Value) (l : List α) : List Value := l.flatMap enc

theorem fl_length {α : Type} {enc : α → List Value} {k : Nat} (hk : ∀ x, (enc x).length = k) (l : List α) : (fl enc l).length = l.length * k := by
  induction l with
  | nil => simp [fl]
  | cons x l ih =>
    have : fl enc (x :: l) = enc x ++ fl enc l := by simp [fl]
    rw [this, List.length_append, hk, ih, List.length_cons, Nat.succ_mul]
    omega

theorem fl_getElem? {α : Type} {enc : α → List Value} {k : Nat} (hk : ∀ x, (enc x).length = k) (l : List α) (i j : Nat) (hj : j < k) :
    (fl enc l)[i * k + j]? = (l[i]?).bind fun x => (enc x)[j]? := by
  induction l generalizing i with
  | nil => simp [fl]
  | cons x l ih =>
    have : fl enc (x :: l) = enc x ++ fl enc l := by simp [fl]
    rw [this]
    cases i with
    | zero =>
      rw [List.getElem?_append_left (by rw [hk]; omega)]
      simp
    | succ i =>
      rw [List.getElem?_append_right (by rw [hk, Nat.succ_mul]; omega), hk, show (i + 1) * k + j - k = i * k + j by rw [Nat.succ_mul]; omega, ih]
      simp

theorem fl_append {α : Type} (enc : α → List Value) (l m : List α) : fl enc (l ++ m) = fl enc l ++ fl enc m := by simp [fl]
theorem fl_snoc {α : Type} (enc : α → List Value) (l : List α) (x : α) : fl enc (l ++ [x]) = fl enc l ++ enc x := by simp [fl]
theorem fl_nil {α : Type} (enc : α → List Value) : fl enc ([] : List α) = [] := rfl

/-- What is read of element i, cell j. -/
theorem rd_elem {α : Type} {enc : α → List Value} {k : Nat} (hk : ∀ x, (enc x).length = k) {l : List α} {w : World} {a : Option Addr} (h : Rd w a (fl enc l)) (hk0 : 0 < k) (h0 : 0 < l.length) :
    ∃ b off, a = some ⟨b, off, none⟩ ∧ b < w.heap.size ∧ ∀ i (hi : i < l.length) j, j < k → w.cell? ⟨b, off + (i * k + j), none⟩ = (enc l[i])[j]? := by
  have hlen := fl_length hk l
  have hpos : 0 < l.length * k := Nat.mul_pos h0 hk0
  obtain ⟨b, off, e, hlt, hc⟩ := h (by omega)
  refine ⟨b, off, e, hlt, fun i hi j hj => ?_⟩
  have hik : i * k + j < l.length * k := by
    have : (i + 1) * k ≤ l.length * k := Nat.mul_le_mul_right _ hi
    rw [Nat.succ_mul] at this
    omega
  rw [hc (i * k + j) (by omega)]
  have := fl_getElem? hk l i j hj
  rw [List.getElem?_eq_getElem hi] at this
  simp only [Option.bind_some] at this
  rw [← this, List.getD_eq_getElem?_getD, List.getElem?_eq_getElem (by omega)]
  simp

/-- An owned slice is read. -/
theorem rd_of_owns {w : World} {base e k : Nat} {a : Option Addr} {n cap : Nat} {cs : List Value} (h : w.ownsRow base e k (.slice a n cap) n cs) : Rd w a cs := by
  intro h0
  rcases h.2 with ⟨hv, hn⟩ | ⟨g, cap', cur, hv, hg, hh, hnc, hcm, hcs, ht⟩
  · have := h.1
    subst hn
    simp at this
    rw [this] at h0
    simp at h0
  · simp only [Value.slice.injEq] at hv
    obtain ⟨rfl, _, rfl⟩ := hv
    refine ⟨g, 0, rfl, (Array.getElem?_eq_some_iff.1 hh).1, fun i hi => ?_⟩
    rw [World.cell?]
    simp only [hh]
    have hlt : i < n * k := by rw [← h.1]; exact hi
    have hsz : i < cur.size := by rw [hcs]; exact Nat.lt_of_lt_of_le hlt (Nat.mul_le_mul_right _ hnc)
    simp only [Option.isSome_none, Bool.false_eq_true, if_false, Nat.zero_add]
    rw [← ht, List.getD_eq_getElem?_getD, List.getElem?_take, if_pos hlt]
    simp [hsz]

theorem owns_slice {w : World} {base e k : Nat} {v : Value} {n : Nat} {cs : List Value} (h : w.ownsRow base e k v n cs) : ∃ a cap, v = .slice a n cap ∧ (n = 0 ∨ ∃ g, base ≤ g ∧ g < w.heap.size ∧ a = some ⟨g, 0, none⟩) := by
  rcases h.2 with ⟨rfl, rfl⟩ | ⟨g, cap', cur, rfl, hg, hh, _⟩
  · exact ⟨none, 0, rfl, .inl rfl⟩
  · exact ⟨some ⟨g, 0, none⟩, cap', rfl, .inr ⟨g, hg, (Array.getElem?_eq_some_iff.1 hh).1, rfl⟩⟩

theorem owns_below {w w' : World} {base e k : Nat} {v : Value} {n : Nat} {cs : List Value} (h : w.ownsRow base e k v n cs) (hb : Below w.heap.size w w') : w'.ownsRow base e k v n cs := by
  refine ⟨h.1, ?_⟩
  rcases h.2 with h2 | ⟨g, cap, cur, hv, hg, hh, r⟩
  · exact .inl h2
  · exact .inr ⟨g, cap, cur, hv, hg, by rw [hb.block g (Array.getElem?_eq_some_iff.1 hh).1]; exact hh, r⟩

theorem owns_mono {w : World} {base base' e k : Nat} {v : Value} {n : Nat} {cs : List Value} (h : w.ownsRow base e k v n cs) (hb : base' ≤ base) : w.ownsRow base' e k v n cs := by
  refine ⟨h.1, ?_⟩
  rcases h.2 with h2 | ⟨g, cap, cur, hv, hg, hh, r⟩
  · exact .inl h2
  · exact .inr ⟨g, cap, cur, hv, Nat.le_trans hb hg, hh, r⟩

/-- A block of cells that is known whole. -/
def Blk (w : World) (B : Nat) (cs : Array Value) (t : TypeId) : Prop := w.heap[B]? = some (.cells cs t (0, 0))

theorem Blk.lt {w : World} {B : Nat} {cs : Array Value} {t : TypeId} (h : Blk w B cs t) : B < w.heap.size := (Array.getElem?_eq_some_iff.1 h).1
theorem Blk.cell {w : World} {B : Nat} {cs : Array Value} {t : TypeId} (h : Blk w B cs t) (i : Nat) : w.cell? ⟨B, i, none⟩ = cs[i]? := by
  unfold Blk at h
  simp [World.cell?, h]
theorem Blk.free {w : World} {B : Nat} {cs : Array Value} {t : TypeId} (h : Blk w B cs t) (i : Nat) : w.frozen? ⟨B, i, none⟩ = false := by
  unfold Blk at h
  simp [World.frozen?, h]
theorem Blk.new (w : World) (cs : Array Value) (t : TypeId) : Blk (w.alloc (.cells cs t)) w.heap.size cs t := heap_alloc_new w _
theorem Blk.alloc {w : World} {B : Nat} {cs : Array Value} {t : TypeId} (h : Blk w B cs t) (o : Obj) : Blk (w.alloc o) B cs t := (Below.heap_alloc w o B h.lt).trans h
theorem Blk.drewN {w : World} {B : Nat} {cs : Array Value} {t : TypeId} (h : Blk w B cs t) (n : Nat) : Blk (w.drewN n) B cs t := h
theorem Blk.below {w w' : World} {B : Nat} {cs : Array Value} {t : TypeId} (h : Blk w B cs t) (hb : Below w.heap.size w w') : Blk w' B cs t := (hb.block B h.lt).trans h
theorem Blk.set {w : World} {B : Nat} {cs : Array Value} {t : TypeId} (h : Blk w B cs t) (i : Nat) (v : Value) : Blk (w.setCell ⟨B, i, none⟩ v) B (cs.setIfInBounds i v) t := by
  unfold Blk at *
  simp [World.setCell, Array.getElem?_modify, h]
theorem Blk.other {w : World} {B B' : Nat} {cs : Array Value} {t : TypeId} (h : Blk w B cs t) (hne : B ≠ B') (i : Nat) (v : Value) : Blk (w.setCell ⟨B', i, none⟩ v) B cs t :=
  (Below.heap_setCell w ⟨B', i, none⟩ v B hne).trans h
theorem Blk.grown {w w' : World} {B : Nat} {cs : Array Value} {t : TypeId} {row : Option Nat} (h : Blk w B cs t) (hg : w.grownBy w' row) (hr : some B ≠ row) : Blk w' B cs t := (hg.block B h.lt hr).trans h

theorem ba_inj {x y : ByteArray} : x.toList = y.toList ↔ x = y := by
  constructor
  · intro h
    rw [ByteArray.toList_eq, ByteArray.toList_eq] at h
    obtain ⟨⟨x⟩⟩ := x
    obtain ⟨⟨y⟩⟩ := y
    simp at h
    rw [h]
  · intro h; rw [h]
theorem ret_b {a b : Bool} (h : a = b) : Ending.returned (.bool a) = .returned (.bool b) := by rw [h]
theorem ret_i {k : IntKind} {a b : Int} (h : a = b) : Ending.returned (.int k a) = .returned (.int k b) := by rw [h]

/-- The first place at which p holds, or -1. -/
def idxF {α : Type} (p : α → Bool) (l : List α) : Int := if l.any p then (l.findIdx p : Int) else -1
def NoneBefore {α : Type} (p : α → Bool) (l : List α) (k : Nat) : Prop := ∀ i (h : i < l.length), i < k → p l[i] = false
theorem NoneBefore.zero {α : Type} (p : α → Bool) (l : List α) : NoneBefore p l 0 := fun _ _ h => absurd h (by omega)
theorem NoneBefore.next {α : Type} {p : α → Bool} {l : List α} {k : Nat} (h : NoneBefore p l k) (hk : k < l.length) (hp : p l[k] = false) : NoneBefore p l (k + 1) := by
  intro i hi hik
  by_cases e : i = k
  · subst e; exact hp
  · exact h i hi (by omega)
theorem NoneBefore.found {α : Type} {p : α → Bool} {l : List α} {k : Nat} (h : NoneBefore p l k) (hk : k < l.length) (hp : p l[k] = true) : idxF p l = k := by
  have ha : l.any p = true := List.any_eq_true.2 ⟨l[k], List.getElem_mem hk, hp⟩
  have he : l.findIdx p = k := (List.findIdx_eq hk).2 ⟨hp, fun j hj => h j (by omega) hj⟩
  rw [idxF, if_pos ha, he]
theorem NoneBefore.any {α : Type} {p : α → Bool} {l : List α} {k : Nat} (h : NoneBefore p l k) (hk : l.length ≤ k) : l.any p = false := by
  rw [List.any_eq_false]
  intro x hx
  obtain ⟨i, hi, rfl⟩ := List.getElem_of_mem hx
  rw [h i hi (by omega)]
  simp
theorem NoneBefore.none {α : Type} {p : α → Bool} {l : List α} {k : Nat} (h : NoneBefore p l k) (hk : l.length ≤ k) : idxF p l = -1 := by
  rw [idxF, if_neg (by rw [h.any hk]; simp)]
theorem idxF_ge {α : Type} (p : α → Bool) (l : List α) : decide (0 ≤ idxF p l) = l.any p := by
  rw [idxF]
  split <;> simp_all

theorem owns_cell {w : World} {base e k g n cap : Nat} {xs : List Value} (h : w.ownsRow base e k (.slice (some ⟨g, 0, none⟩) n cap) n xs) (j : Nat) (hj : j < n * k) : ∃ v, w.cell? ⟨g, j, none⟩ = some v := by
  rw [h.cellAt j hj, List.getElem?_eq_getElem (by rw [h.1]; exact hj)]
  exact ⟨_, rfl⟩

/-- A list that is filled from the front: k elements are done. -/
def done {α β : Type} (f : α → β) (z : β) (l : List α) (k : Nat) : List β := (l.take k).map f ++ List.replicate (l.length - k) z
theorem done_length {α β : Type} (f : α → β) (z : β) (l : List α) (k : Nat) : (done f z l k).length = l.length := by simp [done]; omega
theorem done_zero {α β : Type} (f : α → β) (z : β) (l : List α) : done f z l 0 = List.replicate l.length z := by simp [done]
theorem done_all {α β : Type} (f : α → β) (z : β) (l : List α) (k : Nat) (hk : l.length ≤ k) : done f z l k = l.map f := by
  rw [done, List.take_of_length_le hk, show l.length - k = 0 by omega]
  simp
theorem done_set {α β : Type} (f : α → β) (z : β) (l : List α) (k : Nat) (hk : k < l.length) : (done f z l k).set k (f l[k]) = done f z l (k + 1) := by
  have hl : ((l.take k).map f).length = k := by simp; omega
  rw [done, done, List.set_append_right _ _ (by omega), hl, Nat.sub_self, show l.length - k = (l.length - (k + 1)) + 1 by omega, List.replicate_succ, List.set_cons_zero, List.take_succ_eq_append_getElem hk, List.map_append, List.append_assoc]
  rfl

theorem made_cells {α : Type} (enc : α → List Value) (k : Nat) (hk : ∀ x, (enc x).length = k) (hk0 : 0 < k) (x : α) (n : Nat) : (madeCells (enc x).toArray (n * k)).toList = fl enc (List.replicate n x) := by
  apply List.ext_getElem?
  intro i
  by_cases hi : i < n * k
  · have hq : i / k < n := (Nat.div_lt_iff_lt_mul hk0).2 hi
    have hr : i % k < k := Nat.mod_lt _ hk0
    have e := fl_getElem? hk (List.replicate n x) (i / k) (i % k) hr
    rw [show i / k * k + i % k = i by rw [Nat.mul_comm]; exact Nat.div_add_mod i k] at e
    have hs : (enc x).toArray.size = k := by simp [hk]
    rw [e]
    simp [madeCells, hk, hi, hq, hr]
  · rw [List.getElem?_eq_none (by simp [madeCells]; omega), List.getElem?_eq_none (by rw [fl_length hk]; simp; omega)]

theorem owns_made {w : World} {base e k n : Nat} {cs : Array Value} (hb : base ≤ w.heap.size) (hc : cs.size = n * k) (hn : n ≤ maxLen) : (w.alloc (.cells cs e)).ownsRow base e k (.slice (some ⟨w.heap.size, 0, none⟩) n n) n cs.toList :=
  ⟨by simpa using hc, .inr ⟨w.heap.size, n, cs, rfl, hb, heap_alloc_new w _, Nat.le_refl _, hn, hc, by rw [← hc, ← Array.length_toList]; exact List.take_length⟩⟩

/-- A block of n cells, told by a function. -/
def ofF (n : Nat) (g : Nat → Value) : Array Value := Array.ofFn (n := n) fun i => g i.val
theorem ofF_size (n : Nat) (g : Nat → Value) : (ofF n g).size = n := by simp [ofF]
theorem ofF_get (n : Nat) (g : Nat → Value) (i : Nat) (h : i < n) : (ofF n g)[i]? = some (g i) := by simp [ofF, h]
theorem ofF_set (n : Nat) (g : Nat → Value) (i : Nat) (v : Value) : (ofF n g).setIfInBounds i v = ofF n (fun j => if j = i then v else g j) := by
  apply Array.ext
  · simp [ofF]
  · intro j h1 h2
    simp only [ofF_size] at h2
    rw [Array.getElem_setIfInBounds (by rw [ofF_size]; exact h2)]
    simp only [ofF, Array.getElem_ofFn]
    by_cases e : i = j
    · subst e; simp
    · rw [if_neg e, if_neg (fun h => e h.symm)]
theorem ofF_congr {n : Nat} {g g' : Nat → Value} (h : ∀ i, i < n → g i = g' i) : ofF n g = ofF n g' := by
  unfold ofF
  congr 1
  funext i
  exact h i.val i.isLt
theorem Blk.getF {w : World} {B n : Nat} {g : Nat → Value} {t : TypeId} (h : Blk w B (ofF n g) t) (i : Nat) (hi : i < n) : w.cell? ⟨B, i, none⟩ = some (g i) := (h.cell i).trans (ofF_get n g i hi)
theorem Blk.setF {w : World} {B n : Nat} {g : Nat → Value} {t : TypeId} (h : Blk w B (ofF n g) t) (i : Nat) (v : Value) : Blk (w.setCell ⟨B, i, none⟩ v) B (ofF n fun j => if j = i then v else g j) t := by
  have := h.set i v
  rwa [ofF_set] at this

theorem Blk.new2 (w : World) (o : Obj) (cs : Array Value) (t : TypeId) : Blk ((w.alloc o).alloc (.cells cs t)) (w.heap.size + 1) cs t := by
  have := Blk.new (w.alloc o) cs t
  simpa using this

theorem blk_stored2 {w : World} {B : Nat} {u0 u1 v0 v1 : Value} {t : TypeId} (h : Blk w B #[u0, u1] t) : Blk ((w.setCell ⟨B, 0, none⟩ v0).setCell ⟨B, 1, none⟩ v1) B #[v0, v1] t := by
  have := (h.set 0 v0).set 1 v1
  simpa using this
theorem bl_sets2 {a w : World} (h : Below a.heap.size a w) (v0 v1 : Value) : Below a.heap.size a ((w.setCell ⟨a.heap.size, 0, none⟩ v0).setCell ⟨a.heap.size, 1, none⟩ v1) :=
  bl_set (bl_set h _ _ _ _ (Nat.le_refl _)) _ _ _ _ (Nat.le_refl _)

theorem wrap_nat (x : Int) (m : Nat) (h : x = m) (hm : m ≤ 9223372036854775807) : IntKind.i64.wrap x = (m : Int) := by
  rw [h]; exact IntWalk.i64_in _ ⟨by omega, by omega⟩

end Go.Proofs.YtkdehkkkbfackaaGreatDoor
namespace Go.Proofs.YtkdehkkkbfackaaGreatDoor
open Go.RowKit
abbrev Nd := Int × ByteArray
def iA (l : List Int) (i : Nat) : Int := (l.getD i 0)
def encI (x : Int) : List Value := [.int .i64 x]
theorem encI_len (x : Int) : (encI x).length = 1 := rfl
theorem rdI {l : List Int} {w : World} {a : Option Addr} (h : Rd w a (fl encI l)) (h0 : 0 < l.length) : ∃ b off, a = some ⟨b, off, none⟩ ∧ b < w.heap.size ∧ ∀ i, i < l.length → w.cell? ⟨b, off + i, none⟩ = some (.int .i64 (iA l i)) := by
  obtain ⟨b, off, e, hb, hc⟩ := rd_elem encI_len h (by omega) h0
  refine ⟨b, off, e, hb, fun i hi => ?_⟩
  have := hc i hi 0 (by omega); simpa [encI, iA, hi, ← Nat.add_assoc] using this

def sA (l : List ByteArray) (i : Nat) : ByteArray := (l.getD i ByteArray.empty)
def encS (x : ByteArray) : List Value := [.string x]
theorem encS_len (x : ByteArray) : (encS x).length = 1 := rfl
theorem rdS {l : List ByteArray} {w : World} {a : Option Addr} (h : Rd w a (fl encS l)) (h0 : 0 < l.length) : ∃ b off, a = some ⟨b, off, none⟩ ∧ b < w.heap.size ∧ ∀ i, i < l.length → w.cell? ⟨b, off + i, none⟩ = some (.string (sA l i)) := by
  obtain ⟨b, off, e, hb, hc⟩ := rd_elem encS_len h (by omega) h0
  refine ⟨b, off, e, hb, fun i hi => ?_⟩
  have := hc i hi 0 (by omega); simpa [encS, sA, hi, ← Nat.add_assoc] using this

def nP (l : List Nd) (i : Nat) : Int := (l.getD i (0, ByteArray.empty)).1
def nS (l : List Nd) (i : Nat) : ByteArray := (l.getD i (0, ByteArray.empty)).2
def encNd (x : Nd) : List Value := [.int .i64 x.1, .string x.2]
theorem encNd_len (x : Nd) : (encNd x).length = 2 := rfl
theorem rdNd {l : List Nd} {w : World} {a : Option Addr} (h : Rd w a (fl encNd l)) (h0 : 0 < l.length) : ∃ b off, a = some ⟨b, off, none⟩ ∧ b < w.heap.size ∧ ∀ i, i < l.length → w.cell? ⟨b, off + i * 2, none⟩ = some (.int .i64 (nP l i)) ∧ w.cell? ⟨b, off + i * 2 + 1, none⟩ = some (.string (nS l i)) := by
  obtain ⟨b, off, e, hb, hc⟩ := rd_elem encNd_len h (by omega) h0
  refine ⟨b, off, e, hb, fun i hi => ⟨?_, ?_⟩⟩
  · have := hc i hi 0 (by omega); simpa [encNd, nP, hi, ← Nat.add_assoc] using this
  · have := hc i hi 1 (by omega); simpa [encNd, nS, hi, ← Nat.add_assoc] using this

/-- A slice's value: address, length, capacity. -/
abbrev Rw := Option Addr × Nat × Nat
def rA (l : List Rw) (i : Nat) : Option Addr := (l.getD i (none, 0, 0)).1
def rN (l : List Rw) (i : Nat) : Nat := (l.getD i (none, 0, 0)).2.1
def rC (l : List Rw) (i : Nat) : Nat := (l.getD i (none, 0, 0)).2.2
def encR (x : Rw) : List Value := [.slice x.1 x.2.1 x.2.2]
theorem encR_len (x : Rw) : (encR x).length = 1 := rfl
theorem rdR {l : List Rw} {w : World} {a : Option Addr} (h : Rd w a (fl encR l)) (h0 : 0 < l.length) : ∃ b off, a = some ⟨b, off, none⟩ ∧ b < w.heap.size ∧ ∀ i, i < l.length → w.cell? ⟨b, off + i, none⟩ = some (.slice (rA l i) (rN l i) (rC l i)) := by
  obtain ⟨b, off, e, hb, hc⟩ := rd_elem encR_len h (by omega) h0
  refine ⟨b, off, e, hb, fun i hi => ?_⟩
  have := hc i hi 0 (by omega); simpa [encR, rA, rN, rC, hi, ← Nat.add_assoc] using this

def vA (l : List Nat) (i : Nat) : Nat := l.getD i 0
def encV (x : Nat) : List Value := [.int .u64 x]
theorem encV_len (x : Nat) : (encV x).length = 1 := rfl
theorem rdV {l : List Nat} {w : World} {a : Option Addr} (h : Rd w a (fl encV l)) (h0 : 0 < l.length) : ∃ b off, a = some ⟨b, off, none⟩ ∧ b < w.heap.size ∧ ∀ i, i < l.length → w.cell? ⟨b, off + i, none⟩ = some (.int .u64 (vA l i)) := by
  obtain ⟨b, off, e, hb, hc⟩ := rd_elem encV_len h (by omega) h0
  refine ⟨b, off, e, hb, fun i hi => ?_⟩
  have := hc i hi 0 (by omega); simpa [encV, vA, hi, ← Nat.add_assoc] using this
def bA (l : List Bool) (i : Nat) : Bool := l.getD i false
def encB (x : Bool) : List Value := [.bool x]
theorem encB_len (x : Bool) : (encB x).length = 1 := rfl
theorem rdB {l : List Bool} {w : World} {a : Option Addr} (h : Rd w a (fl encB l)) (h0 : 0 < l.length) : ∃ b off, a = some ⟨b, off, none⟩ ∧ b < w.heap.size ∧ ∀ i, i < l.length → w.cell? ⟨b, off + i, none⟩ = some (.bool (bA l i)) := by
  obtain ⟨b, off, e, hb, hc⟩ := rd_elem encB_len h (by omega) h0
  refine ⟨b, off, e, hb, fun i hi => ?_⟩
  have := hc i hi 0 (by omega); simpa [encB, bA, hi, ← Nat.add_assoc] using this
end Go.Proofs.YtkdehkkkbfackaaGreatDoor
namespace Go.Proofs.YtkdehkkkbfackaaGreatDoor
open Go
section
variable {P : Program} {ops : Array Oper} {md : Region.Mode} {S : World → Prop} {Q : Exit → Act → World → Prop}

/-- The forced operations that keep S, one after another; then K. -/
def midT (P : Program) (ops : Array Oper) (Q : Exit → Act → World → Prop) (S : World → Prop) (K : Act → World → Prop) : List Nat → Act → World → Prop
  | [], a, w => K a w
  | k :: ms, a, w => wpOp P ops Q k (fun a' w' => S w' ∧ midT P ops Q S K ms a' w') a w

/-- The reads, one after another: the world stays. -/
def headT (P : Program) (ops : Array Oper) (S : World → Prop) (L : Act → Prop) : List Nat → Act → Prop
  | [], a => L a
  | k :: is, a => ∃ o v, ops[k]? = some o ∧ YieldsIf P ops S o v a ∧ headT P ops S L is (a.put o.dst v)

/-- Whatever order is picked for the first n; the others are forced. -/
def anyT (P : Program) (md : Region.Mode) (ops : Array Oper) (Q : Exit → Act → World → Prop) (S : World → Prop) (n : Nat) (K : Act → World → Prop) : Nat → Array Bool → Act → World → Prop
  | 0, listed, a, w => Region.seqB md ops (ops.size - n) n listed = true ∧ K a w
  | f + 1, listed, a, w => Region.ready md ops listed ≠ [] ∧ ∀ i ∈ Region.ready md ops listed, i < n ∧ wpOp P ops Q i (fun a' w' => S w' ∧ anyT P md ops Q S n K f (listed.setIfInBounds i true) a' w') a w

theorem any_of_T {n g : Nat} {K : Act → World → Prop} (hK : ∀ listed a w, Region.seqB md ops (ops.size - n) n listed = true → K a w → wpAny P md ops Q g listed a w) :
    ∀ (f : Nat) (listed : Array Bool) (a : Act) (w : World), anyT P md ops Q S n K f listed a w → wpAny P md ops Q (f + g) listed a w
  | 0, listed, a, w, h => by rw [Nat.zero_add]; exact hK _ _ _ h.1 h.2
  | f + 1, listed, a, w, h => by
    rw [show f + 1 + g = (f + g) + 1 by omega]
    exact ⟨fun h0 => absurd h0 h.1, fun i hi => wpOp_mono (fun a' w' h' => any_of_T hK f _ a' w' h'.2) (h.2 i hi).2⟩

theorem anyT_first {n i : Nat} {K : Act → World → Prop} {oi : Oper} {v : Value} (hi : ops[i]? = some oi) (hsel : ∀ (j : Nat) (o : Oper) cs b, ops[j]? = some o → o.op ≠ .select cs b)
    (hs : Region.sinkB md ops n = true) (hc : Region.chainB md ops n = true) (hn : n < ops.size) (hin : i < n)
    (hQ : ∀ c a w, Q (.panic c) (a.put oi.dst v) w → Q (.panic c) a w) :
    ∀ (f : Nat) (listed : Array Bool) (a : Act) (w : World), HeadInv md ops n listed →
      (∀ j oj, ops[j]? = some oj → j ≠ i → listed.getD j true = false → (∀ e ∈ oj.after, Region.binds md e = true → e.on ≠ i) → oi.apart ops oj = true) →
      i ∈ Region.ready md ops listed → YieldsIf P ops S oi v a → S w →
      anyT P md ops Q S n K f (listed.setIfInBounds i true) (a.put oi.dst v) w → anyT P md ops Q S n K (f + 1) listed a w := by
  intro f
  induction f with
  | zero =>
    intro listed a w inv _ hr hy hS H
    have hun := (mem_ready.1 hr).1
    refine ⟨fun h => (by rw [h] at hr; cases hr), fun j hj => ?_⟩
    have hjn : j < n := by
      rcases Nat.lt_or_ge j n with h | h
      · exact h
      · exact absurd hj (tail_waits hs hc hn inv _ i rfl hin hun j h)
    refine ⟨hjn, ?_⟩
    by_cases hji : j = i
    · subst hji; exact hy.wpOp hi hS ⟨hS, H⟩
    · have := seqB_ready H.1 j (ready_mono hj hji)
      omega
  | succ f ih =>
    intro listed a w inv hfree hr hy hS H
    have hun := (mem_ready.1 hr).1
    refine ⟨fun h => (by rw [h] at hr; cases hr), fun j hj => ?_⟩
    have hjn : j < n := by
      rcases Nat.lt_or_ge j n with h | h
      · exact h
      · exact absurd hj (tail_waits hs hc hn inv _ i rfl hin hun j h)
    refine ⟨hjn, ?_⟩
    by_cases hji : j = i
    · subst hji; exact hy.wpOp hi hS ⟨hS, H⟩
    · have h1 := (H.2 j (ready_mono hj hji)).2
      obtain ⟨hjun, oj, hoj, hall⟩ := mem_ready.1 hj
      have hnot : ∀ e ∈ oj.after, Region.binds md e = true → e.on ≠ i := fun e he hb heq => by
        have h1 := hall e he hb
        rw [heq, getD_both hun] at h1
        cases h1
      have h2 := wpOp_putIf hoj (hfree j oj hoj hji hjun hnot) (fun cs b => hsel i oi cs b hi) (fun cs b => hsel j oj cs b hoj) hQ hy h1
      have hfree' : ∀ k ok, ops[k]? = some ok → k ≠ i → (listed.setIfInBounds j true).getD k true = false →
          (∀ e ∈ ok.after, Region.binds md e = true → e.on ≠ i) → oi.apart ops ok = true := fun k ok hk hki hun hno => by
        refine hfree k ok hk hki ?_ hno
        by_cases hjk : j = k
        · subst hjk; exact hjun
        · rw [getD_set_ne true hjk] at hun; exact hun
      refine wpOp_mono (fun a' w' h3 => ⟨h3.2.1, ih (listed.setIfInBounds j true) a' w' (inv.set hj hjn) hfree' (ready_mono hr (Ne.symm hji)) h3.1 h3.2.1 ?_⟩) h2
      rw [Array.setIfInBounds_comm _ _ hji]
      exact h3.2.2

/-- The forced operations' numbers: each alone may come up. -/
def seqL (md : Region.Mode) (ops : Array Oper) (n : Nat) : List Nat → Array Bool → Bool
  | [], listed => Region.seqB md ops (ops.size - n) n listed
  | k :: ms, listed => decide (Region.ready md ops listed = [k]) && decide (k < n) && seqL md ops n ms (listed.setIfInBounds k true)
/-- The reads' numbers, each free when it comes up, then the forced ones. -/
def headL (md : Region.Mode) (ops : Array Oper) (n : Nat) (ms : List Nat) : List Nat → Array Bool → Bool
  | [], listed => seqL md ops n ms listed
  | k :: is, listed => (Region.ready md ops listed).contains k && Region.free md ops listed k && decide (k < n) && headL md ops n ms is (listed.setIfInBounds k true)
def orderB (md : Region.Mode) (ops : Array Oper) (n : Nat) (is ms : List Nat) : Bool :=
  Region.noSelect ops && decide (is.length + ms.length = n) && decide (n < ops.size) && Region.sinkB md ops n && Region.chainB md ops n && headL md ops n ms is (Array.replicate ops.size false)

theorem anyT_seq {n : Nat} {K : Act → World → Prop} : ∀ (ms : List Nat) (listed : Array Bool) (a : Act) (w : World), seqL md ops n ms listed = true → midT P ops Q S K ms a w → anyT P md ops Q S n K ms.length listed a w
  | [], listed, a, w, hB, h => ⟨hB, h⟩
  | k :: ms, listed, a, w, hB, h => by
    rw [seqL] at hB
    simp only [Bool.and_eq_true, decide_eq_true_eq] at hB
    obtain ⟨⟨h1, h2⟩, h3⟩ := hB
    refine ⟨fun h0 => (by rw [h1] at h0; cases h0), fun i hi => ?_⟩
    rw [h1] at hi
    obtain rfl : i = k := by simpa using hi
    exact ⟨h2, wpOp_mono (fun a' w' h' => ⟨h'.1, anyT_seq ms _ a' w' h3 h'.2⟩) h⟩

theorem anyT_head {n : Nat} {K : Act → World → Prop} (hsel : Region.noSelect ops = true) (hs : Region.sinkB md ops n = true) (hc : Region.chainB md ops n = true) (hn : n < ops.size)
    (hQ : ∀ c a d v w, Q (.panic c) (Act.put a d v) w → Q (.panic c) a w) {ms : List Nat} :
    ∀ (is : List Nat) (listed : Array Bool) (a : Act) (w : World), HeadInv md ops n listed → headL md ops n ms is listed = true → S w →
      headT P ops S (fun a' => midT P ops Q S K ms a' w) is a → anyT P md ops Q S n K (is.length + ms.length) listed a w
  | [], listed, a, w, _, hB, _, h => by
    rw [List.length_nil, Nat.zero_add]
    exact anyT_seq ms listed a w hB h
  | i :: is, listed, a, w, inv, hB, hS, h => by
    rw [headL] at hB
    simp only [Bool.and_eq_true, decide_eq_true_eq] at hB
    obtain ⟨⟨⟨h1, h2⟩, h3⟩, h4⟩ := hB
    obtain ⟨o, v, ho, hy, hk⟩ := h
    have hr : i ∈ Region.ready md ops listed := by simpa using h1
    have := anyT_first ho (Region.noSelect_spec hsel) hs hc hn h3 (fun c a w => hQ c a _ _ w) (is.length + ms.length) listed a w inv (Region.free_spec ho h2) hr hy hS (anyT_head hsel hs hc hn hQ is _ _ w (inv.set hr h3) h4 hS hk)
    rw [List.length_cons, show is.length + 1 + ms.length = is.length + ms.length + 1 by omega]
    exact this

/-- READS FIRST, THEN FORCED ONES THAT KEEP WHAT WAS READ, then the forced end, which may write it. -/
theorem wp_region_order {id : Nat} {a : Act} {w : World} {l : List Oper} (n : Nat) (is ms : List Nat) (hm : P.follows .mixedOrders = true) (hB : orderB .any l.toArray n is ms = true)
    (hS : S w.drew)
    (h : headT P l.toArray S (fun a' => midT P l.toArray (NoPanic Q) S (wpList P l.toArray (NoPanic Q) (l.drop n)) ms a' w.drew) is a) : (Code.region id l.toArray true).wp P Q a w := by
  simp only [orderB, Bool.and_eq_true, decide_eq_true_eq] at hB
  obtain ⟨⟨⟨⟨⟨hsel, hlen⟩, hn⟩, hs⟩, hc⟩, hB⟩ := hB
  have inv0 : HeadInv .any l.toArray n (Array.replicate l.toArray.size false) :=
    ⟨by simp, fun j oj _ hl => (by rw [getD_replicate_false] at hl; cases hl), fun t _ ht => getD_in (by simpa using ht) (getD_replicate_false _ _)⟩
  refine wp_region_noPanic (wp_region_any hm ?_)
  have hdl : (l.drop n).length = l.toArray.size - n := by simp
  have := any_of_T (Q := NoPanic Q) (g := l.toArray.size - n) (fun listed a' w' h1 h2 => by
    have := wpAny_of_seq (md := .any) (Q' := NoPanic Q) (l.drop n) n listed a' w' (fun j => by simp [List.getElem?_drop]) (by rw [hdl]; exact h1) h2
    rwa [hdl] at this) _ _ _ _ (anyT_head (Q := NoPanic Q) hsel hs hc hn (fun _ _ _ _ _ h => h) is _ a w.drew inv0 hB hS h)
  rw [hlen, show n + (l.toArray.size - n) = l.toArray.size by omega] at this
  exact this

theorem get_of_drop {l r : List Oper} {k : Nat} {o : Oper} (h : l.drop k = o :: r) : l.toArray[k]? = some o := by
  have := congrArg (fun x => x[0]?) h
  simpa [List.getElem?_drop] using this
theorem headT_nil {L : Act → Prop} {a : Act} (h : L a) : headT P ops S L [] a := h
theorem headT_cons {l : List Oper} {L : Act → Prop} {a : Act} {k : Nat} {is : List Nat} {o : Oper} {r : List Oper} {v : Value} (ho : l.drop k = o :: r) (hw : Region.wanted o (yielded l.toArray a.tmps) = true) (hy : ∀ w, S w → (execOp a.eval o).run P w = .ok (.value v) w)
    (h : headT P l.toArray S L is (a.put o.dst v)) : headT P l.toArray S L (k :: is) a := ⟨o, v, get_of_drop ho, Or.inl ⟨hw, hy⟩, h⟩
theorem headT_skip {l : List Oper} {L : Act → Prop} {a : Act} {k : Nat} {is : List Nat} {o : Oper} {r : List Oper} (ho : l.drop k = o :: r) (hw : Region.wanted o (yielded l.toArray a.tmps) = false)
    (h : headT P l.toArray S L is (a.put o.dst undef)) : headT P l.toArray S L (k :: is) a := ⟨o, undef, get_of_drop ho, Or.inr ⟨hw, rfl⟩, h⟩
theorem midT_nil {K : Act → World → Prop} {a : Act} {w : World} (h : K a w) : midT P ops Q S K [] a w := h
theorem midT_cons {l : List Oper} {K : Act → World → Prop} {a : Act} {w : World} {k : Nat} {ms : List Nat} {o : Oper} {r : List Oper} (ho : l.drop k = o :: r)
    (h : ∀ K' : Act → World → Prop, Shut (∀ a w, S w → (S w → midT P l.toArray Q S K ms a w) → K' a w) → if Region.wanted o (yielded l.toArray a.tmps) = true then Oper.wp P o a w K' Q else K' (a.put o.dst undef) w) : midT P l.toArray Q S K (k :: ms) a w :=
  wpOp_step (get_of_drop ho) (fun K' hK => h K' (fun a w hS hW => hK a w ⟨hS, hW hS⟩))
end
end Go.Proofs.YtkdehkkkbfackaaGreatDoor
namespace Go.Proofs.YtkdehkkkbfackaaGreatDoor
open Go.RowKit
theorem info_I : (Tryz.prog.info? 3).map (fun i => (i.zero, i.size, i.bytes)) = some (some (.int .i64 0), 1, 8) := by kernel_rfl
theorem push_I {w : World} {ops : Array Oper} {rest : List Oper} {o : Oper} {a : Act} {Q : Exit → Act → World → Prop} (hgd : o.guard = none) (s x : Operand) (ho : o.op = .call { callee := .builtin .append, args := #[s, x], argTypes := #[30, 30] })
    (base : Nat) (v : Value) (l : List Int) (n : Nat) (hn : n = l.length) (hs : a.eval s = v) (hown : w.ownsRow base 3 1 v n (fl encI l)) (B c : Nat) (y : Int) (hx : a.eval x = .slice (some ⟨B, 0, none⟩) 1 c) (hB : Blk w B (encI y).toArray 3) (hl : n < 8796093022208) (hbase : base ≤ w.heap.size)
    (h : ∀ g cap w', w'.ownsRow base 3 1 (.slice (some ⟨g, 0, none⟩) (n + 1) cap) (n + 1) (fl encI (l ++ [y])) → w.grownBy w' v.ownBlock → (v.ownBlock = some g ∨ g = w.heap.size) → g < w'.heap.size → wpList Tryz.prog ops Q rest (a.put o.dst (.slice (some ⟨g, 0, none⟩) (n + 1) cap)) w') : wpList Tryz.prog ops Q (o :: rest) a w := by
  obtain ⟨i0, hi, hz0, hz1, hz2⟩ := info_parts info_I
  refine wpList_append_lies w hgd s x 30 ho base 3 i0 _ 1 8 Tryz.underlying30 hi hz0 hz1 hz2 rfl (by decide) v n (fl encI l) hs hown ⟨B, 0, none⟩ 1 c (encI y) hx (by simp [encI]) (World.news_of_block (cs := (encI y).toArray) (t := 3) (fr := (0, 0)) hB) (by intro u hu; simp [encI] at hu; first | (subst hu; rfl) | (rcases hu with rfl | rfl <;> rfl) | (rcases hu with rfl | rfl | rfl | rfl | rfl <;> rfl)) (by omega) (by unfold maxLen; omega) (by omega) hbase _ rfl ?_
  intro g cap w' h1 h2 h3 h4
  rw [← fl_snoc] at h1
  exact h g cap w' h1 h2 h3 h4
theorem spush_I {w : World} {ops : Array Oper} {o : Oper} {a : Act} {K : Act → World → Prop} {Q : Exit → Act → World → Prop} {E : Prop} (hgd : o.guard = none) (s x : Operand) (ho : o.op = .call { callee := .builtin .append, args := #[s, x], argTypes := #[30, 30] })
    (base : Nat) (v : Value) (l : List Int) (n : Nat) (hn : n = l.length) (hs : a.eval s = v) (hown : w.ownsRow base 3 1 v n (fl encI l)) (B c : Nat) (y : Int) (hx : a.eval x = .slice (some ⟨B, 0, none⟩) 1 c) (hB : Blk w B (encI y).toArray 3) (hl : n < 8796093022208) (hbase : base ≤ w.heap.size)
    (h : ∀ g cap w', w'.ownsRow base 3 1 (.slice (some ⟨g, 0, none⟩) (n + 1) cap) (n + 1) (fl encI (l ++ [y])) → w.grownBy w' v.ownBlock → (v.ownBlock = some g ∨ g = w.heap.size) → g < w'.heap.size → K (a.put o.dst (.slice (some ⟨g, 0, none⟩) (n + 1) cap)) w') : if Region.wanted o (yielded ops a.tmps) = true then Oper.wp Tryz.prog o a w K Q else E := by
  obtain ⟨i0, hi, hz0, hz1, hz2⟩ := info_parts info_I
  refine step_append_lies w hgd s x 30 ho base 3 i0 _ 1 8 Tryz.underlying30 hi hz0 hz1 hz2 rfl (by decide) v n (fl encI l) hs hown ⟨B, 0, none⟩ 1 c (encI y) hx (by simp [encI]) (World.news_of_block (cs := (encI y).toArray) (t := 3) (fr := (0, 0)) hB) (by intro u hu; simp [encI] at hu; first | (subst hu; rfl) | (rcases hu with rfl | rfl <;> rfl) | (rcases hu with rfl | rfl | rfl | rfl | rfl <;> rfl)) (by omega) (by unfold maxLen; omega) (by omega) hbase _ rfl ?_
  intro g cap w' h1 h2 h3 h4
  rw [← fl_snoc] at h1
  exact h g cap w' h1 h2 h3 h4

theorem info_Nd : (Tryz.prog.info? 40).map (fun i => (i.zero, i.size, i.bytes)) = some (some (.agg #[.int .i64 0, .string ByteArray.empty]), 2, 24) := by kernel_rfl
theorem push_Nd {w : World} {ops : Array Oper} {rest : List Oper} {o : Oper} {a : Act} {Q : Exit → Act → World → Prop} (hgd : o.guard = none) (s x : Operand) (ho : o.op = .call { callee := .builtin .append, args := #[s, x], argTypes := #[25, 25] })
    (base : Nat) (v : Value) (l : List Nd) (n : Nat) (hn : n = l.length) (hs : a.eval s = v) (hown : w.ownsRow base 40 2 v n (fl encNd l)) (B c : Nat) (y : Nd) (hx : a.eval x = .slice (some ⟨B, 0, none⟩) 1 c) (hB : Blk w B (encNd y).toArray 40) (hl : n < 4398046511104) (hbase : base ≤ w.heap.size)
    (h : ∀ g cap w', w'.ownsRow base 40 2 (.slice (some ⟨g, 0, none⟩) (n + 1) cap) (n + 1) (fl encNd (l ++ [y])) → w.grownBy w' v.ownBlock → (v.ownBlock = some g ∨ g = w.heap.size) → g < w'.heap.size → wpList Tryz.prog ops Q rest (a.put o.dst (.slice (some ⟨g, 0, none⟩) (n + 1) cap)) w') : wpList Tryz.prog ops Q (o :: rest) a w := by
  obtain ⟨i0, hi, hz0, hz1, hz2⟩ := info_parts info_Nd
  refine wpList_append_lies w hgd s x 25 ho base 40 i0 _ 2 24 Tryz.underlying25 hi hz0 hz1 hz2 rfl (by decide) v n (fl encNd l) hs hown ⟨B, 0, none⟩ 1 c (encNd y) hx (by simp [encNd]) (World.news_of_block (cs := (encNd y).toArray) (t := 40) (fr := (0, 0)) hB) (by intro u hu; simp [encNd] at hu; first | (subst hu; rfl) | (rcases hu with rfl | rfl <;> rfl) | (rcases hu with rfl | rfl | rfl | rfl | rfl <;> rfl)) (by omega) (by unfold maxLen; omega) (by omega) hbase _ rfl ?_
  intro g cap w' h1 h2 h3 h4
  rw [← fl_snoc] at h1
  exact h g cap w' h1 h2 h3 h4
theorem spush_Nd {w : World} {ops : Array Oper} {o : Oper} {a : Act} {K : Act → World → Prop} {Q : Exit → Act → World → Prop} {E : Prop} (hgd : o.guard = none) (s x : Operand) (ho : o.op = .call { callee := .builtin .append, args := #[s, x], argTypes := #[25, 25] })
    (base : Nat) (v : Value) (l : List Nd) (n : Nat) (hn : n = l.length) (hs : a.eval s = v) (hown : w.ownsRow base 40 2 v n (fl encNd l)) (B c : Nat) (y : Nd) (hx : a.eval x = .slice (some ⟨B, 0, none⟩) 1 c) (hB : Blk w B (encNd y).toArray 40) (hl : n < 4398046511104) (hbase : base ≤ w.heap.size)
    (h : ∀ g cap w', w'.ownsRow base 40 2 (.slice (some ⟨g, 0, none⟩) (n + 1) cap) (n + 1) (fl encNd (l ++ [y])) → w.grownBy w' v.ownBlock → (v.ownBlock = some g ∨ g = w.heap.size) → g < w'.heap.size → K (a.put o.dst (.slice (some ⟨g, 0, none⟩) (n + 1) cap)) w') : if Region.wanted o (yielded ops a.tmps) = true then Oper.wp Tryz.prog o a w K Q else E := by
  obtain ⟨i0, hi, hz0, hz1, hz2⟩ := info_parts info_Nd
  refine step_append_lies w hgd s x 25 ho base 40 i0 _ 2 24 Tryz.underlying25 hi hz0 hz1 hz2 rfl (by decide) v n (fl encNd l) hs hown ⟨B, 0, none⟩ 1 c (encNd y) hx (by simp [encNd]) (World.news_of_block (cs := (encNd y).toArray) (t := 40) (fr := (0, 0)) hB) (by intro u hu; simp [encNd] at hu; first | (subst hu; rfl) | (rcases hu with rfl | rfl <;> rfl) | (rcases hu with rfl | rfl | rfl | rfl | rfl <;> rfl)) (by omega) (by unfold maxLen; omega) (by omega) hbase _ rfl ?_
  intro g cap w' h1 h2 h3 h4
  rw [← fl_snoc] at h1
  exact h g cap w' h1 h2 h3 h4

theorem info_R : (Tryz.prog.info? 30).map (fun i => (i.zero, i.size, i.bytes)) = some (some (.slice none 0 0), 1, 24) := by kernel_rfl
theorem push_R {w : World} {ops : Array Oper} {rest : List Oper} {o : Oper} {a : Act} {Q : Exit → Act → World → Prop} (hgd : o.guard = none) (s x : Operand) (ho : o.op = .call { callee := .builtin .append, args := #[s, x], argTypes := #[84, 84] })
    (base : Nat) (v : Value) (l : List Rw) (n : Nat) (hn : n = l.length) (hs : a.eval s = v) (hown : w.ownsRow base 30 1 v n (fl encR l)) (B c : Nat) (y : Rw) (hx : a.eval x = .slice (some ⟨B, 0, none⟩) 1 c) (hB : Blk w B (encR y).toArray 30) (hl : n < 4398046511104) (hbase : base ≤ w.heap.size)
    (h : ∀ g cap w', w'.ownsRow base 30 1 (.slice (some ⟨g, 0, none⟩) (n + 1) cap) (n + 1) (fl encR (l ++ [y])) → w.grownBy w' v.ownBlock → (v.ownBlock = some g ∨ g = w.heap.size) → g < w'.heap.size → wpList Tryz.prog ops Q rest (a.put o.dst (.slice (some ⟨g, 0, none⟩) (n + 1) cap)) w') : wpList Tryz.prog ops Q (o :: rest) a w := by
  obtain ⟨i0, hi, hz0, hz1, hz2⟩ := info_parts info_R
  refine wpList_append_lies w hgd s x 84 ho base 30 i0 _ 1 24 Tryz.underlying84 hi hz0 hz1 hz2 rfl (by decide) v n (fl encR l) hs hown ⟨B, 0, none⟩ 1 c (encR y) hx (by simp [encR]) (World.news_of_block (cs := (encR y).toArray) (t := 30) (fr := (0, 0)) hB) (by intro u hu; simp [encR] at hu; first | (subst hu; rfl) | (rcases hu with rfl | rfl <;> rfl) | (rcases hu with rfl | rfl | rfl | rfl | rfl <;> rfl)) (by omega) (by unfold maxLen; omega) (by omega) hbase _ rfl ?_
  intro g cap w' h1 h2 h3 h4
  rw [← fl_snoc] at h1
  exact h g cap w' h1 h2 h3 h4
theorem spush_R {w : World} {ops : Array Oper} {o : Oper} {a : Act} {K : Act → World → Prop} {Q : Exit → Act → World → Prop} {E : Prop} (hgd : o.guard = none) (s x : Operand) (ho : o.op = .call { callee := .builtin .append, args := #[s, x], argTypes := #[84, 84] })
    (base : Nat) (v : Value) (l : List Rw) (n : Nat) (hn : n = l.length) (hs : a.eval s = v) (hown : w.ownsRow base 30 1 v n (fl encR l)) (B c : Nat) (y : Rw) (hx : a.eval x = .slice (some ⟨B, 0, none⟩) 1 c) (hB : Blk w B (encR y).toArray 30) (hl : n < 4398046511104) (hbase : base ≤ w.heap.size)
    (h : ∀ g cap w', w'.ownsRow base 30 1 (.slice (some ⟨g, 0, none⟩) (n + 1) cap) (n + 1) (fl encR (l ++ [y])) → w.grownBy w' v.ownBlock → (v.ownBlock = some g ∨ g = w.heap.size) → g < w'.heap.size → K (a.put o.dst (.slice (some ⟨g, 0, none⟩) (n + 1) cap)) w') : if Region.wanted o (yielded ops a.tmps) = true then Oper.wp Tryz.prog o a w K Q else E := by
  obtain ⟨i0, hi, hz0, hz1, hz2⟩ := info_parts info_R
  refine step_append_lies w hgd s x 84 ho base 30 i0 _ 1 24 Tryz.underlying84 hi hz0 hz1 hz2 rfl (by decide) v n (fl encR l) hs hown ⟨B, 0, none⟩ 1 c (encR y) hx (by simp [encR]) (World.news_of_block (cs := (encR y).toArray) (t := 30) (fr := (0, 0)) hB) (by intro u hu; simp [encR] at hu; first | (subst hu; rfl) | (rcases hu with rfl | rfl <;> rfl) | (rcases hu with rfl | rfl | rfl | rfl | rfl <;> rfl)) (by omega) (by unfold maxLen; omega) (by omega) hbase _ rfl ?_
  intro g cap w' h1 h2 h3 h4
  rw [← fl_snoc] at h1
  exact h g cap w' h1 h2 h3 h4

theorem info_V : (Tryz.prog.info? 35).map (fun i => (i.zero, i.size, i.bytes)) = some (some (.int .u64 0), 1, 8) := by kernel_rfl
theorem push_V {w : World} {ops : Array Oper} {rest : List Oper} {o : Oper} {a : Act} {Q : Exit → Act → World → Prop} (hgd : o.guard = none) (s x : Operand) (ho : o.op = .call { callee := .builtin .append, args := #[s, x], argTypes := #[22, 22] })
    (base : Nat) (v : Value) (l : List Nat) (n : Nat) (hn : n = l.length) (hs : a.eval s = v) (hown : w.ownsRow base 35 1 v n (fl encV l)) (B c : Nat) (y : Nat) (hx : a.eval x = .slice (some ⟨B, 0, none⟩) 1 c) (hB : Blk w B (encV y).toArray 35) (hl : n < 8796093022208) (hbase : base ≤ w.heap.size)
    (h : ∀ g cap w', w'.ownsRow base 35 1 (.slice (some ⟨g, 0, none⟩) (n + 1) cap) (n + 1) (fl encV (l ++ [y])) → w.grownBy w' v.ownBlock → (v.ownBlock = some g ∨ g = w.heap.size) → g < w'.heap.size → wpList Tryz.prog ops Q rest (a.put o.dst (.slice (some ⟨g, 0, none⟩) (n + 1) cap)) w') : wpList Tryz.prog ops Q (o :: rest) a w := by
  obtain ⟨i0, hi, hz0, hz1, hz2⟩ := info_parts info_V
  refine wpList_append_lies w hgd s x 22 ho base 35 i0 _ 1 8 Tryz.underlying22 hi hz0 hz1 hz2 rfl (by decide) v n (fl encV l) hs hown ⟨B, 0, none⟩ 1 c (encV y) hx (by simp [encV]) (World.news_of_block (cs := (encV y).toArray) (t := 35) (fr := (0, 0)) hB) (by intro u hu; simp [encV] at hu; first | (subst hu; rfl) | (rcases hu with rfl | rfl <;> rfl) | (rcases hu with rfl | rfl | rfl | rfl | rfl <;> rfl)) (by omega) (by unfold maxLen; omega) (by omega) hbase _ rfl ?_
  intro g cap w' h1 h2 h3 h4
  rw [← fl_snoc] at h1
  exact h g cap w' h1 h2 h3 h4
theorem spush_V {w : World} {ops : Array Oper} {o : Oper} {a : Act} {K : Act → World → Prop} {Q : Exit → Act → World → Prop} {E : Prop} (hgd : o.guard = none) (s x : Operand) (ho : o.op = .call { callee := .builtin .append, args := #[s, x], argTypes := #[22, 22] })
    (base : Nat) (v : Value) (l : List Nat) (n : Nat) (hn : n = l.length) (hs : a.eval s = v) (hown : w.ownsRow base 35 1 v n (fl encV l)) (B c : Nat) (y : Nat) (hx : a.eval x = .slice (some ⟨B, 0, none⟩) 1 c) (hB : Blk w B (encV y).toArray 35) (hl : n < 8796093022208) (hbase : base ≤ w.heap.size)
    (h : ∀ g cap w', w'.ownsRow base 35 1 (.slice (some ⟨g, 0, none⟩) (n + 1) cap) (n + 1) (fl encV (l ++ [y])) → w.grownBy w' v.ownBlock → (v.ownBlock = some g ∨ g = w.heap.size) → g < w'.heap.size → K (a.put o.dst (.slice (some ⟨g, 0, none⟩) (n + 1) cap)) w') : if Region.wanted o (yielded ops a.tmps) = true then Oper.wp Tryz.prog o a w K Q else E := by
  obtain ⟨i0, hi, hz0, hz1, hz2⟩ := info_parts info_V
  refine step_append_lies w hgd s x 22 ho base 35 i0 _ 1 8 Tryz.underlying22 hi hz0 hz1 hz2 rfl (by decide) v n (fl encV l) hs hown ⟨B, 0, none⟩ 1 c (encV y) hx (by simp [encV]) (World.news_of_block (cs := (encV y).toArray) (t := 35) (fr := (0, 0)) hB) (by intro u hu; simp [encV] at hu; first | (subst hu; rfl) | (rcases hu with rfl | rfl <;> rfl) | (rcases hu with rfl | rfl | rfl | rfl | rfl <;> rfl)) (by omega) (by unfold maxLen; omega) (by omega) hbase _ rfl ?_
  intro g cap w' h1 h2 h3 h4
  rw [← fl_snoc] at h1
  exact h g cap w' h1 h2 h3 h4

end Go.Proofs.YtkdehkkkbfackaaGreatDoor
namespace Go.Proofs.YtkdehkkkbfackaaGreatDoor
open Go.RowKit
section
variable {α : Type} {enc : α → List Value}
theorem run_append_nilsrc {P : Program} (w : World) {base : Nat} {t ty e : TypeId} {i : TypeInfo} {k : Nat} (ht : P.underlying t = some (.slice e)) (hi : P.info? e = some i) {v : Value} {n : Nat} {xs : List Value} (hown : w.ownsRow base e k v n xs) (c : Nat) :
    (Builtin.append_ #[t, t] ty #[v, .slice none 0 c]).run P w = .ok v w := by
  rcases hown.2 with ⟨rfl, rfl⟩ | ⟨g, cap, cur, rfl, _, _, hnc, _⟩
  · simp [Builtin.append_, run_underlying ht, sizeOf, typeInfo, hi, Builtin.lenOf, Builtin.firstCells]
  · simp [Builtin.append_, run_underlying ht, sizeOf, typeInfo, hi, Builtin.lenOf, Builtin.firstCells, hnc, storeCells]
/-- One append of a whole list. -/
theorem run_pushs {w : World} {k bytes : Nat} (hk : ∀ x, (enc x).length = k) (hk0 : 0 < k) (h1 : ∀ x, ∀ u ∈ enc x, u.oneCell' = true) {base : Nat} {t ty e : TypeId} {z : Value} (ht : Tryz.prog.underlying t = some (.slice e))
    (hinfo : (Tryz.prog.info? e).map (fun i => (i.zero, i.size, i.bytes)) = some (some z, k, bytes)) (hzs : z.cells.size = k) (v : Value) (l : List α) (n : Nat) (hn : n = l.length) (hown : w.ownsRow base e k v n (fl enc l))
    (A : Option Addr) (m c : Nat) (l2 : List α) (hm : m = l2.length) (hA : Rd w A (fl enc l2)) (hA0 : A = none → m = 0) (hlen : n + m < 1048576) (hbytes : bytes ≤ 1048576) (hbase : base ≤ w.heap.size) :
    ∃ v' w', (Builtin.append_ #[t, t] ty #[v, .slice A m c]).run Tryz.prog w = .ok v' w' ∧ w'.ownsRow base e k v' (n + m) (fl enc (l ++ l2)) ∧ w.grownBy w' v.ownBlock ∧ (v'.ownBlock = v.ownBlock ∨ v'.ownBlock = some w.heap.size) := by
  obtain ⟨i0, hi, hz0, hz1, hz2⟩ := info_parts hinfo
  rcases A with _ | ad
  · have h0 := hA0 rfl
    subst h0
    have : l2 = [] := List.eq_nil_of_length_eq_zero hm.symm
    subst this
    refine ⟨v, w, run_append_nilsrc w ht hi hown c, ?_, World.grownBy.refl w _, .inl rfl⟩
    rw [List.append_nil]; exact hown
  · have hcells : ∀ j u, (fl enc l2)[j]? = some u → w.cell? (ad.add j) = some u := by
      intro j u hu
      have hj : j < (fl enc l2).length := by
        rcases Nat.lt_or_ge j (fl enc l2).length with h | h
        · exact h
        · rw [List.getElem?_eq_none h] at hu; cases hu
      obtain ⟨b, off, e1, _, hc⟩ := hA (by omega)
      have e1 := Option.some.inj e1
      have h7 := hc j hj
      rw [List.getD_eq_getElem?_getD, hu] at h7
      rw [e1]
      by_cases ej : j = 0
      · subst ej; simpa [Addr.add] using h7
      · simpa [Addr.add, ej] using h7
    have hmul : (n + m) * bytes ≤ 1048576 * 1048576 := Nat.mul_le_mul (Nat.le_of_lt hlen) hbytes
    obtain ⟨v', w', hrun, h2, h3, _, h5⟩ := run_append_own_at (P := Tryz.prog) w base t ty e i0 z k bytes ht hi hz0 hz1 hz2 hzs hk0 v n (fl enc l) hown ad m c (fl enc l2) (by rw [fl_length hk, hm]) hcells
      (fun u hu => by
        obtain ⟨x, _, hx⟩ := List.mem_flatMap.1 hu
        exact h1 x u hx) (by unfold maxLen; omega) (by omega) hbase
    exact ⟨v', w', hrun, by rw [fl_append]; exact h2, h3, h5⟩
theorem wp_pushs {w : World} {k bytes : Nat} {o : Oper} {a : Act} {K : Act → World → Prop} {Q : Exit → Act → World → Prop} (hk : ∀ x, (enc x).length = k) (hk0 : 0 < k) (h1 : ∀ x, ∀ u ∈ enc x, u.oneCell' = true) {base : Nat} {t e : TypeId} {z : Value} (ht : Tryz.prog.underlying t = some (.slice e))
    (hinfo : (Tryz.prog.info? e).map (fun i => (i.zero, i.size, i.bytes)) = some (some z, k, bytes)) (hzs : z.cells.size = k) (s x : Operand) (ho : o.op = .call { callee := .builtin .append, args := #[s, x], argTypes := #[t, t] })
    (v : Value) (l : List α) (n : Nat) (hn : n = l.length) (hs : a.eval s = v) (hown : w.ownsRow base e k v n (fl enc l))
    (A : Option Addr) (m c : Nat) (l2 : List α) (hm : m = l2.length) (hx : a.eval x = .slice A m c) (hA : Rd w A (fl enc l2)) (hA0 : A = none → m = 0) (hlen : n + m < 1048576) (hbytes : bytes ≤ 1048576) (hbase : base ≤ w.heap.size)
    (h : ∀ v' w', w'.ownsRow base e k v' (n + m) (fl enc (l ++ l2)) → w.grownBy w' v.ownBlock → (v'.ownBlock = v.ownBlock ∨ v'.ownBlock = some w.heap.size) → K (a.put o.dst v') w') : o.wp Tryz.prog a w K Q := by
  obtain ⟨v', w', hrun, h2, h3, h4⟩ := run_pushs (ty := o.type) hk hk0 h1 ht hinfo hzs v l n hn hown A m c l2 hm hA hA0 hlen hbytes hbase
  unfold Oper.wp execOp
  simp only [ho, resolve, invoke, builtin, Sem.run_bind, Sem.run_pure, Result.andThen_ok, List.map_toArray, List.map_cons, List.map_nil, hs, hx, hrun]
  exact h v' w' h2 h3 h4
theorem wpList_pushs {w : World} {k bytes : Nat} {ops : Array Oper} {rest : List Oper} {o : Oper} {a : Act} {Q : Exit → Act → World → Prop} (hgd : o.guard = none) (hk : ∀ x, (enc x).length = k) (hk0 : 0 < k) (h1 : ∀ x, ∀ u ∈ enc x, u.oneCell' = true) {base : Nat} {t e : TypeId} {z : Value} (ht : Tryz.prog.underlying t = some (.slice e))
    (hinfo : (Tryz.prog.info? e).map (fun i => (i.zero, i.size, i.bytes)) = some (some z, k, bytes)) (hzs : z.cells.size = k) (s x : Operand) (ho : o.op = .call { callee := .builtin .append, args := #[s, x], argTypes := #[t, t] })
    (v : Value) (l : List α) (n : Nat) (hn : n = l.length) (hs : a.eval s = v) (hown : w.ownsRow base e k v n (fl enc l))
    (A : Option Addr) (m c : Nat) (l2 : List α) (hm : m = l2.length) (hx : a.eval x = .slice A m c) (hA : Rd w A (fl enc l2)) (hA0 : A = none → m = 0) (hlen : n + m < 1048576) (hbytes : bytes ≤ 1048576) (hbase : base ≤ w.heap.size)
    (h : ∀ v' w', w'.ownsRow base e k v' (n + m) (fl enc (l ++ l2)) → w.grownBy w' v.ownBlock → (v'.ownBlock = v.ownBlock ∨ v'.ownBlock = some w.heap.size) → wpList Tryz.prog ops Q rest (a.put o.dst v') w') : wpList Tryz.prog ops Q (o :: rest) a w :=
  wpList_plain hgd fun _ hK => wp_pushs hk hk0 h1 ht hinfo hzs s x ho v l n hn hs hown A m c l2 hm hx hA hA0 hlen hbytes hbase fun v' w' h2 h3 h4 => hK _ _ (h v' w' h2 h3 h4)
end
end Go.Proofs.YtkdehkkkbfackaaGreatDoor
namespace Go.Proofs.YtkdehkkkbfackaaGreatDoor
open Go Go.RowKit Go.Shelf
theorem bl_grown {a w w' : World} {row : Option Nat} (h : Below a.heap.size a w) (hg : w.grownBy w' row) (hr : ∀ k, row = some k → a.heap.size ≤ k) : Below a.heap.size a w' :=
  ⟨hg.os.trans h.os, hg.tape.trans h.tape, hg.output.trans h.output, Nat.le_trans h.size hg.size, fun k hk => (hg.block k (by have := h.size; omega) (fun e => by have := hr k e.symm; omega)).trans (h.block k hk)⟩
abbrev U64 := Fin 18446744073709551616
/-- From block n₀ on what is cells lies as it lay. -/
def KpN (n₀ : Nat) (W W' : World) : Prop := ∀ (B : Nat) (cs : Array Value) (t : TypeId) (fr : Nat × Nat), n₀ ≤ B → W.heap[B]? = some (.cells cs t fr) → W'.heap[B]? = some (.cells cs t fr)
theorem KpN.refl (n₀ : Nat) (W : World) : KpN n₀ W W := fun _ _ _ _ _ h => h
theorem KpN.trans {n₀ : Nat} {X Y Z : World} (h : KpN n₀ X Y) (k : KpN n₀ Y Z) : KpN n₀ X Z := fun B cs t fr hB hx => k B cs t fr hB (h B cs t fr hB hx)
theorem kpN_put {n₀ : Nat} (W : World) (l : Nat) (o o' : Obj) (h : W.heap[l]? = some o) (hc : o.isCells = false) : KpN n₀ W (W.putObj l o') := by
  intro B cs t fr _ hB
  have hg := grownBy_putObj' W l o'
  refine (hg.block B (Array.getElem?_eq_some_iff.1 hB).1 (fun e => ?_)).trans hB
  have := Option.some.inj e
  subst this
  rw [h] at hB
  cases hB
  cases hc
def dfs (Ds : List Nat) : List Deferred := Ds.map fun D => { target := .collected D, args := #[] }
theorem keeps_drewN (W : World) (n : Nat) : KeepsOthers W (W.drewN n) := ⟨Nat.le_refl _, fun _ _ h _ => h⟩
theorem ex_u {F : (Nat → Value) → Act} {a : Act} {p q r : Prop} (hp : p) (hq : q) (hr : r) (h : a = F (fun j => a.tmps.getD j undef)) : ∃ u, p ∧ q ∧ a = F u ∧ r := ⟨_, hp, hq, h, hr⟩
/-- w' is w, the blocks Ds turned. -/
structure Trn (Ds : List Nat) (w w' : World) : Prop where
  os : w'.os = w.os
  tape : w'.tape = w.tape
  output : w'.output = w.output
  size : w'.heap.size = w.heap.size
  block : ∀ k, k ∉ Ds → w'.heap[k]? = w.heap[k]?
theorem leaves_all {P : Program} {fn : Func} {tmps : Array Value} {R : Ending → World → Prop} : ∀ (Ds : List Nat) (w : World), Ds.Nodup → (∀ D ∈ Ds, w.heap[D]? = some (Obj.deferred (some []))) →
    (∀ w', Trn Ds w w' → ∃ v, (results fn tmps).run P w' = .ok v w' ∧ R (.returned v) w') → LeavesInM Fence.wide 10 P fn tmps R (dfs Ds) .returning w
  | [], w, _, _, h => h w ⟨rfl, rfl, rfl, rfl, fun _ _ => rfl⟩
  | D :: Ds, w, hn, hd, h => by
    have h0 := hd D List.mem_cons_self
    have hlt := (Array.getElem?_eq_some_iff.1 h0).1
    have hg := grownBy_putObj' w D (Obj.deferred none)
    have hD := (List.nodup_cons.1 hn).1
    refine ⟨by simp, .inl ⟨D, _, rfl, run_takeDeferred h0, leaves_all Ds _ (List.nodup_cons.1 hn).2 (fun D' hD' => ?_) fun w' ht => h w' ?_⟩⟩
    · have h1 := hd D' (List.mem_cons_of_mem _ hD')
      exact (hg.block D' (Array.getElem?_eq_some_iff.1 h1).1 (fun e => hD (by rw [← Option.some.inj e]; exact hD'))).trans h1
    · have hz : (w.putObj D (Obj.deferred none)).heap.size = w.heap.size := by simp [World.putObj]
      refine ⟨ht.os.trans hg.os, ht.tape.trans hg.tape, ht.output.trans hg.output, ht.size.trans hz, fun k hk => ?_⟩
      have hk1 : k ≠ D := fun e => hk (by rw [e]; exact List.mem_cons_self)
      have hk2 : k ∉ Ds := fun e => hk (List.mem_cons_of_mem _ e)
      rw [ht.block k hk2]
      by_cases hkl : k < w.heap.size
      · exact hg.block k hkl (fun e => hk1 (Option.some.inj e))
      · rw [Array.getElem?_eq_none (by rw [hz]; omega), Array.getElem?_eq_none (by omega)]
theorem Trn.below {Ds : List Nat} {a w w' : World} {B : Nat} (h : Trn Ds w w') (hb : Below B a w) (hd : ∀ D ∈ Ds, B ≤ D) : Below B a w' :=
  ⟨h.os.trans hb.os, h.tape.trans hb.tape, h.output.trans hb.output, by rw [h.size]; exact hb.size, fun k hk => (h.block k (fun e => by have := hd k e; omega)).trans (hb.block k hk)⟩
theorem Trn.owns {Ds : List Nat} {w w' : World} {base e k : Nat} {v : Value} {n : Nat} {cs : List Value} (h : Trn Ds w w') (hd : ∀ D ∈ Ds, w.heap[D]? = some (Obj.deferred (some []))) (ho : w.ownsRow base e k v n cs) : w'.ownsRow base e k v n cs := by
  refine ⟨ho.1, ?_⟩
  rcases ho.2 with h2 | ⟨g, cap, cur, hv, hg, hh, r⟩
  · exact .inl h2
  · exact .inr ⟨g, cap, cur, hv, hg, (h.block g (fun e => by have := hd g e; rw [hh] at this; cases this)).trans hh, r⟩
end Go.Proofs.YtkdehkkkbfackaaGreatDoor
namespace Go.Proofs.YtkdehkkkbfackaaGreatDoor
open Go.RowKit Go.Shelf
theorem w64 (x : Nat) (h : x < 18446744073709551616) : IntKind.u64.wrap (x : Int) = (x : Int) := by
  rw [IntKind.wrap_u64]; omega
theorem bv64 {x : Nat} (h : x < 18446744073709551616) : (BitVec.ofInt 64 (x : Int)).toNat = x := by
  rw [BitVec.ofInt_natCast, BitVec.toNat_ofNat]; exact Nat.mod_eq_of_lt h
theorem and_lt {x y : Nat} (h : x < 18446744073709551616) : x &&& y < 18446744073709551616 := Nat.lt_of_le_of_lt Nat.and_le_left h
theorem or_lt {x y : Nat} (h : x < 18446744073709551616) (k : y < 18446744073709551616) : x ||| y < 18446744073709551616 := Nat.or_lt_two_pow (n := 64) h k
theorem bits_and {x y : Nat} (hx : x < 18446744073709551616) (hy : y < 18446744073709551616) : bits .and .u64 (x : Int) (y : Int) = ((x &&& y : Nat) : Int) := by
  show IntKind.u64.wrap ((BitVec.ofInt 64 (x : Int) &&& BitVec.ofInt 64 (y : Int)).toNat : Int) = _
  rw [BitVec.toNat_and, bv64 hx, bv64 hy, w64 _ (and_lt hx)]
theorem bits_or {x y : Nat} (hx : x < 18446744073709551616) (hy : y < 18446744073709551616) : bits .or .u64 (x : Int) (y : Int) = ((x ||| y : Nat) : Int) := by
  show IntKind.u64.wrap ((BitVec.ofInt 64 (x : Int) ||| BitVec.ofInt 64 (y : Int)).toNat : Int) = _
  rw [BitVec.toNat_or, bv64 hx, bv64 hy, w64 _ (or_lt hx hy)]
/-- What of x lies above its low L bits. -/
def hiB (x L : Nat) : Nat := x &&& (18446744073709551615 - (2 ^ L - 1))
theorem hiB_zero {x L : Nat} (hx : x < 18446744073709551616) (hL : L ≤ 32) : hiB x L = 0 ↔ x < 2 ^ L := by
  have hp : 2 ^ L ≤ 4294967296 := Nat.pow_le_pow_right (n := 2) (by omega) (show L ≤ 32 by omega)
  have hp0 : 0 < 2 ^ L := Nat.two_pow_pos L
  have e : ∀ i, (hiB x L).testBit i = (x.testBit i && (decide (i < 64) && !(decide (i < L)))) := fun i => by
    unfold hiB
    rw [Nat.testBit_and, show 18446744073709551615 - (2 ^ L - 1) = 2 ^ 64 - ((2 ^ L - 1) + 1) by omega, Nat.testBit_two_pow_sub_succ (by omega), Nat.testBit_two_pow_sub_one]
  constructor
  · intro h
    refine Nat.lt_pow_two_of_testBit x fun i hi => ?_
    have h1 := e i
    rw [h, Nat.zero_testBit] at h1
    by_cases h64 : i < 64
    · simp [h64, show ¬ i < L by omega] at h1
      exact h1
    · exact Nat.testBit_lt_two_pow (Nat.lt_of_lt_of_le hx (Nat.pow_le_pow_right (n := 2) (by omega) (show 64 ≤ i by omega)))
  · intro h
    apply Nat.eq_of_testBit_eq
    intro i
    rw [e, Nat.zero_testBit]
    by_cases hi : i < L
    · simp [hi]
    · rw [Nat.testBit_lt_two_pow (Nat.lt_of_lt_of_le h (Nat.pow_le_pow_right (n := 2) (by omega) (show L ≤ i by omega)))]
      rfl
theorem bits_hi {x L : Nat} (hx : x < 18446744073709551616) (hL : L ≤ 32) : bits .andNot .u64 (x : Int) ((2 ^ L - 1 : Nat) : Int) = (hiB x L : Int) := by
  have hp : 2 ^ L ≤ 4294967296 := Nat.pow_le_pow_right (n := 2) (by omega) (show L ≤ 32 by omega)
  show IntKind.u64.wrap ((BitVec.ofInt 64 (x : Int) &&& ~~~ BitVec.ofInt 64 ((2 ^ L - 1 : Nat) : Int)).toNat : Int) = _
  rw [BitVec.toNat_and, BitVec.toNat_not, bv64 hx, bv64 (by omega)]
  exact w64 _ (and_lt hx)
theorem hiB_lt {x L : Nat} (hx : x < 18446744073709551616) : hiB x L < 18446744073709551616 := and_lt hx
theorem wrap_all {L : Nat} (hL : L ≤ 32) : IntKind.u64.wrap (IntKind.u64.wrap (2 ^ L) - 1) = ((2 ^ L - 1 : Nat) : Int) := by
  have hp : 2 ^ L ≤ 4294967296 := Nat.pow_le_pow_right (n := 2) (by omega) (show L ≤ 32 by omega)
  have hp0 : 0 < 2 ^ L := Nat.two_pow_pos L
  have e : ((2 : Int) ^ L) = ((2 ^ L : Nat) : Int) := by simp
  rw [e, w64 _ (by omega), show ((2 ^ L : Nat) : Int) - 1 = ((2 ^ L - 1 : Nat) : Int) by omega, w64 _ (by omega)]
set_option maxHeartbeats 1000000 in
theorem all_any (L : Nat) (a : Option Addr) (n c : Nat) (w : World) (hL : L ≤ 32) :
    Calls Tryz.prog 30 #[.agg #[.int .i64 L, .slice a n c]] w fun e w' => e = .returned (.int .u64 ((2 ^ L - 1 : Nat) : Int)) ∧ Below w.heap.size w w' := by
  have hw := Lib.hid (wrap_all hL)
  go_enter Tryz.func30, Tryz.ntmps30
  go_wp2_with fail
  go_ret
  exact ⟨ret_i hw.out, bl_alloc (Below.refl _ _) _⟩
set_option maxHeartbeats 1000000 in
theorem chk1_any (x L B : Nat) (a : Option Addr) (n c : Nat) (w : World) (hx : x < 18446744073709551616) (hL : L ≤ 32) (hB : Blk w B #[.int .i64 L, .slice a n c] 24) :
    Calls Tryz.prog 29 #[.int .u64 x, .pointer (some ⟨B, 0, none⟩)] w fun e w' => e = .returned (.bool (!decide (x < 2 ^ L))) ∧ Below w.heap.size w w' := by
  have c0 := hB.cell 0
  have c1 := hB.cell 1
  have e0 : w.cell? ⟨B, 0, none⟩ = some (.int .i64 L) := c0
  have e1 : w.cell? ⟨B, 1, none⟩ = some (.slice a n c) := c1
  have HZ := Lib.hid (hiB_zero hx hL)
  have HB := Lib.hid (bits_hi hx hL)
  clear c0 c1
  obtain ⟨A, hA⟩ : ∃ A, 2 ^ L - 1 = A := ⟨_, rfl⟩
  rw [hA] at HB
  have HAA := Lib.hid (fun w' => all_any L a n c w' hL)
  rw [hA] at HAA
  clear hA
  obtain ⟨h, hh⟩ : ∃ h, hiB x L = h := ⟨_, rfl⟩
  rw [hh] at HZ HB
  have HH := Lib.hid hh
  clear hh
  go_enter Tryz.func29, Tryz.ntmps29
  go_wp2_with fail
  refine (HAA.out _).mono ?_
  rintro e w1 ⟨rfl, hb1⟩
  have hb := HB.out
  by_cases hz : h = 0
  · have t : ((h : Int) == 0) = true := by simp [hz]
    have HT : Hid (x < 2 ^ L) := HZ.out.1 hz
    have HH0 := Lib.hid hz
    clear hz
    go_wp2_with fail
    go_ret
    exact ⟨ret_b (by rw [decide_eq_true HT.out]; simp [HH0.out]), hb1⟩
  · have t : ((h : Int) == 0) = false := by simp [hz]
    have HT : Hid (¬ x < 2 ^ L) := fun h2 => hz (HZ.out.2 h2)
    have HH0 := Lib.hid hz
    clear hz
    go_wp2_with fail
    go_ret
    exact ⟨ret_b (by rw [decide_eq_false HT.out]; simp [HH0.out]), hb1⟩
theorem vA_get {l : List Nat} {k : Nat} (h : k < l.length) : vA l k = l[k] := by simp [vA, h]
set_option maxRecDepth 100000 in
set_option maxHeartbeats 1000000 in
theorem indexF_any (g : Nat) (hen : Enters Tryz.prog g) (env : Array Value) (p : Nat → Bool) (a : Option Addr) (N c : Nat) (l : List Nat) (w : World) (hl : l.length = N) (hN : N ≤ 1152921504606846976) (hA : Rd w a (fl encV l))
    (hp : ∀ i, i < N → ∀ W, Below w.heap.size w W → Calls Tryz.prog g (#[.int .u64 (vA l i)] ++ env) W fun e w' => e = .returned (.bool (p (vA l i))) ∧ Below W.heap.size W w') :
    Calls Tryz.prog 17 #[.slice a N c, .func (.func g) #[] env] w fun e w' => e = .returned (.int .i64 (idxF p l)) ∧ Below w.heap.size w w' := by
  have HL := Lib.hid hl
  have HA := Lib.hid hA
  have HP := Lib.hid hp
  clear hl hA hp
  have hbz := Below.refl w.heap.size w
  go_enter Tryz.func17, Tryz.ntmps17
  go_wp2_with fail
  go_loopw [8, 5] (fun x _ wr => ∃ k : Nat, k ≤ N ∧ x = .int .i64 k ∧ Hid (NoneBefore p l k) ∧ Below w.heap.size w wr) (fun x _ _ => N - (intOf x).toNat)
  case atStart => exact ⟨0, by omega, rfl, NoneBefore.zero _ _, hbz⟩
  case round =>
    obtain ⟨k, hk, rfl, hnb, hbl⟩ := hrel
    clear hbz
    by_cases hlt : k < N
    · obtain ⟨b, o, rfl, hb, hc⟩ := rdV HA.out (by rw [HL.out]; omega)
      have hkl : k < l.length := by rw [HL.out]; exact hlt
      have G := (hbl.cell (p := ⟨b, o + k, none⟩) hb).trans (hc k hkl)
      have HC := Lib.hid (HP.out k hlt wr hbl)
      have HY : Hid (p (vA l k) = true → idxF p l = k) := fun e => hnb.out.found hkl (by rw [← vA_get hkl]; exact e)
      have HNX : Hid (p (vA l k) = false → NoneBefore p l (k + 1)) := fun e => hnb.out.next hkl (by rw [← vA_get hkl]; exact e)
      clear hc hkl
      generalize vA l k = z at *
      have hcall := fun args W => hen args W
      go_wp2_with fail
      refine HC.out.mono ?_
      rintro e w1 ⟨rfl, hb1⟩
      clear hcall
      have hbl1 := hbl.trans (hb1.mono hbl.size)
      rcases Bool.eq_false_or_eq_true (p z) with q | q
      · have hy := Lib.hid (HY.out q)
        rw [q]
        clear q HY HNX
        go_wp2_with fail
        go_ret
        exact ⟨by rw [hy.out]; rfl, hbl1⟩
      · have hy := Lib.hid (HNX.out q)
        rw [q]
        clear q HY HNX
        go_wp2_with fail
        go_roundw
        case rel => exact ⟨k + 1, by omega, by go_num, hy, hbl1⟩
        case measure => simp [intOf]; omega
    · have hy : Hid (idxF p l = -1) := NoneBefore.none hnb.out (by rw [HL.out]; omega)
      go_wp2_with fail
      go_ret
      exact ⟨by rw [hy.out]; rfl, hbl⟩
set_option maxHeartbeats 1000000 in
theorem containsF_any (g : Nat) (hen : Enters Tryz.prog g) (env : Array Value) (p : Nat → Bool) (a : Option Addr) (N c : Nat) (l : List Nat) (w : World) (hl : l.length = N) (hN : N ≤ 1152921504606846976) (hA : Rd w a (fl encV l))
    (hp : ∀ i, i < N → ∀ W, Below w.heap.size w W → Calls Tryz.prog g (#[.int .u64 (vA l i)] ++ env) W fun e w' => e = .returned (.bool (p (vA l i))) ∧ Below W.heap.size W w') :
    Calls Tryz.prog 20 #[.slice a N c, .func (.func g) #[] env] w fun e w' => e = .returned (.bool (l.any p)) ∧ Below w.heap.size w w' := by
  have H := Lib.hid (indexF_any g hen env p a N c l w hl hN hA hp)
  have hb : Hid (decide (0 ≤ idxF p l) = l.any p) := idxF_ge _ _
  clear hl hA hp hen
  go_enter Tryz.func20, Tryz.ntmps20
  go_wp2_with fail
  refine H.out.mono ?_
  rintro e w' ⟨rfl, hb1⟩
  generalize idxF p l = z at *
  go_wp2_with fail
  go_ret
  exact ⟨by rw [← hb.out]; rfl, hb1⟩
/-- Numbers of 64 bits. -/
def FitV (l : List Nat) : Prop := ∀ i, i < l.length → vA l i < 18446744073709551616
/-- A set with a language that is none of the first L. -/
def wide (L : Nat) (x : Nat) : Bool := !decide (x < 2 ^ L)
/-- Why a table is not valid. -/
def chkT (L : Int) (has : List Nat) : Int := if L < 0 ∨ 32 < L then 3 else if 64 < has.length then 12 else if has.any (wide L.toNat) then 2 else 0
set_option maxRecDepth 100000 in
set_option maxHeartbeats 1000000 in
theorem tchk_any (L : Int) (a : Option Addr) (N c : Nat) (l : List Nat) (w : World) (hl : l.length = N) (hN : N ≤ 1152921504606846976) (hA : Rd w a (fl encV l)) (hF : FitV l) :
    Calls Tryz.prog 16 #[.agg #[.int .i64 L, .slice a N c]] w fun e w' => e = .returned (.int .i64 (chkT L l)) ∧ Below w.heap.size w w' := by
  have hb0 := bl_alloc (Below.refl _ w) (.cells #[.int .i64 L, .slice a N c] 24)
  have HL := Lib.hid hl
  have HA := Lib.hid hA
  have HF := Lib.hid hF
  clear hl hA hF
  by_cases h1 : L < 0
  · have he : Hid (chkT L l = 3) := if_pos (.inl h1)
    have d1 : decide (L < 0) = true := by simpa using h1
    go_enter Tryz.func16, Tryz.ntmps16
    go_wp2_with fail
    go_ret
    exact ⟨by rw [he.out]; rfl, hb0⟩
  · have d1 : decide (L < 0) = false := by simpa using h1
    by_cases h2 : 32 < L
    · have he : Hid (chkT L l = 3) := if_pos (.inr h2)
      have d2 : decide (32 < L) = true := by simpa using h2
      go_enter Tryz.func16, Tryz.ntmps16
      go_wp2_with fail
      go_ret
      exact ⟨by rw [he.out]; rfl, hb0⟩
    · have d2 : decide (32 < L) = false := by simpa using h2
      by_cases h3 : 64 < N
      · have he : Hid (chkT L l = 12) := by show _ = _; unfold chkT; rw [if_neg (by omega), if_pos (by rw [HL.out]; exact h3)]
        have d3 : decide (64 < N) = true := by simpa using h3
        go_enter Tryz.func16, Tryz.ntmps16
        go_wp2_with fail
        go_ret
        exact ⟨by rw [he.out]; rfl, hb0⟩
      · have d3 : decide (64 < N) = false := by simpa using h3
        obtain ⟨M, rfl⟩ : ∃ M : Nat, L = M := ⟨L.toNat, by omega⟩
        have he : Hid (chkT (M : Int) l = if l.any (wide M) then 2 else 0) := by show _ = _; unfold chkT; rw [if_neg (by omega), if_neg (by rw [HL.out]; exact h3), Int.toNat_natCast]
        have hB := Blk.new w #[.int .i64 M, .slice a N c] 24
        have HC := Lib.hid (containsF_any 29 (enters_of Tryz.func29 (by kernel_rfl) rfl) #[.pointer (some ⟨w.heap.size, 0, none⟩)] (wide M) a N c l (w.alloc (.cells #[.int .i64 M, .slice a N c] 24)) HL.out hN (HA.out.bl hb0) (fun i hi W hW => chk1_any (vA l i) M w.heap.size a N c W (HF.out i (by rw [HL.out]; exact hi)) (by omega) (hB.below hW)))
        clear hB
        go_enter Tryz.func16, Tryz.ntmps16
        go_wp2_with fail
        refine HC.out.mono ?_
        rintro e w1 ⟨rfl, hb1⟩
        have hb2 := bl_trans hb0 hb1
        rcases Bool.eq_false_or_eq_true (l.any (wide M)) with q | q
        · have HQ := Lib.hid q
          rw [q]
          clear q
          go_wp2_with fail
          go_ret
          exact ⟨by rw [he.out, HQ.out]; rfl, hb2⟩
        · have HQ := Lib.hid q
          rw [q]
          clear q
          go_wp2_with fail
          go_ret
          exact ⟨by rw [he.out, HQ.out]; rfl, hb2⟩
end Go.Proofs.YtkdehkkkbfackaaGreatDoor
namespace Go.Proofs.YtkdehkkkbfackaaGreatDoor
open Go.RowKit Go.Shelf
/-- Compatible sets. -/
def fitB (x y : Nat) : Bool := decide (x &&& y = 0) || decide (x &&& y = x) || decide (x &&& y = y)
set_option maxHeartbeats 1000000 in
theorem fits_any (x y : Nat) (w : World) (hx : x < 18446744073709551616) (hy : y < 18446744073709551616) :
    Calls Tryz.prog 19 #[.int .u64 x, .int .u64 y] w fun e w' => e = .returned (.bool (fitB x y)) ∧ w' = w := by
  have hb := bits_and hx hy
  obtain ⟨z, hz⟩ : ∃ z, x &&& y = z := ⟨_, rfl⟩
  rw [hz] at hb
  have HF : Hid (fitB x y = (decide (z = 0) || decide (z = x) || decide (z = y))) := by show _ = _; unfold fitB; rw [hz]
  clear hz
  by_cases q1 : z = 0
  · have t1 : ((z : Int) == 0) = true := by simp [q1]
    have HQ : Hid (fitB x y = true) := by show _ = _; rw [HF.out, decide_eq_true q1]; rfl
    have t2 : (z == 0) = true := by simp [q1]
    clear q1
    go_enter Tryz.func19, Tryz.ntmps19
    go_wp2_with fail
    go_ret
    exact ⟨ret_b (by rw [HQ.out]; try simp [t1]), rfl⟩
  · have t1 : ((z : Int) == 0) = false := by simp [q1]
    have t1n : (z == 0) = false := by simp [q1]
    by_cases q2 : z = x
    · have t2 : ((z : Int) == (x : Int)) = true := by simp [q2]
      have t2n : (z == x) = true := by simp [q2]
      have HQ : Hid (fitB x y = true) := by show _ = _; rw [HF.out, decide_eq_true q2]; simp
      clear q1 q2
      go_enter Tryz.func19, Tryz.ntmps19
      go_wp2_with fail
      all_goals
        go_ret
        exact ⟨ret_b (by rw [HQ.out]; try simp [t1, t1n, t2, t2n]), rfl⟩
    · have t2 : ((z : Int) == (x : Int)) = false := by simp; omega
      have t2n : (z == x) = false := by simp [q2]
      by_cases q3 : z = y
      · have t3 : ((z : Int) == (y : Int)) = true := by simp [q3]
        have t3n : (z == y) = true := by simp [q3]
        have HQ : Hid (fitB x y = true) := by show _ = _; rw [HF.out, decide_eq_true q3]; simp
        clear q1 q2 q3
        go_enter Tryz.func19, Tryz.ntmps19
        go_wp2_with fail
        all_goals
          go_ret
          exact ⟨ret_b (by rw [HQ.out]; try simp [t1, t1n, t2, t2n, t3, t3n]), rfl⟩
      · have t3 : ((z : Int) == (y : Int)) = false := by simp; omega
        have t3n : (z == y) = false := by simp [q3]
        have HQ : Hid (fitB x y = false) := by show _ = _; rw [HF.out, decide_eq_false q1, decide_eq_false q2, decide_eq_false q3]; rfl
        clear q1 q2 q3
        go_enter Tryz.func19, Tryz.ntmps19
        go_wp2_with fail
        all_goals
          go_ret
          exact ⟨ret_b (by rw [HQ.out]; try simp [t1, t1n, t2, t2n, t3, t3n]), rfl⟩
theorem in_bits {x k : Nat} (hx : x < 18446744073709551616) : bits .and .u64 ((x : Int) / 2 ^ k) 1 = ((x / 2 ^ k % 2 : Nat) : Int) := by
  have e : ((x : Int) / 2 ^ k) = ((x / 2 ^ k : Nat) : Int) := by simp
  rw [e, show (1 : Int) = ((1 : Nat) : Int) from rfl, bits_and (Nat.lt_of_le_of_lt (Nat.div_le_self _ _) hx) (by omega), Nat.and_one_is_mod]
/-- A set is wide if it has a language from L to 63. -/
theorem wide_bit {x L : Nat} (hx : x < 18446744073709551616) : wide L x = false ↔ ∀ j, L ≤ j → j < 64 → x.testBit j = false := by
  unfold wide
  simp only [Bool.not_eq_false', decide_eq_true_eq]
  constructor
  · intro h j h1 _
    exact Nat.testBit_lt_two_pow (Nat.lt_of_lt_of_le h (Nat.pow_le_pow_right (n := 2) (by omega) h1))
  · intro h
    refine Nat.lt_pow_two_of_testBit x fun j hj => ?_
    by_cases h64 : j < 64
    · exact h j hj h64
    · exact Nat.testBit_lt_two_pow (Nat.lt_of_lt_of_le hx (Nat.pow_le_pow_right (n := 2) (by omega) (show 64 ≤ j by omega)))
theorem any_take {l : List Nat} {p : Nat → Bool} {k : Nat} (h : l.length ≤ k) (hn : NoneBefore p l k) : l.any p = false := hn.any h
theorem any_at {l : List Nat} {p : Nat → Bool} {k : Nat} (h : k < l.length) (hp : p (vA l k) = true) : l.any p = true := by
  rw [List.any_eq_true]
  exact ⟨l[k], List.getElem_mem h, by rw [← vA_get h]; exact hp⟩
end Go.Proofs.YtkdehkkkbfackaaGreatDoor
namespace Go.Proofs.YtkdehkkkbfackaaGreatDoor
open Go.RowKit Go.Shelf Go.Sort
set_option maxHeartbeats 1000000 in
theorem grp1_any (x o S : Nat) (w : World) (hx : x < 18446744073709551616) (ho : o < 18446744073709551616) (hB : Blk w S #[.int .u64 x] 41) :
    Calls Tryz.prog 21 #[.int .u64 o, .pointer (some ⟨S, 0, none⟩)] w fun e w' => e = .returned (.bool (!fitB x o)) ∧ w' = w := by
  have e0 : w.cell? ⟨S, 0, none⟩ = some (.int .u64 x) := hB.cell 0
  go_enter Tryz.func21, Tryz.ntmps21
  go_wp2_with fail
  refine (fits_any x o w hx ho).mono ?_
  rintro e w' ⟨rfl, rfl⟩
  obtain ⟨b, hb⟩ : ∃ b, fitB x o = b := ⟨_, rfl⟩
  have HBB := Lib.hid hb
  rw [hb]
  clear hb
  go_wp2_with fail
  go_ret
  exact ⟨by rw [HBB.out]; rfl, rfl⟩
/-- x without its lowest bit. -/
def lowOff (x : Nat) : Nat := x &&& (x + 18446744073709551615) % 18446744073709551616
theorem lowOff_bits {x : Nat} (hx : x < 18446744073709551616) : bits .and .u64 (x : Int) (IntKind.u64.wrap ((x : Int) - 1)) = (lowOff x : Int) := by
  have e : IntKind.u64.wrap ((x : Int) - 1) = (((x + 18446744073709551615) % 18446744073709551616 : Nat) : Int) := by
    rw [IntKind.wrap_u64]; omega
  rw [e, bits_and hx (Nat.mod_lt _ (by omega))]
  rfl
/-- Is x a group of the table? -/
def grpB (L : Nat) (l : List Nat) (x : Nat) : Bool := (!decide (lowOff x = 0) && !decide (x = 2 ^ L - 1)) && !(l.any fun o => !fitB x o)
/-- The groups among the first k rows, in the order of the rows. -/
def grpL (L : Nat) (l : List Nat) (k : Nat) : List Nat := (l.take k).filter (grpB L l)
theorem grpL_snoc (L : Nat) (l : List Nat) (k : Nat) (h : k < l.length) : grpL L l (k + 1) = grpL L l k ++ (if grpB L l (vA l k) then [vA l k] else []) := by
  unfold grpL
  rw [List.take_succ_eq_append_getElem h, List.filter_append, ← vA_get h]
  congr 1
  by_cases q : grpB L l (vA l k)
  · simp [q]
  · simp [q]
theorem info_G : (Tryz.prog.info? 41).map (fun i => (i.zero, i.size, i.bytes)) = some (some (.int .u64 0), 1, 8) := by kernel_rfl
theorem push_G {w : World} {ops : Array Oper} {rest : List Oper} {o : Oper} {a : Act} {Q : Exit → Act → World → Prop} (hgd : o.guard = none) (s x : Operand) (ho : o.op = .call { callee := .builtin .append, args := #[s, x], argTypes := #[42, 42] })
    (base : Nat) (v : Value) (l : List Nat) (n : Nat) (hn : n = l.length) (hs : a.eval s = v) (hown : w.ownsRow base 41 1 v n (fl encV l)) (B c : Nat) (y : Nat) (hx : a.eval x = .slice (some ⟨B, 0, none⟩) 1 c) (hB : Blk w B (encV y).toArray 41) (hl : n < 8796093022208) (hbase : base ≤ w.heap.size)
    (h : ∀ g cap w', w'.ownsRow base 41 1 (.slice (some ⟨g, 0, none⟩) (n + 1) cap) (n + 1) (fl encV (l ++ [y])) → w.grownBy w' v.ownBlock → (v.ownBlock = some g ∨ g = w.heap.size) → g < w'.heap.size → wpList Tryz.prog ops Q rest (a.put o.dst (.slice (some ⟨g, 0, none⟩) (n + 1) cap)) w') : wpList Tryz.prog ops Q (o :: rest) a w := by
  obtain ⟨i0, hi, hz0, hz1, hz2⟩ := info_parts info_G
  refine wpList_append_lies w hgd s x 42 ho base 41 i0 _ 1 8 Tryz.underlying42 hi hz0 hz1 hz2 rfl (by decide) v n (fl encV l) hs hown ⟨B, 0, none⟩ 1 c (encV y) hx (by simp [encV]) (World.news_of_block (cs := (encV y).toArray) (t := 41) (fr := (0, 0)) hB) (by intro u hu; simp [encV] at hu; first | (subst hu; rfl) | (rcases hu with rfl | rfl <;> rfl) | (rcases hu with rfl | rfl | rfl | rfl | rfl <;> rfl)) (by omega) (by unfold maxLen; omega) (by omega) hbase _ rfl ?_
  intro g cap w' h1 h2 h3 h4
  rw [← fl_snoc] at h1
  exact h g cap w' h1 h2 h3 h4
theorem spush_G {w : World} {ops : Array Oper} {o : Oper} {a : Act} {K : Act → World → Prop} {Q : Exit → Act → World → Prop} {E : Prop} (hgd : o.guard = none) (s x : Operand) (ho : o.op = .call { callee := .builtin .append, args := #[s, x], argTypes := #[42, 42] })
    (base : Nat) (v : Value) (l : List Nat) (n : Nat) (hn : n = l.length) (hs : a.eval s = v) (hown : w.ownsRow base 41 1 v n (fl encV l)) (B c : Nat) (y : Nat) (hx : a.eval x = .slice (some ⟨B, 0, none⟩) 1 c) (hB : Blk w B (encV y).toArray 41) (hl : n < 8796093022208) (hbase : base ≤ w.heap.size)
    (h : ∀ g cap w', w'.ownsRow base 41 1 (.slice (some ⟨g, 0, none⟩) (n + 1) cap) (n + 1) (fl encV (l ++ [y])) → w.grownBy w' v.ownBlock → (v.ownBlock = some g ∨ g = w.heap.size) → g < w'.heap.size → K (a.put o.dst (.slice (some ⟨g, 0, none⟩) (n + 1) cap)) w') : if Region.wanted o (yielded ops a.tmps) = true then Oper.wp Tryz.prog o a w K Q else E := by
  obtain ⟨i0, hi, hz0, hz1, hz2⟩ := info_parts info_G
  refine step_append_lies w hgd s x 42 ho base 41 i0 _ 1 8 Tryz.underlying42 hi hz0 hz1 hz2 rfl (by decide) v n (fl encV l) hs hown ⟨B, 0, none⟩ 1 c (encV y) hx (by simp [encV]) (World.news_of_block (cs := (encV y).toArray) (t := 41) (fr := (0, 0)) hB) (by intro u hu; simp [encV] at hu; first | (subst hu; rfl) | (rcases hu with rfl | rfl <;> rfl) | (rcases hu with rfl | rfl | rfl | rfl | rfl <;> rfl)) (by omega) (by unfold maxLen; omega) (by omega) hbase _ rfl ?_
  intro g cap w' h1 h2 h3 h4
  rw [← fl_snoc] at h1
  exact h g cap w' h1 h2 h3 h4
end Go.Proofs.YtkdehkkkbfackaaGreatDoor
namespace Go.Proofs.YtkdehkkkbfackaaGreatDoor
/-- The sum of the first n digits to the base 2 ^ k. -/
def popD (k : Nat) : Nat → Nat → Nat
  | 0, _ => 0
  | n + 1, x => x % 2 ^ k + popD k n (x / 2 ^ k)
/-- The first n digits to the base 2 ^ k are at most d, the others 0. -/
def DigOk (k d : Nat) : Nat → Nat → Prop
  | 0, x => x = 0
  | n + 1, x => x % 2 ^ k ≤ d ∧ DigOk k d n (x / 2 ^ k)
/-- The lower half of each of n pairs of digits. -/
def mk2 (k : Nat) : Nat → Nat
  | 0 => 0
  | n + 1 => 2 ^ (2 * k) * mk2 k n + (2 ^ k - 1)
theorem and_rec (k x m : Nat) : x &&& (2 ^ (2 * k) * m + (2 ^ k - 1)) = 2 ^ (2 * k) * ((x / 2 ^ (2 * k)) &&& m) + x % 2 ^ k := by
  have hk : 2 ^ k ≤ 2 ^ (2 * k) := Nat.pow_le_pow_right (by omega) (by omega)
  have hp : 0 < 2 ^ k := Nat.two_pow_pos k
  have h1 : 2 ^ k - 1 < 2 ^ (2 * k) := by omega
  have h2 : x % 2 ^ k < 2 ^ (2 * k) := Nat.lt_of_lt_of_le (Nat.mod_lt _ hp) hk
  apply Nat.eq_of_testBit_eq
  intro i
  rw [Nat.testBit_and, Nat.testBit_two_pow_mul_add _ h1, Nat.testBit_two_pow_mul_add _ h2]
  by_cases hi : i < 2 * k
  · rw [if_pos hi, if_pos hi, Nat.testBit_two_pow_sub_one, Nat.testBit_mod_two_pow, Bool.and_comm]
  · rw [if_neg hi, if_neg hi, Nat.testBit_and, Nat.testBit_div_two_pow]
    rw [show i - 2 * k + 2 * k = i by omega]
theorem DigOk.lt {k d : Nat} : ∀ {n x : Nat}, DigOk k d n x → x < 2 ^ (k * n)
  | 0, x, h => by rw [show x = 0 from h]; exact Nat.two_pow_pos _
  | n + 1, x, h => by
    have ih := DigOk.lt h.2
    rw [Nat.mul_succ, Nat.add_comm, Nat.pow_add, Nat.mul_comm]
    exact (Nat.div_lt_iff_lt_mul (Nat.two_pow_pos k)).1 ih
theorem digOk_of {k : Nat} : ∀ {n x : Nat}, x < 2 ^ (k * n) → DigOk k (2 ^ k - 1) n x
  | 0, x, h => by rw [Nat.mul_zero] at h; show x = 0; omega
  | n + 1, x, h => by
    have hp : 0 < 2 ^ k := Nat.two_pow_pos k
    refine ⟨by have := Nat.mod_lt x hp; omega, digOk_of ?_⟩
    rw [Nat.mul_succ, Nat.add_comm, Nat.pow_add, Nat.mul_comm] at h
    exact (Nat.div_lt_iff_lt_mul hp).2 h
/-- One stage: two digits are added up. -/
theorem pop_stage {k d : Nat} (hd : d < 2 ^ k) (hdd : 2 * d < 2 ^ (2 * k)) : ∀ {n x : Nat}, DigOk k d (2 * n) x → DigOk (2 * k) (2 * d) n ((x / 2 ^ k &&& mk2 k n) + (x &&& mk2 k n)) ∧ popD (2 * k) n ((x / 2 ^ k &&& mk2 k n) + (x &&& mk2 k n)) = popD k (2 * n) x
  | 0, x, h => by
    have : x = 0 := h
    subst this
    exact ⟨by show _ = 0; simp, rfl⟩
  | n + 1, x, h => by
    have hp : 0 < 2 ^ k := Nat.two_pow_pos k
    have hB : 0 < 2 ^ (2 * k) := Nat.two_pow_pos (2 * k)
    obtain ⟨h1, h2, h3⟩ : x % 2 ^ k ≤ d ∧ x / 2 ^ k % 2 ^ k ≤ d ∧ DigOk k d (2 * n) (x / 2 ^ k / 2 ^ k) := h
    have e0 : x / 2 ^ k / 2 ^ k = x / 2 ^ (2 * k) := by rw [Nat.div_div_eq_div_mul, ← Nat.pow_add, show k + k = 2 * k by omega]
    have e1 : x / 2 ^ k / 2 ^ (2 * k) = x / 2 ^ (2 * k) / 2 ^ k := by rw [Nat.div_div_eq_div_mul, Nat.div_div_eq_div_mul, Nat.mul_comm]
    rw [e0] at h3
    obtain ⟨i1, i2⟩ := pop_stage hd hdd h3
    have es : (x / 2 ^ k &&& mk2 k (n + 1)) + (x &&& mk2 k (n + 1)) = 2 ^ (2 * k) * ((x / 2 ^ (2 * k) / 2 ^ k &&& mk2 k n) + (x / 2 ^ (2 * k) &&& mk2 k n)) + (x / 2 ^ k % 2 ^ k + x % 2 ^ k) := by
      show (x / 2 ^ k &&& (2 ^ (2 * k) * mk2 k n + (2 ^ k - 1))) + (x &&& (2 ^ (2 * k) * mk2 k n + (2 ^ k - 1))) = _
      rw [and_rec, and_rec, e1, Nat.mul_add]
      omega
    rw [es]
    have em : (2 ^ (2 * k) * ((x / 2 ^ (2 * k) / 2 ^ k &&& mk2 k n) + (x / 2 ^ (2 * k) &&& mk2 k n)) + (x / 2 ^ k % 2 ^ k + x % 2 ^ k)) % 2 ^ (2 * k) = x / 2 ^ k % 2 ^ k + x % 2 ^ k := by
      rw [Nat.mul_add_mod]; exact Nat.mod_eq_of_lt (by omega)
    have ed : (2 ^ (2 * k) * ((x / 2 ^ (2 * k) / 2 ^ k &&& mk2 k n) + (x / 2 ^ (2 * k) &&& mk2 k n)) + (x / 2 ^ k % 2 ^ k + x % 2 ^ k)) / 2 ^ (2 * k) = (x / 2 ^ (2 * k) / 2 ^ k &&& mk2 k n) + (x / 2 ^ (2 * k) &&& mk2 k n) := by
      have hlt : x / 2 ^ k % 2 ^ k + x % 2 ^ k < 2 ^ (2 * k) := by omega
      rw [Nat.mul_add_div hB, Nat.div_eq_of_lt hlt, Nat.add_zero]
    refine ⟨⟨by rw [em]; omega, by rw [ed]; exact i1⟩, ?_⟩
    show _ % 2 ^ (2 * k) + popD (2 * k) n (_ / 2 ^ (2 * k)) = x % 2 ^ k + (x / 2 ^ k % 2 ^ k + popD k (2 * n) (x / 2 ^ k / 2 ^ k))
    rw [em, ed, i2, e0]
    omega
/-- The third stage: nibbles of at most 4 are added before the mask. -/
theorem pop_third : ∀ {n x : Nat}, DigOk 4 4 (2 * n) x → DigOk 8 8 n (x / 16 + x &&& mk2 4 n) ∧ popD 8 n (x / 16 + x &&& mk2 4 n) = popD 4 (2 * n) x
  | 0, x, h => by
    have : x = 0 := h
    subst this
    exact ⟨by show _ = 0; simp, rfl⟩
  | n + 1, x, h => by
    obtain ⟨h1, h2, h3⟩ : x % 2 ^ 4 ≤ 4 ∧ x / 2 ^ 4 % 2 ^ 4 ≤ 4 ∧ DigOk 4 4 (2 * n) (x / 2 ^ 4 / 2 ^ 4) := h
    have e0 : x / 2 ^ 4 / 2 ^ 4 = x / 256 := by omega
    rw [e0] at h3
    have h4 : x / 256 % 16 ≤ 4 := by
      cases n with
      | zero => rw [show x / 256 = 0 from h3]; omega
      | succ n => exact h3.1
    obtain ⟨i1, i2⟩ := pop_third h3
    have es : x / 16 + x &&& mk2 4 (n + 1) = 256 * (x / 256 / 16 + x / 256 &&& mk2 4 n) + (x % 16 + x / 16 % 16) := by
      show x / 16 + x &&& (2 ^ (2 * 4) * mk2 4 n + (2 ^ 4 - 1)) = _
      rw [and_rec]
      obtain ⟨x', hx'⟩ : ∃ y, x / 256 = y := ⟨_, rfl⟩
      obtain ⟨x2, hx2⟩ : ∃ y, x' / 16 = y := ⟨_, rfl⟩
      obtain ⟨lo, hlo⟩ : ∃ y, x % 16 = y := ⟨_, rfl⟩
      obtain ⟨hi, hhi⟩ : ∃ y, x / 16 % 16 = y := ⟨_, rfl⟩
      obtain ⟨l2, hl2⟩ : ∃ y, x' % 16 = y := ⟨_, rfl⟩
      have q1 : lo ≤ 4 := by rw [← hlo]; exact h1
      have q2 : hi ≤ 4 := by rw [← hhi]; exact h2
      have q3 : l2 ≤ 4 := by rw [← hl2, ← hx']; exact h4
      have g2 : x' = l2 + 16 * x2 := by omega
      have g3 : x / 16 = hi + 16 * x' := by omega
      have g4 : x = lo + 16 * (hi + 16 * x') := by omega
      have g1 : x / 16 + x = lo + hi + 16 * (hi + l2) + 256 * (x' + x2) := by omega
      have e2 : (x / 16 + x) / 2 ^ (2 * 4) = x2 + x' := by
        rw [g1]
        clear g1 g2 g3 g4 hx' hx2 hlo hhi hl2 h1 h2 h3 h4 i1 i2
        show (lo + hi + 16 * (hi + l2) + 256 * (x' + x2)) / 256 = _
        omega
      have e3 : (x / 16 + x) % 2 ^ 4 = lo + hi := by
        rw [g1]
        clear g1 g2 g3 g4 hx' hx2 hlo hhi hl2 h1 h2 h3 h4 i1 i2
        show (lo + hi + 16 * (hi + l2) + 256 * (x' + x2)) % 16 = _
        omega
      rw [e2, e3, hlo, hhi, hx', hx2]
    rw [es]
    generalize (x / 256 / 16 + x / 256 &&& mk2 4 n) = y at *
    have hs : x % 16 + x / 16 % 16 ≤ 8 := by
      have q1 : x % 16 ≤ 4 := h1
      have q2 : x / 16 % 16 ≤ 4 := h2
      omega
    have em : (256 * y + (x % 16 + x / 16 % 16)) % 2 ^ 8 = x % 16 + x / 16 % 16 := by
      generalize x % 16 + x / 16 % 16 = u at *
      show (256 * y + u) % 256 = u
      rw [Nat.mul_add_mod]; exact Nat.mod_eq_of_lt (by omega)
    have ed : (256 * y + (x % 16 + x / 16 % 16)) / 2 ^ 8 = y := by
      generalize x % 16 + x / 16 % 16 = u at *
      show (256 * y + u) / 256 = y
      rw [Nat.mul_add_div (by omega), Nat.div_eq_of_lt (by omega), Nat.add_zero]
    refine ⟨⟨by rw [em]; omega, by rw [ed]; exact i1⟩, ?_⟩
    show _ % 2 ^ 8 + popD 8 n (_ / 2 ^ 8) = x % 2 ^ 4 + (x / 2 ^ 4 % 2 ^ 4 + popD 4 (2 * n) (x / 2 ^ 4 / 2 ^ 4))
    rw [em, ed, i2, e0]
    omega
theorem ls1 {c1 c2 c3 c4 c5 c6 c7 y1 y2 y3 y4 y5 y6 : Nat} (h1 : y1 = c1 + 256 * y2) (h2 : y2 = c2 + 256 * y3) (h3 : y3 = c3 + 256 * y4) (h4 : y4 = c4 + 256 * y5) (h5 : y5 = c5 + 256 * y6) (h6 : y6 = c6 + 256 * c7) : y1 = c1 + 256 * c2 + 65536 * c3 + 16777216 * c4 + 4294967296 * c5 + 1099511627776 * c6 + 281474976710656 * c7 := by omega
theorem ls2 {x y c : Nat} (h : x = c + 256 * y) (b : c ≤ 8) : x / 256 = y := by omega
theorem ls3 {x c0 c1 c2 c3 c4 c5 c6 c7 : Nat} (h : x = c0 + 256 * (c1 + 256 * c2 + 65536 * c3 + 16777216 * c4 + 4294967296 * c5 + 1099511627776 * c6 + 281474976710656 * c7)) (b0 : c0 ≤ 8) (b1 : c1 ≤ 8) (b2 : c2 ≤ 8) (b3 : c3 ≤ 8) (b4 : c4 ≤ 8) (b5 : c5 ≤ 8) (b6 : c6 ≤ 8) (b7 : c7 ≤ 8) : x < 1152921504606846976 := by omega
theorem ls4 {x y1 c0 c1 c2 c3 c4 c5 c6 c7 : Nat} (h : x = c0 + 256 * y1) (k : y1 = c1 + 256 * c2 + 65536 * c3 + 16777216 * c4 + 4294967296 * c5 + 1099511627776 * c6 + 281474976710656 * c7) : x + y1 = ((c0 + c1) + 256 * (c1 + c2)) + 65536 * ((c2 + c3) + 256 * (c3 + c4) + 65536 * (c4 + c5) + 16777216 * (c5 + c6) + 4294967296 * (c6 + c7) + 1099511627776 * c7) := by omega
theorem ls5 {p u q : Nat} (h : p = u + 65536 * q) (hu : u < 65536) (hq : q < 17592186044416) : p / 65536 = q ∧ p < 1152921504606846976 := by omega
theorem ls6 {c0 c1 c2 : Nat} (b0 : c0 ≤ 8) (b1 : c1 ≤ 8) (b2 : c2 ≤ 8) : (c0 + c1) + 256 * (c1 + c2) < 65536 := by omega
theorem ls7 {c2 c3 c4 c5 c6 c7 : Nat} (b2 : c2 ≤ 8) (b3 : c3 ≤ 8) (b4 : c4 ≤ 8) (b5 : c5 ≤ 8) (b6 : c6 ≤ 8) (b7 : c7 ≤ 8) : (c2 + c3) + 256 * (c3 + c4) + 65536 * (c4 + c5) + 16777216 * (c5 + c6) + 4294967296 * (c6 + c7) + 1099511627776 * c7 < 17592186044416 := by omega
theorem ls8 {p q c0 c1 c2 c3 c4 c5 c6 c7 : Nat} (h : p = ((c0 + c1) + 256 * (c1 + c2)) + 65536 * q) (k : (c2 + c3) + 256 * (c3 + c4) + 65536 * (c4 + c5) + 16777216 * (c5 + c6) + 4294967296 * (c6 + c7) + 1099511627776 * c7 = q) : p + q = ((c0 + c1 + c2 + c3) + 256 * (c1 + c2 + c3 + c4) + 65536 * (c2 + c3 + c4 + c5) + 16777216 * (c3 + c4 + c5 + c6)) + 4294967296 * ((c4 + c5 + c6 + c7) + 256 * (c5 + c6 + c7) + 65536 * (c6 + c7) + 16777216 * c7) := by omega
theorem ls9 {c0 c1 c2 c3 c4 c5 c6 : Nat} (b0 : c0 ≤ 8) (b1 : c1 ≤ 8) (b2 : c2 ≤ 8) (b3 : c3 ≤ 8) (b4 : c4 ≤ 8) (b5 : c5 ≤ 8) (b6 : c6 ≤ 8) : (c0 + c1 + c2 + c3) + 256 * (c1 + c2 + c3 + c4) + 65536 * (c2 + c3 + c4 + c5) + 16777216 * (c3 + c4 + c5 + c6) < 4294967296 := by omega
theorem ls10 {c4 c5 c6 c7 : Nat} (b4 : c4 ≤ 8) (b5 : c5 ≤ 8) (b6 : c6 ≤ 8) (b7 : c7 ≤ 8) : (c4 + c5 + c6 + c7) + 256 * (c5 + c6 + c7) + 65536 * (c6 + c7) + 16777216 * c7 < 268435456 := by omega
theorem ls11 {r u v : Nat} (h : r = u + 4294967296 * v) (hu : u < 4294967296) (hv : v < 268435456) : r / 4294967296 = v ∧ r < 1152921504606846976 ∧ r + v < 1152921504606846976 + 268435456 := by omega
theorem ls12 {r v c0 c1 c2 c3 c4 c5 c6 c7 : Nat} (h : r = ((c0 + c1 + c2 + c3) + 256 * (c1 + c2 + c3 + c4) + 65536 * (c2 + c3 + c4 + c5) + 16777216 * (c3 + c4 + c5 + c6)) + 4294967296 * v) (k : (c4 + c5 + c6 + c7) + 256 * (c5 + c6 + c7) + 65536 * (c6 + c7) + 16777216 * c7 = v) : r + v = 128 * (2 * (c1 + c2 + c3 + c4) + 512 * (c2 + c3 + c4 + c5) + 131072 * (c3 + c4 + c5 + c6) + 33554432 * v + 2 * (c5 + c6 + c7) + 512 * (c6 + c7) + 131072 * c7) + (c0 + c1 + c2 + c3 + c4 + c5 + c6 + c7) := by omega
theorem ls13 {c0 c1 c2 c3 c4 c5 c6 c7 : Nat} (b0 : c0 ≤ 8) (b1 : c1 ≤ 8) (b2 : c2 ≤ 8) (b3 : c3 ≤ 8) (b4 : c4 ≤ 8) (b5 : c5 ≤ 8) (b6 : c6 ≤ 8) (b7 : c7 ≤ 8) : c0 + c1 + c2 + c3 + c4 + c5 + c6 + c7 < 128 := by omega
theorem last_sum {x c0 c1 c2 c3 c4 c5 c6 c7 y1 y2 y3 y4 y5 y6 : Nat} (h0 : x = c0 + 256 * y1) (h1 : y1 = c1 + 256 * y2) (h2 : y2 = c2 + 256 * y3) (h3 : y3 = c3 + 256 * y4) (h4 : y4 = c4 + 256 * y5) (h5 : y5 = c5 + 256 * y6) (h6 : y6 = c6 + 256 * c7)
    (b0 : c0 ≤ 8) (b1 : c1 ≤ 8) (b2 : c2 ≤ 8) (b3 : c3 ≤ 8) (b4 : c4 ≤ 8) (b5 : c5 ≤ 8) (b6 : c6 ≤ 8) (b7 : c7 ≤ 8) : x < 1152921504606846976 ∧ x + x / 256 < 1152921504606846976 ∧ (x + x / 256) + (x + x / 256) / 65536 < 1152921504606846976 ∧ ((x + x / 256) + (x + x / 256) / 65536) + ((x + x / 256) + (x + x / 256) / 65536) / 4294967296 < 1152921504606846976 + 268435456 ∧
    (((x + x / 256) + (x + x / 256) / 65536) + ((x + x / 256) + (x + x / 256) / 65536) / 4294967296) % 128 = c0 + c1 + c2 + c3 + c4 + c5 + c6 + c7 := by
  have f1 := ls1 h1 h2 h3 h4 h5 h6
  have hx : x < 1152921504606846976 := ls3 (h0.trans (by rw [f1])) b0 b1 b2 b3 b4 b5 b6 b7
  rw [ls2 h0 b0]
  have s1 := ls4 h0 f1
  obtain ⟨q, hq⟩ : ∃ q, (c2 + c3) + 256 * (c3 + c4) + 65536 * (c4 + c5) + 16777216 * (c5 + c6) + 4294967296 * (c6 + c7) + 1099511627776 * c7 = q := ⟨_, rfl⟩
  have hqb := ls7 b2 b3 b4 b5 b6 b7
  rw [hq] at s1 hqb
  generalize x + y1 = p at *
  have d1 := ls5 s1 (ls6 b0 b1 b2) hqb
  rw [d1.1]
  have s2 := ls8 s1 hq
  obtain ⟨v, hv⟩ : ∃ v, (c4 + c5 + c6 + c7) + 256 * (c5 + c6 + c7) + 65536 * (c6 + c7) + 16777216 * c7 = v := ⟨_, rfl⟩
  have hvb := ls10 b4 b5 b6 b7
  rw [hv] at s2 hvb
  generalize p + q = r at *
  have d2 := ls11 s2 (ls9 b0 b1 b2 b3 b4 b5 b6) hvb
  rw [d2.1]
  refine ⟨hx, d1.2, d2.2.1, d2.2.2, ?_⟩
  rw [ls12 s2 hv, Nat.mul_add_mod, Nat.mod_eq_of_lt (ls13 b0 b1 b2 b3 b4 b5 b6 b7)]
/-- The last stage: the bytes are added up. -/
theorem pop_last {x : Nat} (h : DigOk 8 8 8 x) : x < 1152921504606846976 ∧ x + x / 256 < 1152921504606846976 ∧ (x + x / 256) + (x + x / 256) / 65536 < 1152921504606846976 ∧ ((x + x / 256) + (x + x / 256) / 65536) + ((x + x / 256) + (x + x / 256) / 65536) / 4294967296 < 1152921504606846976 + 268435456 ∧
    (((x + x / 256) + (x + x / 256) / 65536) + ((x + x / 256) + (x + x / 256) / 65536) / 4294967296) % 128 = popD 8 8 x := by
  obtain ⟨a0, a1, a2, a3, a4, a5, a6, a7, a8⟩ := h
  have a9 : x / 2 ^ 8 / 2 ^ 8 / 2 ^ 8 / 2 ^ 8 / 2 ^ 8 / 2 ^ 8 / 2 ^ 8 / 2 ^ 8 = 0 := a8
  have st : ∀ z : Nat, z = z % 2 ^ 8 + 256 * (z / 2 ^ 8) := fun z => (Nat.mod_add_div z 256).symm
  have l := last_sum (st x) (st (x / 2 ^ 8)) (st (x / 2 ^ 8 / 2 ^ 8)) (st (x / 2 ^ 8 / 2 ^ 8 / 2 ^ 8)) (st (x / 2 ^ 8 / 2 ^ 8 / 2 ^ 8 / 2 ^ 8)) (st (x / 2 ^ 8 / 2 ^ 8 / 2 ^ 8 / 2 ^ 8 / 2 ^ 8)) (c7 := x / 2 ^ 8 / 2 ^ 8 / 2 ^ 8 / 2 ^ 8 / 2 ^ 8 / 2 ^ 8 / 2 ^ 8 % 2 ^ 8) (by
      have h7 := st (x / 2 ^ 8 / 2 ^ 8 / 2 ^ 8 / 2 ^ 8 / 2 ^ 8 / 2 ^ 8 / 2 ^ 8)
      rw [a9, Nat.mul_zero, Nat.add_zero] at h7
      rw [← h7]
      exact st _) a0 a1 a2 a3 a4 a5 a6 a7
  refine ⟨l.1, l.2.1, l.2.2.1, l.2.2.2.1, ?_⟩
  rw [l.2.2.2.2]
  simp only [popD, Nat.add_zero, Nat.add_assoc]
/-- The bits of x below n. -/
def cntB (x : Nat) : Nat → Nat
  | 0 => 0
  | n + 1 => cntB x n + if x.testBit n then 1 else 0
theorem cntB_le (x : Nat) : ∀ n, cntB x n ≤ n
  | 0 => Nat.le_refl _
  | n + 1 => by
    have := cntB_le x n
    unfold cntB
    split <;> omega
theorem popD_snoc : ∀ (n x : Nat), popD 1 (n + 1) x = popD 1 n x + x / 2 ^ n % 2
  | 0, x => by simp [popD]
  | n + 1, x => by
    have ih := popD_snoc n (x / 2 ^ 1)
    show x % 2 ^ 1 + popD 1 (n + 1) (x / 2 ^ 1) = (x % 2 ^ 1 + popD 1 n (x / 2 ^ 1)) + x / 2 ^ (n + 1) % 2
    rw [ih, Nat.div_div_eq_div_mul, ← Nat.pow_add, Nat.add_comm 1 n]
    omega
theorem cntB_pop (x : Nat) : ∀ n, cntB x n = popD 1 n x
  | 0 => rfl
  | n + 1 => by
    rw [popD_snoc, ← cntB_pop x n]
    show cntB x n + (if x.testBit n then 1 else 0) = _
    rw [Nat.testBit_eq_decide_div_mod_eq]
    by_cases h : x / 2 ^ n % 2 = 1
    · rw [h]; simp
    · rw [show x / 2 ^ n % 2 = 0 by omega]; simp
end Go.Proofs.YtkdehkkkbfackaaGreatDoor
namespace Go.Proofs.YtkdehkkkbfackaaGreatDoor
open Go.RowKit Go.Shelf
theorem mk2_1 : mk2 1 32 = 6148914691236517205 := by decide
theorem mk2_2 : mk2 2 16 = 3689348814741910323 := by decide
theorem mk2_4 : mk2 4 8 = 1085102592571150095 := by decide
theorem idiv (x k : Nat) : ((x : Int) / (k : Int)) = ((x / k : Nat) : Int) := by simp
structure Pops (x y1 y2 y3 : Nat) : Prop where
  s1 : y1 = (x / 2 &&& 6148914691236517205) + (x &&& 6148914691236517205)
  s2 : y2 = (y1 / 4 &&& 3689348814741910323) + (y1 &&& 3689348814741910323)
  s3 : y3 = (y2 / 16 + y2 &&& 1085102592571150095)
  b1 : y1 < 18446744073709551616
  b2 : y2 < 5764607523034234880
  last : y3 < 1152921504606846976 ∧ y3 + y3 / 256 < 1152921504606846976 ∧ (y3 + y3 / 256) + (y3 + y3 / 256) / 65536 < 1152921504606846976 ∧ ((y3 + y3 / 256) + (y3 + y3 / 256) / 65536) + ((y3 + y3 / 256) + (y3 + y3 / 256) / 65536) / 4294967296 < 1152921504606846976 + 268435456 ∧
    (((y3 + y3 / 256) + (y3 + y3 / 256) / 65536) + ((y3 + y3 / 256) + (y3 + y3 / 256) / 65536) / 4294967296) % 128 = cntB x 64
theorem pops_of {x : Nat} (hx : x < 18446744073709551616) : ∃ y1 y2 y3, Pops x y1 y2 y3 := by
  have h0 : DigOk 1 1 (2 * 32) x := digOk_of (k := 1) (n := 64) hx
  obtain ⟨d1, p1⟩ := pop_stage (k := 1) (d := 1) (by decide) (by decide) h0
  rw [mk2_1] at d1 p1
  obtain ⟨y1, hy1⟩ : ∃ y, (x / 2 ^ 1 &&& 6148914691236517205) + (x &&& 6148914691236517205) = y := ⟨_, rfl⟩
  rw [hy1] at d1 p1
  have h1 : DigOk 2 2 (2 * 16) y1 := d1
  obtain ⟨d2, p2⟩ := pop_stage (k := 2) (d := 2) (by decide) (by decide) h1
  rw [mk2_2] at d2 p2
  obtain ⟨y2, hy2⟩ : ∃ y, (y1 / 2 ^ 2 &&& 3689348814741910323) + (y1 &&& 3689348814741910323) = y := ⟨_, rfl⟩
  rw [hy2] at d2 p2
  have h2 : DigOk 4 4 (2 * 8) y2 := d2
  obtain ⟨d3, p3⟩ := pop_third h2
  rw [mk2_4] at d3 p3
  obtain ⟨y3, hy3⟩ : ∃ y, (y2 / 16 + y2 &&& 1085102592571150095) = y := ⟨_, rfl⟩
  rw [hy3] at d3 p3
  have l := pop_last d3
  have e1 : popD 2 32 y1 = popD 1 64 x := p1
  have e2 : popD 4 16 y2 = popD 2 32 y1 := p2
  have e3 : popD 8 8 y3 = popD 4 16 y2 := p3
  have b1 : y1 < 2 ^ (2 * 32) := h1.lt
  have b2 : y2 < 5764607523034234880 := by
    have h16 : DigOk 4 4 (15 + 1) y2 := d2
    have hdig : ∀ n x, DigOk 4 4 (n + 1) x → x < 5 * 16 ^ n := by
      intro n
      induction n with
      | zero => intro x h; have h1 := h.1; have h2 : x / 2 ^ 4 = 0 := h.2; simp at h1 h2 ⊢; omega
      | succ n ih =>
        intro x h
        have h1 : x % 16 ≤ 4 := h.1
        have h2 : x / 16 < 5 * 16 ^ n := ih _ h.2
        rw [Nat.pow_succ]
        omega
    have := hdig 15 y2 h16
    have e : 5 * 16 ^ 15 = 5764607523034234880 := by decide
    omega
  refine ⟨y1, y2, y3, hy1.symm, hy2.symm, hy3.symm, b1, b2, ?_⟩
  rw [cntB_pop, ← e1, ← e2, ← e3]
  exact l
end Go.Proofs.YtkdehkkkbfackaaGreatDoor
namespace Go.Proofs.YtkdehkkkbfackaaGreatDoor
open Go.RowKit Go.Shelf
theorem pop_m1 {x y1 : Nat} (hx : x < 18446744073709551616) (e : y1 = (x / 2 &&& 6148914691236517205) + (x &&& 6148914691236517205)) (hy : y1 < 18446744073709551616) :
    IntKind.u64.wrap (bits .and .u64 ((x : Int) / 2) 6148914691236517205 + bits .and .u64 (x : Int) 6148914691236517205) = (y1 : Int) := by
  have e1 : ((x : Int) / 2) = ((x / 2 : Nat) : Int) := by omega
  have b1 := bits_and (x := x / 2) (y := 6148914691236517205) (by omega) (by decide)
  have b2 := bits_and (x := x) (y := 6148914691236517205) hx (by decide)
  rw [e1]
  rw [show ((6148914691236517205 : Nat) : Int) = (6148914691236517205 : Int) from rfl] at b1 b2
  rw [b1, b2, show (((x / 2 &&& 6148914691236517205 : Nat) : Int) + ((x &&& 6148914691236517205 : Nat) : Int)) = (y1 : Int) by rw [e]; simp, w64 _ hy]
theorem pop_m2 {x y1 : Nat} (hx : x < 18446744073709551616) (e : y1 = (x / 4 &&& 3689348814741910323) + (x &&& 3689348814741910323)) (hy : y1 < 18446744073709551616) :
    IntKind.u64.wrap (bits .and .u64 ((x : Int) / 4) 3689348814741910323 + bits .and .u64 (x : Int) 3689348814741910323) = (y1 : Int) := by
  have e1 : ((x : Int) / 4) = ((x / 4 : Nat) : Int) := by omega
  have b1 := bits_and (x := x / 4) (y := 3689348814741910323) (by omega) (by decide)
  have b2 := bits_and (x := x) (y := 3689348814741910323) hx (by decide)
  rw [e1]
  rw [show ((3689348814741910323 : Nat) : Int) = (3689348814741910323 : Int) from rfl] at b1 b2
  rw [b1, b2, show (((x / 4 &&& 3689348814741910323 : Nat) : Int) + ((x &&& 3689348814741910323 : Nat) : Int)) = (y1 : Int) by rw [e]; simp, w64 _ hy]
theorem pop_m3 {x y3 : Nat} (hx : x < 5764607523034234880) (e : y3 = (x / 16 + x &&& 1085102592571150095)) :
    bits .and .u64 (IntKind.u64.wrap ((x : Int) / 16 + (x : Int))) 1085102592571150095 = (y3 : Int) := by
  have e1 : ((x : Int) / 16 + (x : Int)) = ((x / 16 + x : Nat) : Int) := by omega
  have b1 := bits_and (x := x / 16 + x) (y := 1085102592571150095) (by omega) (by decide)
  rw [show ((1085102592571150095 : Nat) : Int) = (1085102592571150095 : Int) from rfl] at b1
  rw [e1, w64 _ (by omega), b1, e]
theorem pop_m4 {y k : Nat} (hy : y + y / k < 18446744073709551616) : IntKind.u64.wrap ((y : Int) + (y : Int) / (k : Int)) = ((y + y / k : Nat) : Int) := by
  rw [show ((y : Int) + (y : Int) / (k : Int)) = ((y + y / k : Nat) : Int) by simp, w64 _ hy]
theorem pop_m4' {y : Nat} (k : Nat) (k' : Int) (e : k' = (k : Int)) (hy : y + y / k < 18446744073709551616) : IntKind.u64.wrap ((y : Int) + (y : Int) / k') = ((y + y / k : Nat) : Int) := by
  subst e; exact pop_m4 hy
theorem i64w {x : Nat} (h : x < 9223372036854775808) : IntKind.i64.wrap (x : Int) = (x : Int) := wrap_nat _ x rfl (by omega)
theorem and127 (y : Nat) : y &&& 127 = y % 128 := by
  have := Nat.and_two_pow_sub_one_eq_mod y 7
  simpa using this
theorem pop_m5 {y c : Nat} (hy : y < 9223372036854775808) (e : y % 128 = c) : bits .and .i64 (wrap64 (y : Int)) 127 = (c : Int) := by
  have h1 : wrap64 (y : Int) = (y : Int) := IntWalk.wrap64_in _ ⟨by omega, by omega⟩
  rw [h1]
  show IntKind.i64.wrap ((BitVec.ofInt 64 (y : Int) &&& BitVec.ofInt 64 ((127 : Nat) : Int)).toNat : Int) = _
  rw [BitVec.toNat_and, bv64 (by omega), bv64 (by decide), and127, e]
  exact i64w (by omega)
set_option maxHeartbeats 1000000 in
/-- OnesCount64 answers the number of bits set. -/
theorem ones_any (x : Nat) (w : World) (hx : x < 18446744073709551616) :
    Calls Tryz.prog 33 #[.int .u64 x] w (fun e w' => e = .returned (.int .i64 (cntB x 64)) ∧ w' = w) := by
  obtain ⟨y1, y2, y3, hp⟩ := pops_of hx
  have M1 := Lib.hid (pop_m1 hx hp.s1 hp.b1)
  have M2 := Lib.hid (pop_m2 hp.b1 hp.s2 (by have := hp.b2; omega))
  have M3 := Lib.hid (pop_m3 hp.b2 hp.s3)
  obtain ⟨l0, l1, l2, l3, l4⟩ := hp.last
  have M4 := Lib.hid (pop_m4' (y := y3) 256 256 rfl (by omega))
  obtain ⟨y4, hy4⟩ : ∃ y, y3 + y3 / 256 = y := ⟨_, rfl⟩
  rw [hy4] at M4 l1 l2 l3 l4
  have M5 := Lib.hid (pop_m4' (y := y4) 65536 65536 rfl (by omega))
  obtain ⟨y5, hy5⟩ : ∃ y, y4 + y4 / 65536 = y := ⟨_, rfl⟩
  rw [hy5] at M5 l2 l3 l4
  have M6 := Lib.hid (pop_m4' (y := y5) 4294967296 4294967296 rfl (by omega))
  obtain ⟨y6, hy6⟩ : ∃ y, y5 + y5 / 4294967296 = y := ⟨_, rfl⟩
  rw [hy6] at M6 l3 l4
  have M7 := Lib.hid (pop_m5 (by omega) l4)
  clear hx hp l0 l1 l2 l3 l4 hy4 hy5 hy6
  go_enter Tryz.func33, Tryz.ntmps33
  go_upto_region 2 with fail
  try rw [M1.out]
  go_upto_region 3 with fail
  try rw [M2.out]
  go_upto_region 4 with fail
  try rw [M3.out]
  go_upto_region 5 with fail
  try rw [M4.out]
  go_upto_region 6 with fail
  try rw [M5.out]
  go_upto_region 7 with fail
  try rw [M6.out]
  go_wp2_with fail
  go_ret
  exact ⟨ret_i M7.out, rfl⟩
/-- The order of sets: more languages first, then the lesser number. -/
def setBef (x y : Nat) : Bool := if cntB x 64 = cntB y 64 then decide (x < y) else decide (cntB y 64 < cntB x 64)
/-- What the program's comparison answers. -/
def setCmp (x y : Nat) : Int := if cntB y 64 = cntB x 64 then (if x < y then -1 else if y < x then 1 else 0) else (cntB y 64 : Int) - cntB x 64
set_option maxHeartbeats 1000000 in
theorem cmp_any (x y : Nat) (w : World) (hx : x < 18446744073709551616) (hy : y < 18446744073709551616) :
    Calls Tryz.prog 23 #[.int .u64 x, .int .u64 y] w (fun e w' => e = .returned (.int .i64 (setCmp x y)) ∧ w' = w) := by
  have HX := Lib.hid (fun W => ones_any x W hx)
  have HY := Lib.hid (fun W => ones_any y W hy)
  have LX := cntB_le x 64
  have LY := cntB_le y 64
  have HB : Hid (setCmp x y = if cntB y 64 = cntB x 64 then (if x < y then -1 else if y < x then 1 else 0) else (cntB y 64 : Int) - cntB x 64) := rfl
  clear hx hy
  obtain ⟨a, ha⟩ : ∃ a, cntB x 64 = a := ⟨_, rfl⟩
  obtain ⟨b, hb⟩ : ∃ b, cntB y 64 = b := ⟨_, rfl⟩
  rw [ha] at HX HB LX
  rw [hb] at HY HB LY
  clear ha hb
  by_cases q : b = a
  · subst q
    have HB1 : Hid (setCmp x y = if x < y then -1 else if y < x then 1 else 0) := by show _ = _; rw [HB.out, if_pos rfl]
    have z1 : decide ((b : Int) - (b : Int) = 0) = true := by simp
    have z2 : ((b : Int) - (b : Int) == 0) = true := by simp
    have z3 : ((b : Int) - (b : Int)) = 0 := by omega
    clear HB
    rcases Nat.lt_trichotomy x y with h | h | h
    · have HB2 : Hid (setCmp x y = -1) := by show _ = _; rw [HB1.out, if_pos h]
      have d1 : decide (x < y) = true := decide_eq_true h
      clear HB1
      go_enter Tryz.func23, Tryz.ntmps23
      go_wp2_with fail
      refine (HY.out _).mono ?_
      rintro e w' ⟨rfl, rfl⟩
      go_wp2_with fail
      refine (HX.out _).mono ?_
      rintro e w' ⟨rfl, rfl⟩
      go_wp2_with fail
      go_ret
      exact ⟨ret_i HB2.out.symm, rfl⟩
    · have HB2 : Hid (setCmp x y = 0) := by show _ = _; rw [HB1.out, if_neg (by omega), if_neg (by omega)]
      subst h
      clear HB1
      go_enter Tryz.func23, Tryz.ntmps23
      go_wp2_with fail
      refine (HY.out _).mono ?_
      rintro e w' ⟨rfl, rfl⟩
      go_wp2_with fail
      refine (HX.out _).mono ?_
      rintro e w' ⟨rfl, rfl⟩
      go_wp2_with fail
      go_ret
      exact ⟨ret_i HB2.out.symm, rfl⟩
    · have HB2 : Hid (setCmp x y = 1) := by show _ = _; rw [HB1.out, if_neg (by omega), if_pos h]
      have h2 : ¬ x < y := by omega
      have d1 : decide (x < y) = false := decide_eq_false h2
      have d2 : decide (y < x) = true := decide_eq_true h
      clear HB1
      go_enter Tryz.func23, Tryz.ntmps23
      go_wp2_with fail
      refine (HY.out _).mono ?_
      rintro e w' ⟨rfl, rfl⟩
      go_wp2_with fail
      refine (HX.out _).mono ?_
      rintro e w' ⟨rfl, rfl⟩
      go_wp2_with fail
      go_ret
      exact ⟨ret_i HB2.out.symm, rfl⟩
  · have HB1 : Hid (setCmp x y = (b : Int) - a) := by show _ = _; rw [HB.out, if_neg q]
    have z0 : ¬ ((b : Int) - (a : Int) = 0) := by omega
    have z1 : decide ((b : Int) - (a : Int) = 0) = false := decide_eq_false z0
    have z2 : ((b : Int) - (a : Int) == 0) = false := by rw [beq_eq_false_iff_ne]; exact z0
    clear HB z0
    go_enter Tryz.func23, Tryz.ntmps23
    go_wp2_with fail
    refine (HY.out _).mono ?_
    rintro e w' ⟨rfl, rfl⟩
    go_wp2_with fail
    refine (HX.out _).mono ?_
    rintro e w' ⟨rfl, rfl⟩
    go_wp2_with fail
    go_ret
    exact ⟨ret_i HB1.out.symm, rfl⟩
end Go.Proofs.YtkdehkkkbfackaaGreatDoor
namespace Go.Proofs
open Go.Shelf
def Tryz.lays125_ren : Go.Shelf.Ren := ⟨fun | 125 => 32 | 128 => 48 | 129 => 49 | n => n, fun | 46 => 69 | 3 => 3 | 51 => 95 | 53 => 35 | 4 => 4 | 5 => 5 | 9 => 9 | n => n, fun | n => n⟩
theorem Tryz.lays125 : Go.Proofs.Lays.n125 Tryz.prog Tryz.lays125_ren := {
  mixed := by kernel_rfl
  f125 := Tryz.func32.trans (congrArg some (by kernel_rfl))
  f128 := Tryz.func48.trans (congrArg some (by kernel_rfl))
  f129 := Tryz.func49.trans (congrArg some (by kernel_rfl))
  t3 := Tryz.underlying3
  a3 := Tryz.isAgg3
  z3 := Tryz.sizeOf3
  v3 := Tryz.zeroValue3
  t4 := Tryz.underlying4
  a4 := Tryz.isAgg4
  z4 := Tryz.sizeOf4
  v4 := Tryz.zeroValue4
  t5 := Tryz.underlying5
  a5 := Tryz.isAgg5
  z5 := Tryz.sizeOf5
  v5 := Tryz.zeroValue5
  t9 := Tryz.underlying9
  a9 := Tryz.isAgg9
  z9 := Tryz.sizeOf9
  v9 := Tryz.zeroValue9
  t46 := Tryz.underlying69
  a46 := Tryz.isAgg69
  z46 := Tryz.sizeOf69
  v46 := Tryz.zeroValue69
  t51 := Tryz.underlying95
  a51 := Tryz.isAgg95
  z51 := Tryz.sizeOf95
  v51 := Tryz.zeroValue95
  t53 := Tryz.underlying35
  a53 := Tryz.isAgg35
  z53 := Tryz.sizeOf35
  v53 := Tryz.zeroValue35 }
/-- bits.Len: "Len returns the minimum number of bits required to represent x; the result is 0 for x == 0.": IT RETURNS 'Lib.bitLen x'; the world is as it was. (A uint has 64 bits in the model.) ITS CALLEE bits.Len64 IS MET BY ITS OWN CONTRACT OFF THE SHELF (lay that first). (LAID: no walk: one application.) -/
theorem Tryz.bits_Len (x : Int) (w : World) (h0 : 0 ≤ x) (h1 : x ≤ 18446744073709551615) :
    Calls Tryz.prog 32 #[.int .u64 x] w fun e w' => e = .returned (.int .i64 (Lib.bitLen x.toNat)) ∧ w' = w := Any.bits_Len Tryz.lays125 x w h0 h1
def Tryz.lays171_ren : Go.Shelf.Ren := ⟨fun | 171 => 11 | 243 => 25 | 246 => 34 | 283 => 50 | 284 => 51 | 285 => 52 | 286 => 53 | 129 => 49 | 317 => 65 | 318 => 66 | 319 => 67 | 320 => 68 | 337 => 76 | 338 => 77 | n => n, fun | 3 => 3 | 9 => 9 | 2 => 2 | 4 => 4 | 171 => 96 | 0 => 0 | 53 => 35 | 37 => 98 | 5 => 5 | 173 => 99 | 212 => 118 | 51 => 95 | 20 => 20 | 213 => 119 | 46 => 69 | 232 => 133 | 233 => 134 | n => n, fun | 17 => 0 | 18 => 1 | 19 => 2 | n => n⟩
theorem Tryz.lays171 : Go.Proofs.Lays.n171 Tryz.prog Tryz.lays171_ren := {
  mixed := by kernel_rfl
  f129 := Tryz.func49.trans (congrArg some (by kernel_rfl))
  f171 := Tryz.func11.trans (congrArg some (by kernel_rfl))
  f243 := Tryz.func25.trans (congrArg some (by kernel_rfl))
  f246 := Tryz.func34.trans (congrArg some (by kernel_rfl))
  f283 := Tryz.func50.trans (congrArg some (by kernel_rfl))
  f284 := Tryz.func51.trans (congrArg some (by kernel_rfl))
  f285 := Tryz.func52.trans (congrArg some (by kernel_rfl))
  f286 := Tryz.func53.trans (congrArg some (by kernel_rfl))
  f317 := Tryz.func65.trans (congrArg some (by kernel_rfl))
  f318 := Tryz.func66.trans (congrArg some (by kernel_rfl))
  f319 := Tryz.func67.trans (congrArg some (by kernel_rfl))
  f320 := Tryz.func68.trans (congrArg some (by kernel_rfl))
  f337 := Tryz.func76.trans (congrArg some (by kernel_rfl))
  f338 := Tryz.func77.trans (congrArg some (by kernel_rfl))
  t0 := Tryz.underlying0
  a0 := Tryz.isAgg0
  z0 := Tryz.sizeOf0
  v0 := Tryz.zeroValue0
  t2 := Tryz.underlying2
  a2 := Tryz.isAgg2
  z2 := Tryz.sizeOf2
  v2 := Tryz.zeroValue2
  t3 := Tryz.underlying3
  a3 := Tryz.isAgg3
  z3 := Tryz.sizeOf3
  v3 := Tryz.zeroValue3
  t4 := Tryz.underlying4
  a4 := Tryz.isAgg4
  z4 := Tryz.sizeOf4
  v4 := Tryz.zeroValue4
  t5 := Tryz.underlying5
  a5 := Tryz.isAgg5
  z5 := Tryz.sizeOf5
  v5 := Tryz.zeroValue5
  t9 := Tryz.underlying9
  a9 := Tryz.isAgg9
  z9 := Tryz.sizeOf9
  v9 := Tryz.zeroValue9
  t20 := Tryz.underlying20
  a20 := Tryz.isAgg20
  z20 := Tryz.sizeOf20
  v20 := Tryz.zeroValue20
  t37 := Tryz.underlying98
  a37 := Tryz.isAgg98
  z37 := Tryz.sizeOf98
  v37 := Tryz.zeroValue98
  t46 := Tryz.underlying69
  a46 := Tryz.isAgg69
  z46 := Tryz.sizeOf69
  v46 := Tryz.zeroValue69
  t51 := Tryz.underlying95
  a51 := Tryz.isAgg95
  z51 := Tryz.sizeOf95
  v51 := Tryz.zeroValue95
  t53 := Tryz.underlying35
  a53 := Tryz.isAgg35
  z53 := Tryz.sizeOf35
  v53 := Tryz.zeroValue35
  t171 := Tryz.underlying96
  a171 := Tryz.isAgg96
  z171 := Tryz.sizeOf96
  v171 := Tryz.zeroValue96
  t173 := Tryz.underlying99
  a173 := Tryz.isAgg99
  z173 := Tryz.sizeOf99
  v173 := Tryz.zeroValue99
  t212 := Tryz.underlying118
  a212 := Tryz.isAgg118
  z212 := Tryz.sizeOf118
  v212 := Tryz.zeroValue118
  t213 := Tryz.underlying119
  a213 := Tryz.isAgg119
  z213 := Tryz.sizeOf119
  t232 := Tryz.underlying133
  a232 := Tryz.isAgg133
  z232 := Tryz.sizeOf133
  v232 := Tryz.zeroValue133
  t233 := Tryz.underlying134
  a233 := Tryz.isAgg134
  z233 := Tryz.sizeOf134
  v233 := Tryz.zeroValue134
  g17 := by kernel_rfl
  g18 := by kernel_rfl
  g19 := by kernel_rfl }
open Go.RowKit Go.Sort Go.Lib in
/-- THE ROAD WITHOUT THE TABLE: 0 <= i < 100: NO PREMISE ON THE WORLD, AND THE WORLD IS AS IT WAS: a row that keeps its argument in that range need list no table ('laid = []'). (LAID: no walk: one application.) -/
theorem Tryz.strconv_Itoa_small (i : Nat) (hi : i < 100) (w : World) :
    Calls Tryz.prog 11 #[.int .i64 i] w fun e w' => e = .returned (.string ⟨(Lib.decDigits i).toArray⟩) ∧ w' = w := Any.strconv_Itoa_small Tryz.lays171 i hi w
def Tryz.laysSlE33_f70_ren : Go.Shelf.Ren := ⟨fun | 33 => 70 | n => n, fun | 22 => 72 | 23 => 9 | 4 => 4 | 3 => 3 | 0 => 0 | n => n, fun | n => n⟩
theorem Tryz.laysSlE33_f70 : Go.Proofs.SlLaysE.n33 Tryz.prog Tryz.laysSlE33_f70_ren := {
  mixed := by kernel_rfl
  f33 := ⟨Tryz.f70.name, by decide, Tryz.func70.trans (congrArg some (by kernel_rfl))⟩
  t0 := Tryz.underlying0
  a0 := Tryz.isAgg0
  z0 := Tryz.sizeOf0
  v0 := Tryz.zeroValue0
  t3 := Tryz.underlying3
  a3 := Tryz.isAgg3
  z3 := Tryz.sizeOf3
  v3 := Tryz.zeroValue3
  t4 := Tryz.underlying4
  a4 := Tryz.isAgg4
  z4 := Tryz.sizeOf4
  v4 := Tryz.zeroValue4
  t22 := Tryz.underlying72
  a22 := Tryz.isAgg72
  z22 := Tryz.sizeOf72
  v22 := Tryz.zeroValue72
  a23 := Tryz.isAgg9
  z23 := Tryz.sizeOf9 }
open Go.RowKit Go.Lib in
/-- slices.Equal: "Equal reports whether two slices are equal: the same length and all elements equal. .. Empty and nil slices are considered equal. Floating point NaNs are not considered equal.": IT RETURNS 'Lib.allEq eq (the one's elements) (the other's)'; the world is as it was but for the count of draws. (LAID AT THE INSTANCE 'slices.Equal[[]string,string]': no walk: one application.) -/
theorem Tryz.slices_Equal {α : Type} [Inhabited α] (enc : α → Value) (eq : α → α → Bool) (hne : NeqAt Tryz.prog 9 enc eq) (b1 o1 n c b2 o2 m d : Nat) (xs ys : List α) (w : World) (hx : n ≤ xs.length) (hy : m ≤ ys.length) (hbig : n ≤ 9223372036854775807) (hbig2 : m ≤ 9223372036854775807) (hc1 : ∀ j, j < xs.length → w.cell? ⟨b1, o1 + j, none⟩ = some (enc xs[j]!)) (hc2 : ∀ j, j < ys.length → w.cell? ⟨b2, o2 + j, none⟩ = some (enc ys[j]!)) :
    Calls Tryz.prog 70 #[.slice (some ⟨b1, o1, none⟩) n c, .slice (some ⟨b2, o2, none⟩) m d] w fun e w' => e = .returned (.bool (Lib.allEq eq (xs.take n) (ys.take m))) ∧ ∃ q, w' = w.drewN q := AnyE.slices_Equal Tryz.laysSlE33_f70 enc eq hne b1 o1 n c b2 o2 m d xs ys w hx hy hbig hbig2 hc1 hc2
def Tryz.laysSlM6_f78_ren : Go.Shelf.Ren := ⟨fun | 6 => 78 | 8 => 32 | 9 => 83 | 19 => 48 | 20 => 49 | 21 => 95 | 22 => 96 | 23 => 97 | 24 => 98 | 25 => 99 | 26 => 100 | 27 => 84 | 28 => 101 | 29 => 102 | 36 => 108 | 31 => 61 | 32 => 62 | 37 => 109 | 38 => 110 | 39 => 103 | 41 => 112 | n => n, fun | 27 => 72 | 29 => 9 | 3 => 3 | 32 => 69 | 26 => 72 | 0 => 0 | 44 => 95 | 46 => 35 | 4 => 4 | 36 => 88 | 35 => 87 | 41 => 92 | 5 => 5 | 9 => 9 | 53 => 111 | 57 => 114 | 63 => 125 | 64 => 126 | n => n, fun | n => n⟩
theorem Tryz.laysSlM6_f78 : Go.Proofs.SlLaysM.n6 Tryz.prog Tryz.laysSlM6_f78_ren := {
  mixed := by kernel_rfl
  f6 := ⟨Tryz.f78.name, by decide, Tryz.func78.trans (congrArg some (by kernel_rfl))⟩
  f8 := Tryz.func32.trans (congrArg some (by kernel_rfl))
  f9 := ⟨Tryz.f83.name, by decide, Tryz.func83.trans (congrArg some (by kernel_rfl))⟩
  f19 := Tryz.func48.trans (congrArg some (by kernel_rfl))
  f20 := Tryz.func49.trans (congrArg some (by kernel_rfl))
  f21 := ⟨Tryz.f95.name, by decide, Tryz.func95.trans (congrArg some (by kernel_rfl))⟩
  f22 := ⟨Tryz.f96.name, by decide, Tryz.func96.trans (congrArg some (by kernel_rfl))⟩
  f23 := ⟨Tryz.f97.name, by decide, Tryz.func97.trans (congrArg some (by kernel_rfl))⟩
  f24 := ⟨Tryz.f98.name, by decide, Tryz.func98.trans (congrArg some (by kernel_rfl))⟩
  f25 := ⟨Tryz.f99.name, by decide, Tryz.func99.trans (congrArg some (by kernel_rfl))⟩
  f26 := ⟨Tryz.f100.name, by decide, Tryz.func100.trans (congrArg some (by kernel_rfl))⟩
  f27 := ⟨Tryz.f84.name, by decide, Tryz.func84.trans (congrArg some (by kernel_rfl))⟩
  f28 := ⟨Tryz.f101.name, by decide, Tryz.func101.trans (congrArg some (by kernel_rfl))⟩
  f29 := ⟨Tryz.f102.name, by decide, Tryz.func102.trans (congrArg some (by kernel_rfl))⟩
  f31 := Tryz.func61.trans (congrArg some (by kernel_rfl))
  f32 := Tryz.func62.trans (congrArg some (by kernel_rfl))
  f36 := ⟨Tryz.f108.name, by decide, Tryz.func108.trans (congrArg some (by kernel_rfl))⟩
  f37 := ⟨Tryz.f109.name, by decide, Tryz.func109.trans (congrArg some (by kernel_rfl))⟩
  f38 := ⟨Tryz.f110.name, by decide, Tryz.func110.trans (congrArg some (by kernel_rfl))⟩
  f39 := ⟨Tryz.f103.name, by decide, Tryz.func103.trans (congrArg some (by kernel_rfl))⟩
  f41 := ⟨Tryz.f112.name, by decide, Tryz.func112.trans (congrArg some (by kernel_rfl))⟩
  t0 := Tryz.underlying0
  a0 := Tryz.isAgg0
  z0 := Tryz.sizeOf0
  v0 := Tryz.zeroValue0
  t3 := Tryz.underlying3
  a3 := Tryz.isAgg3
  z3 := Tryz.sizeOf3
  v3 := Tryz.zeroValue3
  t4 := Tryz.underlying4
  a4 := Tryz.isAgg4
  z4 := Tryz.sizeOf4
  v4 := Tryz.zeroValue4
  t5 := Tryz.underlying5
  a5 := Tryz.isAgg5
  z5 := Tryz.sizeOf5
  v5 := Tryz.zeroValue5
  t9 := Tryz.underlying9
  a9 := Tryz.isAgg9
  z9 := Tryz.sizeOf9
  v9 := Tryz.zeroValue9
  t26 := Tryz.underlying72
  a26 := Tryz.isAgg72
  z26 := Tryz.sizeOf72
  v26 := Tryz.zeroValue72
  t27 := Tryz.underlying72
  a27 := Tryz.isAgg72
  z27 := Tryz.sizeOf72
  v27 := Tryz.zeroValue72
  t29 := Tryz.underlying9
  a29 := Tryz.isAgg9
  z29 := Tryz.sizeOf9
  v29 := Tryz.zeroValue9
  t32 := Tryz.underlying69
  a32 := Tryz.isAgg69
  z32 := Tryz.sizeOf69
  v32 := Tryz.zeroValue69
  t35 := Tryz.underlying87
  a35 := Tryz.isAgg87
  z35 := Tryz.sizeOf87
  v35 := Tryz.zeroValue87
  t36 := Tryz.underlying88
  a36 := Tryz.isAgg88
  z36 := Tryz.sizeOf88
  v36 := Tryz.zeroValue88
  t41 := Tryz.underlying92
  a41 := Tryz.isAgg92
  z41 := Tryz.sizeOf92
  v41 := Tryz.zeroValue92
  t44 := Tryz.underlying95
  a44 := Tryz.isAgg95
  z44 := Tryz.sizeOf95
  v44 := Tryz.zeroValue95
  t46 := Tryz.underlying35
  a46 := Tryz.isAgg35
  z46 := Tryz.sizeOf35
  v46 := Tryz.zeroValue35
  t53 := Tryz.underlying111
  a53 := Tryz.isAgg111
  z53 := Tryz.sizeOf111
  v53 := Tryz.zeroValue111
  t57 := Tryz.underlying114
  a57 := Tryz.isAgg114
  z57 := Tryz.sizeOf114
  v57 := Tryz.zeroValue114
  t63 := Tryz.underlying125
  a63 := Tryz.isAgg125
  z63 := Tryz.sizeOf125
  v63 := Tryz.zeroValue125
  t64 := Tryz.underlying126
  a64 := Tryz.isAgg126
  z64 := Tryz.sizeOf126
  v64 := Tryz.zeroValue126 }
open Go.Sort Go.RowKit in
theorem Tryz.slices_Sort_string (blk off cap : Nat) (ss : List (List UInt8)) (w : World) (hH : Holds encStr w blk off ss.toArray) (hblk : blk < w.heap.size) (hsz : ss.length < 4611686018427387904) :
    Calls Tryz.prog 78 #[.slice (some ⟨blk, off, none⟩) ss.length cap] w fun e w' =>
      e = .returned (.tuple #[]) ∧ ∃ n os, w' = grow (putRow encStr (Sort.ahead w n) blk off (ss.mergeSort fun x y => decide (x ≤ y)).toArray) os := AnyM.slices_Sort_string Tryz.laysSlM6_f78 blk off cap ss w hH hblk hsz
open Go.RowKit Go.Sort in
/-- .. and plain. (LAID AT THE INSTANCE 'slices.Sort[[]string,string]': no walk: one application.) -/
theorem Tryz.slices_Sort_string_none (p : Option Addr) (cap : Nat) (w : World) :
    Calls Tryz.prog 78 #[.slice p 0 cap] w fun e w' => e = .returned (.tuple #[]) ∧ w' = w := AnyM.slices_Sort_string_none Tryz.laysSlM6_f78 p cap w
def Tryz.sortSets_ren : Go.Shelf.Ren := ⟨fun | 6 => 22 | 15 => 32 | 14 => 31 | 28 => 48 | 29 => 49 | 20 => 40 | 21 => 41 | 22 => 42 | 23 => 43 | 24 => 44 | 25 => 45 | 26 => 46 | 27 => 47 | 46 => 60 | 47 => 61 | 48 => 62 | 49 => 63 | 50 => 64 | 57 => 75 | n => n, fun | 22 => 42 | 24 => 41 | 25 => 57 | 3 => 3 | 39 => 69 | 0 => 0 | 53 => 95 | 55 => 35 | 4 => 4 | 46 => 88 | 45 => 87 | 50 => 92 | 5 => 5 | 9 => 9 | 66 => 111 | 70 => 114 | 76 => 125 | 77 => 126 | n => n, fun | n => n⟩
theorem Tryz.sortSets : Go.Proofs.SlLaysF.n6 Tryz.prog Tryz.sortSets_ren := {
  mixed := by kernel_rfl
  f6 := ⟨Tryz.f22.name, by decide, Tryz.func22.trans (congrArg some (by kernel_rfl))⟩
  f14 := ⟨Tryz.f31.name, by decide, Tryz.func31.trans (congrArg some (by kernel_rfl))⟩
  f15 := Tryz.func32.trans (congrArg some (by kernel_rfl))
  f20 := ⟨Tryz.f40.name, by decide, Tryz.func40.trans (congrArg some (by kernel_rfl))⟩
  f21 := ⟨Tryz.f41.name, by decide, Tryz.func41.trans (congrArg some (by kernel_rfl))⟩
  f22 := ⟨Tryz.f42.name, by decide, Tryz.func42.trans (congrArg some (by kernel_rfl))⟩
  f23 := ⟨Tryz.f43.name, by decide, Tryz.func43.trans (congrArg some (by kernel_rfl))⟩
  f24 := ⟨Tryz.f44.name, by decide, Tryz.func44.trans (congrArg some (by kernel_rfl))⟩
  f25 := ⟨Tryz.f45.name, by decide, Tryz.func45.trans (congrArg some (by kernel_rfl))⟩
  f26 := ⟨Tryz.f46.name, by decide, Tryz.func46.trans (congrArg some (by kernel_rfl))⟩
  f27 := ⟨Tryz.f47.name, by decide, Tryz.func47.trans (congrArg some (by kernel_rfl))⟩
  f28 := Tryz.func48.trans (congrArg some (by kernel_rfl))
  f29 := Tryz.func49.trans (congrArg some (by kernel_rfl))
  f46 := ⟨Tryz.f60.name, by decide, Tryz.func60.trans (congrArg some (by kernel_rfl))⟩
  f47 := Tryz.func61.trans (congrArg some (by kernel_rfl))
  f48 := Tryz.func62.trans (congrArg some (by kernel_rfl))
  f49 := ⟨Tryz.f63.name, by decide, Tryz.func63.trans (congrArg some (by kernel_rfl))⟩
  f50 := ⟨Tryz.f64.name, by decide, Tryz.func64.trans (congrArg some (by kernel_rfl))⟩
  f57 := ⟨Tryz.f75.name, by decide, Tryz.func75.trans (congrArg some (by kernel_rfl))⟩
  t0 := Tryz.underlying0
  a0 := Tryz.isAgg0
  z0 := Tryz.sizeOf0
  v0 := Tryz.zeroValue0
  t3 := Tryz.underlying3
  a3 := Tryz.isAgg3
  z3 := Tryz.sizeOf3
  v3 := Tryz.zeroValue3
  t4 := Tryz.underlying4
  a4 := Tryz.isAgg4
  z4 := Tryz.sizeOf4
  v4 := Tryz.zeroValue4
  t5 := Tryz.underlying5
  a5 := Tryz.isAgg5
  z5 := Tryz.sizeOf5
  v5 := Tryz.zeroValue5
  t9 := Tryz.underlying9
  a9 := Tryz.isAgg9
  z9 := Tryz.sizeOf9
  v9 := Tryz.zeroValue9
  t22 := Tryz.underlying42
  a22 := Tryz.isAgg42
  z22 := Tryz.sizeOf42
  v22 := Tryz.zeroValue42
  a24 := Tryz.isAgg41
  z24 := Tryz.sizeOf41
  t25 := Tryz.underlying57
  a25 := Tryz.isAgg57
  z25 := Tryz.sizeOf57
  v25 := Tryz.zeroValue57
  t39 := Tryz.underlying69
  a39 := Tryz.isAgg69
  z39 := Tryz.sizeOf69
  v39 := Tryz.zeroValue69
  t45 := Tryz.underlying87
  a45 := Tryz.isAgg87
  z45 := Tryz.sizeOf87
  v45 := Tryz.zeroValue87
  t46 := Tryz.underlying88
  a46 := Tryz.isAgg88
  z46 := Tryz.sizeOf88
  v46 := Tryz.zeroValue88
  t50 := Tryz.underlying92
  a50 := Tryz.isAgg92
  z50 := Tryz.sizeOf92
  v50 := Tryz.zeroValue92
  t53 := Tryz.underlying95
  a53 := Tryz.isAgg95
  z53 := Tryz.sizeOf95
  v53 := Tryz.zeroValue95
  t55 := Tryz.underlying35
  a55 := Tryz.isAgg35
  z55 := Tryz.sizeOf35
  v55 := Tryz.zeroValue35
  t66 := Tryz.underlying111
  a66 := Tryz.isAgg111
  z66 := Tryz.sizeOf111
  v66 := Tryz.zeroValue111
  t70 := Tryz.underlying114
  a70 := Tryz.isAgg114
  z70 := Tryz.sizeOf114
  v70 := Tryz.zeroValue114
  t76 := Tryz.underlying125
  a76 := Tryz.isAgg125
  z76 := Tryz.sizeOf125
  v76 := Tryz.zeroValue125
  t77 := Tryz.underlying126
  a77 := Tryz.isAgg126
  z77 := Tryz.sizeOf126
  v77 := Tryz.zeroValue126 }
end Go.Proofs
namespace Go.Proofs.YtkdehkkkbfackaaGreatDoor
open Go.RowKit Go.Shelf Go.Sort
def encU (x : U64) : Value := .int .u64 (x.val : Int)
def cfU (x y : U64) : Int := setCmp x.val y.val
theorem setBef_iff (x y : Nat) : setBef x y = true ↔ cntB y 64 < cntB x 64 ∨ (cntB x 64 = cntB y 64 ∧ x < y) := by
  unfold setBef
  by_cases h : cntB x 64 = cntB y 64
  · rw [if_pos h]; simp [h]
  · rw [if_neg h]; simp [h]
theorem setBef_iff' (x y : Nat) : setBef x y = false ↔ ¬ (cntB y 64 < cntB x 64 ∨ (cntB x 64 = cntB y 64 ∧ x < y)) := by
  rw [← setBef_iff, Bool.not_eq_true]
theorem ltU (x y : U64) : ltOf cfU x y = setBef x.val y.val := by
  unfold ltOf cfU setCmp
  rw [Bool.eq_iff_iff, decide_eq_true_iff, setBef_iff]
  by_cases h : cntB y.val 64 = cntB x.val 64
  · rw [if_pos h]
    by_cases h1 : x.val < y.val
    · rw [if_pos h1]; omega
    · rw [if_neg h1]
      by_cases h2 : y.val < x.val
      · rw [if_pos h2]; omega
      · rw [if_neg h2]; omega
  · rw [if_neg h]; omega
theorem swo_cfU : SWO (ltOf cfU) where
  irrefl x := by rw [ltU, setBef_iff']; omega
  trans x y z h1 h2 := by rw [ltU, setBef_iff] at *; omega
  ntrans x y z h1 h2 := by rw [ltU, setBef_iff'] at *; omega
theorem tot_cfU (x y : U64) (h1 : ltOf cfU x y = false) (h2 : ltOf cfU y x = false) : x = y := by
  rw [ltU, setBef_iff'] at *
  exact Fin.ext (by omega)
def cmpSets_ren : Go.Shelf.Ren := ⟨fun | 43 => 24 | n => n, fun | 22 => 42 | 23 => 41 | 0 => 0 | 3 => 3 | 4 => 4 | n => n, fun | n => n⟩
theorem cmpSets : Go.Proofs.SlLaysE.n43 Tryz.prog cmpSets_ren := {
  mixed := by kernel_rfl
  f43 := ⟨Tryz.f24.name, by decide, Tryz.func24.trans (congrArg some (by kernel_rfl))⟩
  t0 := Tryz.underlying0
  a0 := Tryz.isAgg0
  z0 := Tryz.sizeOf0
  v0 := Tryz.zeroValue0
  t3 := Tryz.underlying3
  a3 := Tryz.isAgg3
  z3 := Tryz.sizeOf3
  v3 := Tryz.zeroValue3
  t4 := Tryz.underlying4
  a4 := Tryz.isAgg4
  z4 := Tryz.sizeOf4
  v4 := Tryz.zeroValue4
  t22 := Tryz.underlying42
  a22 := Tryz.isAgg42
  z22 := Tryz.sizeOf42
  v22 := Tryz.zeroValue42
  a23 := Tryz.isAgg41
  z23 := Tryz.sizeOf41 }
theorem oneU : OneCell encU := fun _ => rfl
theorem decU (x y : U64) : decide ((x.val : Int) = (y.val : Int)) = decide (x = y) := by
  by_cases q : x = y
  · simp [q]
  · have : ¬ ((x.val : Int) = (y.val : Int)) := fun e => q (Fin.ext (by omega))
    rw [decide_eq_false q, decide_eq_false this]
theorem guardU (P : Program) (T : TypeId) : GuardAt P T encU := fun op a b x y w => GuardAt.int P T .u64 op a b (x.val : Int) (y.val : Int) w
theorem eqU (P : Program) (T : TypeId) : EqlAt P T encU (fun x y => decide (x = y)) := ⟨fun x y w => by
  have h := (EqlAt.intD P T .u64).1 (x.val : Int) (y.val : Int) w
  show Sem.run P (binOp .eql T (encU x) (encU y)) w = .ok (.bool (decide (x = y))) w
  rw [← decU]
  exact h, guardU P T⟩
theorem neU (P : Program) (T : TypeId) : NeqAt P T encU (fun x y => decide (x = y)) := ⟨fun x y w => by
  have h := (NeqAt.intD P T .u64).1 (x.val : Int) (y.val : Int) w
  show Sem.run P (binOp .neq T (encU x) (encU y)) w = .ok (.bool (!decide (x = y))) w
  rw [← decU]
  exact h, guardU P T⟩
theorem compact_any (blk off cap : Nat) (d : Array U64) (w : World) (hH : Holds encU w blk off d) (hsz : d.size ≤ 9223372036854775807) (hcap : d.size ≤ cap) :
    Calls Tryz.prog 24 #[.slice (some ⟨blk, off, none⟩) d.size cap] w fun e w' => e = .returned (.slice (some ⟨blk, off, none⟩) (Go.Lib.compactUpTo d d.size).length cap) ∧ ∃ q, w' = putRow encU (Sort.ahead w q) blk off (Go.Lib.compactUpTo d d.size ++ List.replicate (d.size - (Go.Lib.compactUpTo d d.size).length) 0).toArray :=
  AnyE.slices_Compact cmpSets encU oneU (eqU _ _) (neU _ _) 0 Tryz.zeroValue41 blk off cap d w hH hsz hcap
theorem cmpLaysU (blk off size : Nat) (w : World) : CmpLays1 Tryz.prog 23 #[] encU cfU blk off size w := fun m os dk _ x y =>
  (cmp_any x.val y.val _ x.isLt y.isLt).mono fun e w' h => ⟨h.1, 0, #[], by rw [h.2, grow_empty]; rfl⟩
theorem sort_any (blk off cap : Nat) (d : Array U64) (w : World) (hH : Holds encU w blk off d) (hblk : blk < w.heap.size) (hsz : d.size < 4611686018427387904) :
    Calls Tryz.prog 22 #[.slice (some ⟨blk, off, none⟩) d.size cap, .func (.func 23) #[] #[]] w fun e w' =>
      e = .returned (.tuple #[]) ∧ ∃ n os, w' = sortWorld encU w blk off n (d.toList.mergeSort fun x y => !(ltOf cfU) y x).toArray os :=
  Any.slices_SortFunc_total Tryz.sortSets encU oneU cfU swo_cfU 23 #[] blk off cap d w (enters_of Tryz.func23 (by kernel_rfl) rfl) (cmpLaysU _ _ _ _) hH hblk hsz tot_cfU
theorem sort_none (p : Option Addr) (cap : Nat) (fv : Value) (w : World) :
    Calls Tryz.prog 22 #[.slice p 0 cap, fv] w fun e w' => e = .returned (.tuple #[]) ∧ w' = w := by
  have h := AnyF.slices_SortFunc_none (P := Tryz.prog) (ρ := Tryz.sortSets_ren) { Tryz.sortSets with } p cap fv w
  exact h
end Go.Proofs.YtkdehkkkbfackaaGreatDoor
namespace Go.Proofs.YtkdehkkkbfackaaGreatDoor
open Go.RowKit Go.Shelf Go.Sort
theorem owns_putRow {w : World} {base e n m cap g : Nat} {xs : List Value} (h : w.ownsRow base e 1 (.slice (some ⟨g, 0, none⟩) n cap) n xs) (d : Array U64) (hd : d.size = n) (hm : m ≤ n) :
    (putRow encU w g 0 d).ownsRow base e 1 (.slice (some ⟨g, 0, none⟩) m cap) m ((d.toList.take m).map encU) := by
  rcases h.2 with ⟨hv, _⟩ | ⟨g', cap', cur, hv, hg, hh, hn, hmx, hcs, _⟩
  · cases hv
  · cases hv
    refine ⟨by simp; omega, .inr ⟨g, cap, putCells encU 0 d cur, rfl, hg, by simp [putRow, mapBlock, Array.getElem?_modify, hh, onCells], by omega, hmx, by simp [putCells, hcs], ?_⟩⟩
    apply List.ext_getElem?
    intro i
    by_cases hi : i < m
    · have h1 : i < cur.size := by omega
      have h2 : i < d.size := by omega
      simp [putCells, List.getElem?_take, hi, h1, h2]
    · simp [List.getElem?_take, hi]
theorem owns_holds {w : World} {base e n cap g : Nat} {d : Array U64} (h : w.ownsRow base e 1 (.slice (some ⟨g, 0, none⟩) n cap) n (d.toList.map encU)) : Holds encU w g 0 d := by
  rcases h.2 with ⟨hv, _⟩ | ⟨g', cap', cur, hv, hg, hh, hn, hmx, hcs, ht⟩
  · cases hv
  · cases hv
    intro j hj
    have hl := h.1
    rw [List.length_map, Array.length_toList] at hl
    have h1 : j < cur.size := by omega
    have h2 : cur[j]? = some (encU d[j]!) := by
      have := congrArg (fun l => l[j]?) ht
      simp [List.getElem?_take, show j < n by omega, h1, hj] at this
      simp [h1, hj, this]
    refine ⟨?_, ?_⟩
    · simp [World.cell?, hh, h2]
    · simp [World.frozen?, hh]
end Go.Proofs.YtkdehkkkbfackaaGreatDoor
namespace Go.Proofs.YtkdehkkkbfackaaGreatDoor
open Go.RowKit Go.Shelf Go.Sort
theorem bl_putRow {a w : World} (h : Below a.heap.size a w) {g off : Nat} (hg : a.heap.size ≤ g) (d : Array U64) : Below a.heap.size a (putRow encU w g off d) :=
  ⟨h.os, h.tape, h.output, by rw [size_putRow]; exact h.size, fun k hk => by
    rw [← h.block k hk]
    simp [putRow, mapBlock, Array.getElem?_modify, show g ≠ k by omega]⟩
theorem bl_ahead {a w : World} (h : Below a.heap.size a w) (n : Nat) : Below a.heap.size a (Sort.ahead w n) := ⟨h.os, h.tape, h.output, h.size, h.block⟩
theorem bl_growS {a w : World} (h : Below a.heap.size a w) (os : Array Obj) : Below a.heap.size a (grow w os) :=
  ⟨h.os, h.tape, h.output, by have := h.size; simp [grow]; omega, fun k hk => by
    rw [← h.block k hk]
    have := h.size
    simp [grow, Array.getElem?_append_left (show k < w.heap.size by omega)]⟩
theorem owns_ahead {w : World} {base e k n : Nat} {v : Value} {xs : List Value} (h : w.ownsRow base e k v n xs) (q : Nat) : (Sort.ahead w q).ownsRow base e k v n xs := h
/-- The row sorted. -/
def srtU (d : Array U64) : Array U64 := (d.toList.mergeSort fun x y => !(ltOf cfU) y x).toArray
theorem srtU_size (d : Array U64) : (srtU d).size = d.size := by simp [srtU]
theorem sortRow_any {w : World} {base cap g : Nat} (d : Array U64) (h : w.ownsRow base 41 1 (.slice (some ⟨g, 0, none⟩) d.size cap) d.size (d.toList.map encU)) (hg : g < w.heap.size) (hsz : d.size < 4611686018427387904) :
    Calls Tryz.prog 22 #[.slice (some ⟨g, 0, none⟩) d.size cap, .func (.func 23) #[] #[]] w fun e w' =>
      e = .returned (.tuple #[]) ∧ w'.ownsRow base 41 1 (.slice (some ⟨g, 0, none⟩) d.size cap) d.size ((srtU d).toList.map encU) ∧ (∀ a : World, Below a.heap.size a w → a.heap.size ≤ g → Below a.heap.size a w') ∧ g < w'.heap.size := by
  refine (sort_any g 0 cap d w (owns_holds h) hg hsz).mono ?_
  rintro e w' ⟨he, n, os, rfl⟩
  refine ⟨he, ?_, fun a ha hag => bl_growS (bl_putRow (bl_ahead ha n) hag _) os, ?_⟩
  · have h1 := owns_putRow (m := d.size) (owns_ahead h n) (srtU d) (srtU_size d) (Nat.le_refl _)
    rw [List.take_of_length_le (by rw [Array.length_toList, srtU_size]; exact Nat.le_refl _)] at h1
    exact owns_below h1 (bl_growS (Below.refl _ _) os)
  · have := (bl_growS (Below.refl _ (putRow encU (Sort.ahead w n) g 0 (srtU d))) os).size
    rw [size_putRow] at this
    exact Nat.lt_of_lt_of_le hg this
end Go.Proofs.YtkdehkkkbfackaaGreatDoor
namespace Go.Proofs.YtkdehkkkbfackaaGreatDoor
open Go.RowKit Go.Shelf Go.Sort
def cmpU (d : Array U64) : List U64 := Go.Lib.compactUpTo d d.size
theorem cmpU_le (d : Array U64) : (cmpU d).length ≤ d.size := by
  unfold cmpU Go.Lib.compactUpTo
  rw [List.length_map]
  exact Nat.le_trans (List.length_filter_le _ _) (by simp)
theorem owns_capS {w : World} {base e n cap g : Nat} {xs : List Value} (h : w.ownsRow base e 1 (.slice (some ⟨g, 0, none⟩) n cap) n xs) : n ≤ cap := by
  rcases h.2 with ⟨hv, _⟩ | ⟨g', cap', cur, hv, hg, hh, hn, _⟩
  · cases hv
  · cases hv; exact hn
theorem compactRow_any {w : World} {base cap g : Nat} (d : Array U64) (h : w.ownsRow base 41 1 (.slice (some ⟨g, 0, none⟩) d.size cap) d.size (d.toList.map encU)) (hsz : d.size ≤ 9223372036854775807) :
    Calls Tryz.prog 24 #[.slice (some ⟨g, 0, none⟩) d.size cap] w fun e w' =>
      e = .returned (.slice (some ⟨g, 0, none⟩) (cmpU d).length cap) ∧ w'.ownsRow base 41 1 (.slice (some ⟨g, 0, none⟩) (cmpU d).length cap) (cmpU d).length ((cmpU d).map encU) ∧ (∀ a : World, Below a.heap.size a w → a.heap.size ≤ g → Below a.heap.size a w') := by
  refine (compact_any g 0 cap d w (owns_holds h) hsz (owns_capS h)).mono ?_
  rintro e w' ⟨he, q, rfl⟩
  refine ⟨he, ?_, fun a ha hag => bl_putRow (bl_ahead ha q) hag _⟩
  have hle := cmpU_le d
  have hs : (cmpU d ++ List.replicate (d.size - (cmpU d).length) (0 : U64)).toArray.size = d.size := by simp; omega
  have h1 := owns_putRow (m := (cmpU d).length) (owns_ahead h q) (cmpU d ++ List.replicate (d.size - (cmpU d).length) (0 : U64)).toArray hs hle
  rw [show ((cmpU d ++ List.replicate (d.size - (cmpU d).length) (0 : U64)).toArray.toList.take (cmpU d).length) = cmpU d by simp] at h1
  exact h1
/-- The sets of the table as elements of U64. -/
def toU (l : List Nat) : List U64 := l.map fun x => Fin.ofNat _ x
theorem toU_enc {l : List Nat} (h : ∀ x, x ∈ l → x < 18446744073709551616) : (toU l).map encU = fl encV l := by
  unfold toU fl
  induction l with
  | nil => rfl
  | cons x l ih =>
    have hx := h x (by simp)
    have := ih (fun y hy => h y (by simp [hy]))
    simp only [List.map_cons, List.flatMap_cons, this]
    simp [encU, encV, Nat.mod_eq_of_lt hx]
end Go.Proofs.YtkdehkkkbfackaaGreatDoor
