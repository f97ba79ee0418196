/- What all walks of a seat share: memory, lists in memory, appends, regions that draw their order. Sets as numbers of 64 bits; slices.IndexFunc and ContainsFunc of such numbers; innov.Check at every table. Small laws that many texts share. tree: letters, names; maps of the call's own with strings as keys; tree.Check at every list of nodes. slices.IndexFunc and ContainsFunc of ints; phylo.Largest's test and its recursive closure. tree: the children of all nodes, the leaves; rows in blocks of their own. tree.Leaves; phylo.check. The document's tree: children. The document's tree: letters, names. The document's tree: Check. The document's tree: Leaves, node. The document's tree: the way from the root. -/
import Derived.WalkKit
import Derived.WalkSpells
import Derived.WalkLawsBesides
import Derived.Lib.Hide
import Derived.StillTail
import Derived.Deep.Quiet
import Derived.BigQuiet
import Derived.Below
import Derived.Deep.RegionHeld3
import Derived.Test.YtfgkjofdgohacaaGreatDoorRows
import Derived.Deep.QuietTactic
import Derived.Deep.AppendLies
import Derived.Maps.AppendAt
import Derived.Deep.CutBlock
import Derived.Deep.DeepCutAuto
import Derived.Deep.RegionWith
import Derived.LoopIn
import Derived.LoopNIn
import Derived.OwnWalkIn
import Derived.RangeFuncBound
import Derived.RangeFuncCalls
import Derived.RangeFuncLeaves
import Derived.RangeFuncNested
import Derived.Shelf.Abstract
import Derived.Shelf.RegionOpen
import Derived.TacticsInMore
import Derived.RegionTactic
import Derived.BigRegion
import Derived.IntWalk
import Derived.Deep.RegionLaw
import Derived.Laws.EntriesVeiled
import Derived.Test.YtfgkjofdgohacaaGreatDoorProg
import Derived.Maps.OwnOps
import Derived.Maps.OwnSet
import Derived.Maps.Views
import Derived.Carry
import Derived.StringKeys
namespace Go.Proofs.YtfgkjofdgohacaaGreatDoor
open Go.RowKit

theorem drewN_add (w : World) (m n : Nat) : (w.drewN m).drewN n = w.drewN (m + n) := by simp
theorem drewN_zero (w : World) : w.drewN 0 = w := rfl
theorem drewN_one (w : World) : w.drew = w.drewN 1 := rfl

theorem bl_drewN {B : Nat} {a w : World} (h : Below B a w) (n : Nat) : Below B a (w.drewN n) := ⟨h.os, h.tape, h.output, h.size, h.block⟩
theorem bl_alloc {a w : World} (h : Below a.heap.size a w) (o : Obj) : Below a.heap.size a (w.alloc o) := h.alloc h.size o
theorem bl_set {a w : World} (h : Below a.heap.size a w) (b o : Nat) (s : Option Nat) (v : Value) (hb : a.heap.size ≤ b) : Below a.heap.size a (w.setCell ⟨b, o, s⟩ v) := h.setCell (p := ⟨b, o, s⟩) hb v
theorem bl_trans {a b c : World} (h : Below a.heap.size a b) (k : Below b.heap.size b c) : Below a.heap.size a c := h.trans (k.mono h.size)
theorem bl_of_drewN (w : World) {w' : World} (h : ∃ n, w' = w.drewN n) : Below w.heap.size w w' := by
  obtain ⟨n, rfl⟩ := h
  exact bl_drewN (Below.refl _ _) n

/-- From 'a' cells are read: the list cs. -/
def Rd (w : World) (a : Option Addr) (cs : List Value) : Prop :=
  0 < cs.length → ∃ b off, a = some ⟨b, off, none⟩ ∧ b < w.heap.size ∧ ∀ i, i < cs.length → w.cell? ⟨b, off + i, none⟩ = some (cs.getD i undef)

theorem Rd.nil (w : World) (a : Option Addr) : Rd w a [] := fun h => absurd h (by simp)
theorem Rd.below {w w' : World} {a : Option Addr} {cs : List Value} (h : Rd w a cs) {B : Nat} (hb : Below B w w') (hB : w.heap.size ≤ B) : Rd w' a cs := by
  intro h0
  obtain ⟨b, off, e, hlt, hc⟩ := h h0
  exact ⟨b, off, e, Nat.lt_of_lt_of_le hlt hb.size, fun i hi => (hb.cell (p := ⟨b, off + i, none⟩) (Nat.lt_of_lt_of_le hlt hB)).trans (hc i hi)⟩
theorem Rd.bl {w w' : World} {a : Option Addr} {cs : List Value} (h : Rd w a cs) (hb : Below w.heap.size w w') : Rd w' a cs := h.below hb (Nat.le_refl _)
theorem Rd.drewN {w : World} {a : Option Addr} {cs : List Value} (h : Rd w a cs) (n : Nat) : Rd (w.drewN n) a cs := h

/-- The cells of a list of elements. -/
def fl {α : Type} (enc : α → List Value) (l : List α) : List Value := l.flatMap enc

theorem fl_length {α : Type} {enc : α → List Value} {k : Nat} (hk : ∀ x, (enc x).length = k) (l : List α) : (fl enc l).length = l.length * k := by
  induction l with
  | nil => simp [fl]
  | cons x l ih =>
    have : fl enc (x :: l) = enc x ++ fl enc l := by simp [fl]
    rw [this, List.length_append, hk, ih, List.length_cons, Nat.succ_mul]
    omega

theorem fl_getElem? {α : Type} {enc : α → List Value} {k : Nat} (hk : ∀ x, (enc x).length = k) (l : List α) (i j : Nat) (hj : j < k) :
    (fl enc l)[i * k + j]? = (l[i]?).bind fun x => (enc x)[j]? := by
  induction l generalizing i with
  | nil => simp [fl]
  | cons x l ih =>
    have : fl enc (x :: l) = enc x ++ fl enc l := by simp [fl]
    rw [this]
    cases i with
    | zero =>
      rw [List.getElem?_append_left (by rw [hk]; omega)]
      simp
    | succ i =>
      rw [List.getElem?_append_right (by rw [hk, Nat.succ_mul]; omega), hk, show (i + 1) * k + j - k = i * k + j by rw [Nat.succ_mul]; omega, ih]
      simp

theorem fl_append {α : Type} (enc : α → List Value) (l m : List α) : fl enc (l ++ m) = fl enc l ++ fl enc m := by simp [fl]
theorem fl_snoc {α : Type} (enc : α → List Value) (l : List α) (x : α) : fl enc (l ++ [x]) = fl enc l ++ enc x := by simp [fl]
theorem fl_nil {α : Type} (enc : α → List Value) : fl enc ([] : List α) = [] := rfl

/-- What is read of element i, cell j. -/
theorem rd_elem {α : Type} {enc : α → List Value} {k : Nat} (hk : ∀ x, (enc x).length = k) {l : List α} {w : World} {a : Option Addr} (h : Rd w a (fl enc l)) (hk0 : 0 < k) (h0 : 0 < l.length) :
    ∃ b off, a = some ⟨b, off, none⟩ ∧ b < w.heap.size ∧ ∀ i (hi : i < l.length) j, j < k → w.cell? ⟨b, off + (i * k + j), none⟩ = (enc l[i])[j]? := by
  have hlen := fl_length hk l
  have hpos : 0 < l.length * k := Nat.mul_pos h0 hk0
  obtain ⟨b, off, e, hlt, hc⟩ := h (by omega)
  refine ⟨b, off, e, hlt, fun i hi j hj => ?_⟩
  have hik : i * k + j < l.length * k := by
    have : (i + 1) * k ≤ l.length * k := Nat.mul_le_mul_right _ hi
    rw [Nat.succ_mul] at this
    omega
  rw [hc (i * k + j) (by omega)]
  have := fl_getElem? hk l i j hj
  rw [List.getElem?_eq_getElem hi] at this
  simp only [Option.bind_some] at this
  rw [← this, List.getD_eq_getElem?_getD, List.getElem?_eq_getElem (by omega)]
  simp

/-- An owned slice is read. -/
theorem rd_of_owns {w : World} {base e k : Nat} {a : Option Addr} {n cap : Nat} {cs : List Value} (h : w.ownsRow base e k (.slice a n cap) n cs) : Rd w a cs := by
  intro h0
  rcases h.2 with ⟨hv, hn⟩ | ⟨g, cap', cur, hv, hg, hh, hnc, hcm, hcs, ht⟩
  · have := h.1
    subst hn
    simp at this
    rw [this] at h0
    simp at h0
  · simp only [Value.slice.injEq] at hv
    obtain ⟨rfl, _, rfl⟩ := hv
    refine ⟨g, 0, rfl, (Array.getElem?_eq_some_iff.1 hh).1, fun i hi => ?_⟩
    rw [World.cell?]
    simp only [hh]
    have hlt : i < n * k := by rw [← h.1]; exact hi
    have hsz : i < cur.size := by rw [hcs]; exact Nat.lt_of_lt_of_le hlt (Nat.mul_le_mul_right _ hnc)
    simp only [Option.isSome_none, Bool.false_eq_true, if_false, Nat.zero_add]
    rw [← ht, List.getD_eq_getElem?_getD, List.getElem?_take, if_pos hlt]
    simp [hsz]

theorem owns_slice {w : World} {base e k : Nat} {v : Value} {n : Nat} {cs : List Value} (h : w.ownsRow base e k v n cs) : ∃ a cap, v = .slice a n cap ∧ (n = 0 ∨ ∃ g, base ≤ g ∧ g < w.heap.size ∧ a = some ⟨g, 0, none⟩) := by
  rcases h.2 with ⟨rfl, rfl⟩ | ⟨g, cap', cur, rfl, hg, hh, _⟩
  · exact ⟨none, 0, rfl, .inl rfl⟩
  · exact ⟨some ⟨g, 0, none⟩, cap', rfl, .inr ⟨g, hg, (Array.getElem?_eq_some_iff.1 hh).1, rfl⟩⟩

theorem owns_below {w w' : World} {base e k : Nat} {v : Value} {n : Nat} {cs : List Value} (h : w.ownsRow base e k v n cs) (hb : Below w.heap.size w w') : w'.ownsRow base e k v n cs := by
  refine ⟨h.1, ?_⟩
  rcases h.2 with h2 | ⟨g, cap, cur, hv, hg, hh, r⟩
  · exact .inl h2
  · exact .inr ⟨g, cap, cur, hv, hg, by rw [hb.block g (Array.getElem?_eq_some_iff.1 hh).1]; exact hh, r⟩

theorem owns_mono {w : World} {base base' e k : Nat} {v : Value} {n : Nat} {cs : List Value} (h : w.ownsRow base e k v n cs) (hb : base' ≤ base) : w.ownsRow base' e k v n cs := by
  refine ⟨h.1, ?_⟩
  rcases h.2 with h2 | ⟨g, cap, cur, hv, hg, hh, r⟩
  · exact .inl h2
  · exact .inr ⟨g, cap, cur, hv, Nat.le_trans hb hg, hh, r⟩

/-- A block of cells that is known whole. -/
def Blk (w : World) (B : Nat) (cs : Array Value) (t : TypeId) : Prop := w.heap[B]? = some (.cells cs t (0, 0))

theorem Blk.lt {w : World} {B : Nat} {cs : Array Value} {t : TypeId} (h : Blk w B cs t) : B < w.heap.size := (Array.getElem?_eq_some_iff.1 h).1
theorem Blk.cell {w : World} {B : Nat} {cs : Array Value} {t : TypeId} (h : Blk w B cs t) (i : Nat) : w.cell? ⟨B, i, none⟩ = cs[i]? := by
  unfold Blk at h
  simp [World.cell?, h]
theorem Blk.free {w : World} {B : Nat} {cs : Array Value} {t : TypeId} (h : Blk w B cs t) (i : Nat) : w.frozen? ⟨B, i, none⟩ = false := by
  unfold Blk at h
  simp [World.frozen?, h]
theorem Blk.new (w : World) (cs : Array Value) (t : TypeId) : Blk (w.alloc (.cells cs t)) w.heap.size cs t := heap_alloc_new w _
theorem Blk.alloc {w : World} {B : Nat} {cs : Array Value} {t : TypeId} (h : Blk w B cs t) (o : Obj) : Blk (w.alloc o) B cs t := (Below.heap_alloc w o B h.lt).trans h
theorem Blk.drewN {w : World} {B : Nat} {cs : Array Value} {t : TypeId} (h : Blk w B cs t) (n : Nat) : Blk (w.drewN n) B cs t := h
theorem Blk.below {w w' : World} {B : Nat} {cs : Array Value} {t : TypeId} (h : Blk w B cs t) (hb : Below w.heap.size w w') : Blk w' B cs t := (hb.block B h.lt).trans h
theorem Blk.set {w : World} {B : Nat} {cs : Array Value} {t : TypeId} (h : Blk w B cs t) (i : Nat) (v : Value) : Blk (w.setCell ⟨B, i, none⟩ v) B (cs.setIfInBounds i v) t := by
  unfold Blk at *
  simp [World.setCell, Array.getElem?_modify, h]
theorem Blk.other {w : World} {B B' : Nat} {cs : Array Value} {t : TypeId} (h : Blk w B cs t) (hne : B ≠ B') (i : Nat) (v : Value) : Blk (w.setCell ⟨B', i, none⟩ v) B cs t :=
  (Below.heap_setCell w ⟨B', i, none⟩ v B hne).trans h
theorem Blk.grown {w w' : World} {B : Nat} {cs : Array Value} {t : TypeId} {row : Option Nat} (h : Blk w B cs t) (hg : w.grownBy w' row) (hr : some B ≠ row) : Blk w' B cs t := (hg.block B h.lt hr).trans h

theorem ba_inj {x y : ByteArray} : x.toList = y.toList ↔ x = y := by
  constructor
  · intro h
    rw [ByteArray.toList_eq, ByteArray.toList_eq] at h
    obtain ⟨⟨x⟩⟩ := x
    obtain ⟨⟨y⟩⟩ := y
    simp at h
    rw [h]
  · intro h; rw [h]
theorem ret_b {a b : Bool} (h : a = b) : Ending.returned (.bool a) = .returned (.bool b) := by rw [h]
theorem ret_i {k : IntKind} {a b : Int} (h : a = b) : Ending.returned (.int k a) = .returned (.int k b) := by rw [h]

/-- The first place at which p holds, or -1. -/
def idxF {α : Type} (p : α → Bool) (l : List α) : Int := if l.any p then (l.findIdx p : Int) else -1
def NoneBefore {α : Type} (p : α → Bool) (l : List α) (k : Nat) : Prop := ∀ i (h : i < l.length), i < k → p l[i] = false
theorem NoneBefore.zero {α : Type} (p : α → Bool) (l : List α) : NoneBefore p l 0 := fun _ _ h => absurd h (by omega)
theorem NoneBefore.next {α : Type} {p : α → Bool} {l : List α} {k : Nat} (h : NoneBefore p l k) (hk : k < l.length) (hp : p l[k] = false) : NoneBefore p l (k + 1) := by
  intro i hi hik
  by_cases e : i = k
  · subst e; exact hp
  · exact h i hi (by omega)
theorem NoneBefore.found {α : Type} {p : α → Bool} {l : List α} {k : Nat} (h : NoneBefore p l k) (hk : k < l.length) (hp : p l[k] = true) : idxF p l = k := by
  have ha : l.any p = true := List.any_eq_true.2 ⟨l[k], List.getElem_mem hk, hp⟩
  have he : l.findIdx p = k := (List.findIdx_eq hk).2 ⟨hp, fun j hj => h j (by omega) hj⟩
  rw [idxF, if_pos ha, he]
theorem NoneBefore.any {α : Type} {p : α → Bool} {l : List α} {k : Nat} (h : NoneBefore p l k) (hk : l.length ≤ k) : l.any p = false := by
  rw [List.any_eq_false]
  intro x hx
  obtain ⟨i, hi, rfl⟩ := List.getElem_of_mem hx
  rw [h i hi (by omega)]
  simp
theorem NoneBefore.none {α : Type} {p : α → Bool} {l : List α} {k : Nat} (h : NoneBefore p l k) (hk : l.length ≤ k) : idxF p l = -1 := by
  rw [idxF, if_neg (by rw [h.any hk]; simp)]
theorem idxF_ge {α : Type} (p : α → Bool) (l : List α) : decide (0 ≤ idxF p l) = l.any p := by
  rw [idxF]
  split <;> simp_all

theorem owns_cell {w : World} {base e k g n cap : Nat} {xs : List Value} (h : w.ownsRow base e k (.slice (some ⟨g, 0, none⟩) n cap) n xs) (j : Nat) (hj : j < n * k) : ∃ v, w.cell? ⟨g, j, none⟩ = some v := by
  rw [h.cellAt j hj, List.getElem?_eq_getElem (by rw [h.1]; exact hj)]
  exact ⟨_, rfl⟩

/-- A list that is filled from the front: k elements are done. -/
def done {α β : Type} (f : α → β) (z : β) (l : List α) (k : Nat) : List β := (l.take k).map f ++ List.replicate (l.length - k) z
theorem done_length {α β : Type} (f : α → β) (z : β) (l : List α) (k : Nat) : (done f z l k).length = l.length := by simp [done]; omega
theorem done_zero {α β : Type} (f : α → β) (z : β) (l : List α) : done f z l 0 = List.replicate l.length z := by simp [done]
theorem done_all {α β : Type} (f : α → β) (z : β) (l : List α) (k : Nat) (hk : l.length ≤ k) : done f z l k = l.map f := by
  rw [done, List.take_of_length_le hk, show l.length - k = 0 by omega]
  simp
theorem done_set {α β : Type} (f : α → β) (z : β) (l : List α) (k : Nat) (hk : k < l.length) : (done f z l k).set k (f l[k]) = done f z l (k + 1) := by
  have hl : ((l.take k).map f).length = k := by simp; omega
  rw [done, done, List.set_append_right _ _ (by omega), hl, Nat.sub_self, show l.length - k = (l.length - (k + 1)) + 1 by omega, List.replicate_succ, List.set_cons_zero, List.take_succ_eq_append_getElem hk, List.map_append, List.append_assoc]
  rfl

theorem made_cells {α : Type} (enc : α → List Value) (k : Nat) (hk : ∀ x, (enc x).length = k) (hk0 : 0 < k) (x : α) (n : Nat) : (madeCells (enc x).toArray (n * k)).toList = fl enc (List.replicate n x) := by
  apply List.ext_getElem?
  intro i
  by_cases hi : i < n * k
  · have hq : i / k < n := (Nat.div_lt_iff_lt_mul hk0).2 hi
    have hr : i % k < k := Nat.mod_lt _ hk0
    have e := fl_getElem? hk (List.replicate n x) (i / k) (i % k) hr
    rw [show i / k * k + i % k = i by rw [Nat.mul_comm]; exact Nat.div_add_mod i k] at e
    have hs : (enc x).toArray.size = k := by simp [hk]
    rw [e]
    simp [madeCells, hk, hi, hq, hr]
  · rw [List.getElem?_eq_none (by simp [madeCells]; omega), List.getElem?_eq_none (by rw [fl_length hk]; simp; omega)]

theorem owns_made {w : World} {base e k n : Nat} {cs : Array Value} (hb : base ≤ w.heap.size) (hc : cs.size = n * k) (hn : n ≤ maxLen) : (w.alloc (.cells cs e)).ownsRow base e k (.slice (some ⟨w.heap.size, 0, none⟩) n n) n cs.toList :=
  ⟨by simpa using hc, .inr ⟨w.heap.size, n, cs, rfl, hb, heap_alloc_new w _, Nat.le_refl _, hn, hc, by rw [← hc, ← Array.length_toList]; exact List.take_length⟩⟩

/-- A block of n cells, told by a function. -/
def ofF (n : Nat) (g : Nat → Value) : Array Value := Array.ofFn (n := n) fun i => g i.val
theorem ofF_size (n : Nat) (g : Nat → Value) : (ofF n g).size = n := by simp [ofF]
theorem ofF_get (n : Nat) (g : Nat → Value) (i : Nat) (h : i < n) : (ofF n g)[i]? = some (g i) := by simp [ofF, h]
theorem ofF_set (n : Nat) (g : Nat → Value) (i : Nat) (v : Value) : (ofF n g).setIfInBounds i v = ofF n (fun j => if j = i then v else g j) := by
  apply Array.ext
  · simp [ofF]
  · intro j h1 h2
    simp only [ofF_size] at h2
    rw [Array.getElem_setIfInBounds (by rw [ofF_size]; exact h2)]
    simp only [ofF, Array.getElem_ofFn]
    by_cases e : i = j
    · subst e; simp
    · rw [if_neg e, if_neg (fun h => e h.symm)]
theorem ofF_congr {n : Nat} {g g' : Nat → Value} (h : ∀ i, i < n → g i = g' i) : ofF n g = ofF n g' := by
  unfold ofF
  congr 1
  funext i
  exact h i.val i.isLt
theorem Blk.getF {w : World} {B n : Nat} {g : Nat → Value} {t : TypeId} (h : Blk w B (ofF n g) t) (i : Nat) (hi : i < n) : w.cell? ⟨B, i, none⟩ = some (g i) := (h.cell i).trans (ofF_get n g i hi)
theorem Blk.setF {w : World} {B n : Nat} {g : Nat → Value} {t : TypeId} (h : Blk w B (ofF n g) t) (i : Nat) (v : Value) : Blk (w.setCell ⟨B, i, none⟩ v) B (ofF n fun j => if j = i then v else g j) t := by
  have := h.set i v
  rwa [ofF_set] at this

theorem Blk.new2 (w : World) (o : Obj) (cs : Array Value) (t : TypeId) : Blk ((w.alloc o).alloc (.cells cs t)) (w.heap.size + 1) cs t := by
  have := Blk.new (w.alloc o) cs t
  simpa using this

theorem blk_stored2 {w : World} {B : Nat} {u0 u1 v0 v1 : Value} {t : TypeId} (h : Blk w B #[u0, u1] t) : Blk ((w.setCell ⟨B, 0, none⟩ v0).setCell ⟨B, 1, none⟩ v1) B #[v0, v1] t := by
  have := (h.set 0 v0).set 1 v1
  simpa using this
theorem bl_sets2 {a w : World} (h : Below a.heap.size a w) (v0 v1 : Value) : Below a.heap.size a ((w.setCell ⟨a.heap.size, 0, none⟩ v0).setCell ⟨a.heap.size, 1, none⟩ v1) :=
  bl_set (bl_set h _ _ _ _ (Nat.le_refl _)) _ _ _ _ (Nat.le_refl _)

theorem wrap_nat (x : Int) (m : Nat) (h : x = m) (hm : m ≤ 9223372036854775807) : IntKind.i64.wrap x = (m : Int) := by
  rw [h]; exact IntWalk.i64_in _ ⟨by omega, by omega⟩

end Go.Proofs.YtfgkjofdgohacaaGreatDoor
namespace Go.Proofs.YtfgkjofdgohacaaGreatDoor
open Go.RowKit
abbrev Nd := Int × ByteArray
def iA (l : List Int) (i : Nat) : Int := (l.getD i 0)
def encI (x : Int) : List Value := [.int .i64 x]
theorem encI_len (x : Int) : (encI x).length = 1 := rfl
theorem rdI {l : List Int} {w : World} {a : Option Addr} (h : Rd w a (fl encI l)) (h0 : 0 < l.length) : ∃ b off, a = some ⟨b, off, none⟩ ∧ b < w.heap.size ∧ ∀ i, i < l.length → w.cell? ⟨b, off + i, none⟩ = some (.int .i64 (iA l i)) := by
  obtain ⟨b, off, e, hb, hc⟩ := rd_elem encI_len h (by omega) h0
  refine ⟨b, off, e, hb, fun i hi => ?_⟩
  have := hc i hi 0 (by omega); simpa [encI, iA, hi, ← Nat.add_assoc] using this

def sA (l : List ByteArray) (i : Nat) : ByteArray := (l.getD i ByteArray.empty)
def encS (x : ByteArray) : List Value := [.string x]
theorem encS_len (x : ByteArray) : (encS x).length = 1 := rfl
theorem rdS {l : List ByteArray} {w : World} {a : Option Addr} (h : Rd w a (fl encS l)) (h0 : 0 < l.length) : ∃ b off, a = some ⟨b, off, none⟩ ∧ b < w.heap.size ∧ ∀ i, i < l.length → w.cell? ⟨b, off + i, none⟩ = some (.string (sA l i)) := by
  obtain ⟨b, off, e, hb, hc⟩ := rd_elem encS_len h (by omega) h0
  refine ⟨b, off, e, hb, fun i hi => ?_⟩
  have := hc i hi 0 (by omega); simpa [encS, sA, hi, ← Nat.add_assoc] using this

def nP (l : List Nd) (i : Nat) : Int := (l.getD i (0, ByteArray.empty)).1
def nS (l : List Nd) (i : Nat) : ByteArray := (l.getD i (0, ByteArray.empty)).2
def encNd (x : Nd) : List Value := [.int .i64 x.1, .string x.2]
theorem encNd_len (x : Nd) : (encNd x).length = 2 := rfl
theorem rdNd {l : List Nd} {w : World} {a : Option Addr} (h : Rd w a (fl encNd l)) (h0 : 0 < l.length) : ∃ b off, a = some ⟨b, off, none⟩ ∧ b < w.heap.size ∧ ∀ i, i < l.length → w.cell? ⟨b, off + i * 2, none⟩ = some (.int .i64 (nP l i)) ∧ w.cell? ⟨b, off + i * 2 + 1, none⟩ = some (.string (nS l i)) := by
  obtain ⟨b, off, e, hb, hc⟩ := rd_elem encNd_len h (by omega) h0
  refine ⟨b, off, e, hb, fun i hi => ⟨?_, ?_⟩⟩
  · have := hc i hi 0 (by omega); simpa [encNd, nP, hi, ← Nat.add_assoc] using this
  · have := hc i hi 1 (by omega); simpa [encNd, nS, hi, ← Nat.add_assoc] using this

/-- A slice's value: address, length, capacity. -/
abbrev Rw := Option Addr × Nat × Nat
def rA (l : List Rw) (i : Nat) : Option Addr := (l.getD i (none, 0, 0)).1
def rN (l : List Rw) (i : Nat) : Nat := (l.getD i (none, 0, 0)).2.1
def rC (l : List Rw) (i : Nat) : Nat := (l.getD i (none, 0, 0)).2.2
def encR (x : Rw) : List Value := [.slice x.1 x.2.1 x.2.2]
theorem encR_len (x : Rw) : (encR x).length = 1 := rfl
theorem rdR {l : List Rw} {w : World} {a : Option Addr} (h : Rd w a (fl encR l)) (h0 : 0 < l.length) : ∃ b off, a = some ⟨b, off, none⟩ ∧ b < w.heap.size ∧ ∀ i, i < l.length → w.cell? ⟨b, off + i, none⟩ = some (.slice (rA l i) (rN l i) (rC l i)) := by
  obtain ⟨b, off, e, hb, hc⟩ := rd_elem encR_len h (by omega) h0
  refine ⟨b, off, e, hb, fun i hi => ?_⟩
  have := hc i hi 0 (by omega); simpa [encR, rA, rN, rC, hi, ← Nat.add_assoc] using this

def vA (l : List Nat) (i : Nat) : Nat := l.getD i 0
def encV (x : Nat) : List Value := [.int .u64 x]
theorem encV_len (x : Nat) : (encV x).length = 1 := rfl
theorem rdV {l : List Nat} {w : World} {a : Option Addr} (h : Rd w a (fl encV l)) (h0 : 0 < l.length) : ∃ b off, a = some ⟨b, off, none⟩ ∧ b < w.heap.size ∧ ∀ i, i < l.length → w.cell? ⟨b, off + i, none⟩ = some (.int .u64 (vA l i)) := by
  obtain ⟨b, off, e, hb, hc⟩ := rd_elem encV_len h (by omega) h0
  refine ⟨b, off, e, hb, fun i hi => ?_⟩
  have := hc i hi 0 (by omega); simpa [encV, vA, hi, ← Nat.add_assoc] using this
def bA (l : List Bool) (i : Nat) : Bool := l.getD i false
def encB (x : Bool) : List Value := [.bool x]
theorem encB_len (x : Bool) : (encB x).length = 1 := rfl
theorem rdB {l : List Bool} {w : World} {a : Option Addr} (h : Rd w a (fl encB l)) (h0 : 0 < l.length) : ∃ b off, a = some ⟨b, off, none⟩ ∧ b < w.heap.size ∧ ∀ i, i < l.length → w.cell? ⟨b, off + i, none⟩ = some (.bool (bA l i)) := by
  obtain ⟨b, off, e, hb, hc⟩ := rd_elem encB_len h (by omega) h0
  refine ⟨b, off, e, hb, fun i hi => ?_⟩
  have := hc i hi 0 (by omega); simpa [encB, bA, hi, ← Nat.add_assoc] using this
end Go.Proofs.YtfgkjofdgohacaaGreatDoor
namespace Go.Proofs.YtfgkjofdgohacaaGreatDoor
open Go
section
variable {P : Program} {ops : Array Oper} {md : Region.Mode} {S : World → Prop} {Q : Exit → Act → World → Prop}

/-- The forced operations that keep S, one after another; then K. -/
def midT (P : Program) (ops : Array Oper) (Q : Exit → Act → World → Prop) (S : World → Prop) (K : Act → World → Prop) : List Nat → Act → World → Prop
  | [], a, w => K a w
  | k :: ms, a, w => wpOp P ops Q k (fun a' w' => S w' ∧ midT P ops Q S K ms a' w') a w

/-- The reads, one after another: the world stays. -/
def headT (P : Program) (ops : Array Oper) (S : World → Prop) (L : Act → Prop) : List Nat → Act → Prop
  | [], a => L a
  | k :: is, a => ∃ o v, ops[k]? = some o ∧ YieldsIf P ops S o v a ∧ headT P ops S L is (a.put o.dst v)

/-- Whatever order is picked for the first n; the others are forced. -/
def anyT (P : Program) (md : Region.Mode) (ops : Array Oper) (Q : Exit → Act → World → Prop) (S : World → Prop) (n : Nat) (K : Act → World → Prop) : Nat → Array Bool → Act → World → Prop
  | 0, listed, a, w => Region.seqB md ops (ops.size - n) n listed = true ∧ K a w
  | f + 1, listed, a, w => Region.ready md ops listed ≠ [] ∧ ∀ i ∈ Region.ready md ops listed, i < n ∧ wpOp P ops Q i (fun a' w' => S w' ∧ anyT P md ops Q S n K f (listed.setIfInBounds i true) a' w') a w

theorem any_of_T {n g : Nat} {K : Act → World → Prop} (hK : ∀ listed a w, Region.seqB md ops (ops.size - n) n listed = true → K a w → wpAny P md ops Q g listed a w) :
    ∀ (f : Nat) (listed : Array Bool) (a : Act) (w : World), anyT P md ops Q S n K f listed a w → wpAny P md ops Q (f + g) listed a w
  | 0, listed, a, w, h => by rw [Nat.zero_add]; exact hK _ _ _ h.1 h.2
  | f + 1, listed, a, w, h => by
    rw [show f + 1 + g = (f + g) + 1 by omega]
    exact ⟨fun h0 => absurd h0 h.1, fun i hi => wpOp_mono (fun a' w' h' => any_of_T hK f _ a' w' h'.2) (h.2 i hi).2⟩

theorem anyT_first {n i : Nat} {K : Act → World → Prop} {oi : Oper} {v : Value} (hi : ops[i]? = some oi) (hsel : ∀ (j : Nat) (o : Oper) cs b, ops[j]? = some o → o.op ≠ .select cs b)
    (hs : Region.sinkB md ops n = true) (hc : Region.chainB md ops n = true) (hn : n < ops.size) (hin : i < n)
    (hQ : ∀ c a w, Q (.panic c) (a.put oi.dst v) w → Q (.panic c) a w) :
    ∀ (f : Nat) (listed : Array Bool) (a : Act) (w : World), HeadInv md ops n listed →
      (∀ j oj, ops[j]? = some oj → j ≠ i → listed.getD j true = false → (∀ e ∈ oj.after, Region.binds md e = true → e.on ≠ i) → oi.apart ops oj = true) →
      i ∈ Region.ready md ops listed → YieldsIf P ops S oi v a → S w →
      anyT P md ops Q S n K f (listed.setIfInBounds i true) (a.put oi.dst v) w → anyT P md ops Q S n K (f + 1) listed a w := by
  intro f
  induction f with
  | zero =>
    intro listed a w inv _ hr hy hS H
    have hun := (mem_ready.1 hr).1
    refine ⟨fun h => (by rw [h] at hr; cases hr), fun j hj => ?_⟩
    have hjn : j < n := by
      rcases Nat.lt_or_ge j n with h | h
      · exact h
      · exact absurd hj (tail_waits hs hc hn inv _ i rfl hin hun j h)
    refine ⟨hjn, ?_⟩
    by_cases hji : j = i
    · subst hji; exact hy.wpOp hi hS ⟨hS, H⟩
    · have := seqB_ready H.1 j (ready_mono hj hji)
      omega
  | succ f ih =>
    intro listed a w inv hfree hr hy hS H
    have hun := (mem_ready.1 hr).1
    refine ⟨fun h => (by rw [h] at hr; cases hr), fun j hj => ?_⟩
    have hjn : j < n := by
      rcases Nat.lt_or_ge j n with h | h
      · exact h
      · exact absurd hj (tail_waits hs hc hn inv _ i rfl hin hun j h)
    refine ⟨hjn, ?_⟩
    by_cases hji : j = i
    · subst hji; exact hy.wpOp hi hS ⟨hS, H⟩
    · have h1 := (H.2 j (ready_mono hj hji)).2
      obtain ⟨hjun, oj, hoj, hall⟩ := mem_ready.1 hj
      have hnot : ∀ e ∈ oj.after, Region.binds md e = true → e.on ≠ i := fun e he hb heq => by
        have h1 := hall e he hb
        rw [heq, getD_both hun] at h1
        cases h1
      have h2 := wpOp_putIf hoj (hfree j oj hoj hji hjun hnot) (fun cs b => hsel i oi cs b hi) (fun cs b => hsel j oj cs b hoj) hQ hy h1
      have hfree' : ∀ k ok, ops[k]? = some ok → k ≠ i → (listed.setIfInBounds j true).getD k true = false →
          (∀ e ∈ ok.after, Region.binds md e = true → e.on ≠ i) → oi.apart ops ok = true := fun k ok hk hki hun hno => by
        refine hfree k ok hk hki ?_ hno
        by_cases hjk : j = k
        · subst hjk; exact hjun
        · rw [getD_set_ne true hjk] at hun; exact hun
      refine wpOp_mono (fun a' w' h3 => ⟨h3.2.1, ih (listed.setIfInBounds j true) a' w' (inv.set hj hjn) hfree' (ready_mono hr (Ne.symm hji)) h3.1 h3.2.1 ?_⟩) h2
      rw [Array.setIfInBounds_comm _ _ hji]
      exact h3.2.2

/-- The forced operations' numbers: each alone may come up. -/
def seqL (md : Region.Mode) (ops : Array Oper) (n : Nat) : List Nat → Array Bool → Bool
  | [], listed => Region.seqB md ops (ops.size - n) n listed
  | k :: ms, listed => decide (Region.ready md ops listed = [k]) && decide (k < n) && seqL md ops n ms (listed.setIfInBounds k true)
/-- The reads' numbers, each free when it comes up, then the forced ones. -/
def headL (md : Region.Mode) (ops : Array Oper) (n : Nat) (ms : List Nat) : List Nat → Array Bool → Bool
  | [], listed => seqL md ops n ms listed
  | k :: is, listed => (Region.ready md ops listed).contains k && Region.free md ops listed k && decide (k < n) && headL md ops n ms is (listed.setIfInBounds k true)
def orderB (md : Region.Mode) (ops : Array Oper) (n : Nat) (is ms : List Nat) : Bool :=
  Region.noSelect ops && decide (is.length + ms.length = n) && decide (n < ops.size) && Region.sinkB md ops n && Region.chainB md ops n && headL md ops n ms is (Array.replicate ops.size false)

theorem anyT_seq {n : Nat} {K : Act → World → Prop} : ∀ (ms : List Nat) (listed : Array Bool) (a : Act) (w : World), seqL md ops n ms listed = true → midT P ops Q S K ms a w → anyT P md ops Q S n K ms.length listed a w
  | [], listed, a, w, hB, h => ⟨hB, h⟩
  | k :: ms, listed, a, w, hB, h => by
    rw [seqL] at hB
    simp only [Bool.and_eq_true, decide_eq_true_eq] at hB
    obtain ⟨⟨h1, h2⟩, h3⟩ := hB
    refine ⟨fun h0 => (by rw [h1] at h0; cases h0), fun i hi => ?_⟩
    rw [h1] at hi
    obtain rfl : i = k := by simpa using hi
    exact ⟨h2, wpOp_mono (fun a' w' h' => ⟨h'.1, anyT_seq ms _ a' w' h3 h'.2⟩) h⟩

theorem anyT_head {n : Nat} {K : Act → World → Prop} (hsel : Region.noSelect ops = true) (hs : Region.sinkB md ops n = true) (hc : Region.chainB md ops n = true) (hn : n < ops.size)
    (hQ : ∀ c a d v w, Q (.panic c) (Act.put a d v) w → Q (.panic c) a w) {ms : List Nat} :
    ∀ (is : List Nat) (listed : Array Bool) (a : Act) (w : World), HeadInv md ops n listed → headL md ops n ms is listed = true → S w →
      headT P ops S (fun a' => midT P ops Q S K ms a' w) is a → anyT P md ops Q S n K (is.length + ms.length) listed a w
  | [], listed, a, w, _, hB, _, h => by
    rw [List.length_nil, Nat.zero_add]
    exact anyT_seq ms listed a w hB h
  | i :: is, listed, a, w, inv, hB, hS, h => by
    rw [headL] at hB
    simp only [Bool.and_eq_true, decide_eq_true_eq] at hB
    obtain ⟨⟨⟨h1, h2⟩, h3⟩, h4⟩ := hB
    obtain ⟨o, v, ho, hy, hk⟩ := h
    have hr : i ∈ Region.ready md ops listed := by simpa using h1
    have := anyT_first ho (Region.noSelect_spec hsel) hs hc hn h3 (fun c a w => hQ c a _ _ w) (is.length + ms.length) listed a w inv (Region.free_spec ho h2) hr hy hS (anyT_head hsel hs hc hn hQ is _ _ w (inv.set hr h3) h4 hS hk)
    rw [List.length_cons, show is.length + 1 + ms.length = is.length + ms.length + 1 by omega]
    exact this

/-- READS FIRST, THEN FORCED ONES THAT KEEP WHAT WAS READ, then the forced end, which may write it. -/
theorem wp_region_order {id : Nat} {a : Act} {w : World} {l : List Oper} (n : Nat) (is ms : List Nat) (hm : P.follows .mixedOrders = true) (hB : orderB .any l.toArray n is ms = true)
    (hS : S w.drew)
    (h : headT P l.toArray S (fun a' => midT P l.toArray (NoPanic Q) S (wpList P l.toArray (NoPanic Q) (l.drop n)) ms a' w.drew) is a) : (Code.region id l.toArray true).wp P Q a w := by
  simp only [orderB, Bool.and_eq_true, decide_eq_true_eq] at hB
  obtain ⟨⟨⟨⟨⟨hsel, hlen⟩, hn⟩, hs⟩, hc⟩, hB⟩ := hB
  have inv0 : HeadInv .any l.toArray n (Array.replicate l.toArray.size false) :=
    ⟨by simp, fun j oj _ hl => (by rw [getD_replicate_false] at hl; cases hl), fun t _ ht => getD_in (by simpa using ht) (getD_replicate_false _ _)⟩
  refine wp_region_noPanic (wp_region_any hm ?_)
  have hdl : (l.drop n).length = l.toArray.size - n := by simp
  have := any_of_T (Q := NoPanic Q) (g := l.toArray.size - n) (fun listed a' w' h1 h2 => by
    have := wpAny_of_seq (md := .any) (Q' := NoPanic Q) (l.drop n) n listed a' w' (fun j => by simp [List.getElem?_drop]) (by rw [hdl]; exact h1) h2
    rwa [hdl] at this) _ _ _ _ (anyT_head (Q := NoPanic Q) hsel hs hc hn (fun _ _ _ _ _ h => h) is _ a w.drew inv0 hB hS h)
  rw [hlen, show n + (l.toArray.size - n) = l.toArray.size by omega] at this
  exact this

theorem get_of_drop {l r : List Oper} {k : Nat} {o : Oper} (h : l.drop k = o :: r) : l.toArray[k]? = some o := by
  have := congrArg (fun x => x[0]?) h
  simpa [List.getElem?_drop] using this
theorem headT_nil {L : Act → Prop} {a : Act} (h : L a) : headT P ops S L [] a := h
theorem headT_cons {l : List Oper} {L : Act → Prop} {a : Act} {k : Nat} {is : List Nat} {o : Oper} {r : List Oper} {v : Value} (ho : l.drop k = o :: r) (hw : Region.wanted o (yielded l.toArray a.tmps) = true) (hy : ∀ w, S w → (execOp a.eval o).run P w = .ok (.value v) w)
    (h : headT P l.toArray S L is (a.put o.dst v)) : headT P l.toArray S L (k :: is) a := ⟨o, v, get_of_drop ho, Or.inl ⟨hw, hy⟩, h⟩
theorem headT_skip {l : List Oper} {L : Act → Prop} {a : Act} {k : Nat} {is : List Nat} {o : Oper} {r : List Oper} (ho : l.drop k = o :: r) (hw : Region.wanted o (yielded l.toArray a.tmps) = false)
    (h : headT P l.toArray S L is (a.put o.dst undef)) : headT P l.toArray S L (k :: is) a := ⟨o, undef, get_of_drop ho, Or.inr ⟨hw, rfl⟩, h⟩
theorem midT_nil {K : Act → World → Prop} {a : Act} {w : World} (h : K a w) : midT P ops Q S K [] a w := h
theorem midT_cons {l : List Oper} {K : Act → World → Prop} {a : Act} {w : World} {k : Nat} {ms : List Nat} {o : Oper} {r : List Oper} (ho : l.drop k = o :: r)
    (h : ∀ K' : Act → World → Prop, Shut (∀ a w, S w → (S w → midT P l.toArray Q S K ms a w) → K' a w) → if Region.wanted o (yielded l.toArray a.tmps) = true then Oper.wp P o a w K' Q else K' (a.put o.dst undef) w) : midT P l.toArray Q S K (k :: ms) a w :=
  wpOp_step (get_of_drop ho) (fun K' hK => h K' (fun a w hS hW => hK a w ⟨hS, hW hS⟩))
end
end Go.Proofs.YtfgkjofdgohacaaGreatDoor
namespace Go.Proofs.YtfgkjofdgohacaaGreatDoor
open Go.RowKit
theorem info_I : (Tryz.prog.info? 3).map (fun i => (i.zero, i.size, i.bytes)) = some (some (.int .i64 0), 1, 8) := by kernel_rfl
theorem push_I {w : World} {ops : Array Oper} {rest : List Oper} {o : Oper} {a : Act} {Q : Exit → Act → World → Prop} (hgd : o.guard = none) (s x : Operand) (ho : o.op = .call { callee := .builtin .append, args := #[s, x], argTypes := #[30, 30] })
    (base : Nat) (v : Value) (l : List Int) (n : Nat) (hn : n = l.length) (hs : a.eval s = v) (hown : w.ownsRow base 3 1 v n (fl encI l)) (B c : Nat) (y : Int) (hx : a.eval x = .slice (some ⟨B, 0, none⟩) 1 c) (hB : Blk w B (encI y).toArray 3) (hl : n < 8796093022208) (hbase : base ≤ w.heap.size)
    (h : ∀ g cap w', w'.ownsRow base 3 1 (.slice (some ⟨g, 0, none⟩) (n + 1) cap) (n + 1) (fl encI (l ++ [y])) → w.grownBy w' v.ownBlock → (v.ownBlock = some g ∨ g = w.heap.size) → g < w'.heap.size → wpList Tryz.prog ops Q rest (a.put o.dst (.slice (some ⟨g, 0, none⟩) (n + 1) cap)) w') : wpList Tryz.prog ops Q (o :: rest) a w := by
  obtain ⟨i0, hi, hz0, hz1, hz2⟩ := info_parts info_I
  refine wpList_append_lies w hgd s x 30 ho base 3 i0 _ 1 8 Tryz.underlying30 hi hz0 hz1 hz2 rfl (by decide) v n (fl encI l) hs hown ⟨B, 0, none⟩ 1 c (encI y) hx (by simp [encI]) (World.news_of_block (cs := (encI y).toArray) (t := 3) (fr := (0, 0)) hB) (by intro u hu; simp [encI] at hu; first | (subst hu; rfl) | (rcases hu with rfl | rfl <;> rfl) | (rcases hu with rfl | rfl | rfl | rfl | rfl <;> rfl)) (by omega) (by unfold maxLen; omega) (by omega) hbase _ rfl ?_
  intro g cap w' h1 h2 h3 h4
  rw [← fl_snoc] at h1
  exact h g cap w' h1 h2 h3 h4
theorem spush_I {w : World} {ops : Array Oper} {o : Oper} {a : Act} {K : Act → World → Prop} {Q : Exit → Act → World → Prop} {E : Prop} (hgd : o.guard = none) (s x : Operand) (ho : o.op = .call { callee := .builtin .append, args := #[s, x], argTypes := #[30, 30] })
    (base : Nat) (v : Value) (l : List Int) (n : Nat) (hn : n = l.length) (hs : a.eval s = v) (hown : w.ownsRow base 3 1 v n (fl encI l)) (B c : Nat) (y : Int) (hx : a.eval x = .slice (some ⟨B, 0, none⟩) 1 c) (hB : Blk w B (encI y).toArray 3) (hl : n < 8796093022208) (hbase : base ≤ w.heap.size)
    (h : ∀ g cap w', w'.ownsRow base 3 1 (.slice (some ⟨g, 0, none⟩) (n + 1) cap) (n + 1) (fl encI (l ++ [y])) → w.grownBy w' v.ownBlock → (v.ownBlock = some g ∨ g = w.heap.size) → g < w'.heap.size → K (a.put o.dst (.slice (some ⟨g, 0, none⟩) (n + 1) cap)) w') : if Region.wanted o (yielded ops a.tmps) = true then Oper.wp Tryz.prog o a w K Q else E := by
  obtain ⟨i0, hi, hz0, hz1, hz2⟩ := info_parts info_I
  refine step_append_lies w hgd s x 30 ho base 3 i0 _ 1 8 Tryz.underlying30 hi hz0 hz1 hz2 rfl (by decide) v n (fl encI l) hs hown ⟨B, 0, none⟩ 1 c (encI y) hx (by simp [encI]) (World.news_of_block (cs := (encI y).toArray) (t := 3) (fr := (0, 0)) hB) (by intro u hu; simp [encI] at hu; first | (subst hu; rfl) | (rcases hu with rfl | rfl <;> rfl) | (rcases hu with rfl | rfl | rfl | rfl | rfl <;> rfl)) (by omega) (by unfold maxLen; omega) (by omega) hbase _ rfl ?_
  intro g cap w' h1 h2 h3 h4
  rw [← fl_snoc] at h1
  exact h g cap w' h1 h2 h3 h4

theorem info_Nd : (Tryz.prog.info? 56).map (fun i => (i.zero, i.size, i.bytes)) = some (some (.agg #[.int .i64 0, .string ByteArray.empty]), 2, 24) := by kernel_rfl
theorem push_Nd {w : World} {ops : Array Oper} {rest : List Oper} {o : Oper} {a : Act} {Q : Exit → Act → World → Prop} (hgd : o.guard = none) (s x : Operand) (ho : o.op = .call { callee := .builtin .append, args := #[s, x], argTypes := #[22, 22] })
    (base : Nat) (v : Value) (l : List Nd) (n : Nat) (hn : n = l.length) (hs : a.eval s = v) (hown : w.ownsRow base 56 2 v n (fl encNd l)) (B c : Nat) (y : Nd) (hx : a.eval x = .slice (some ⟨B, 0, none⟩) 1 c) (hB : Blk w B (encNd y).toArray 56) (hl : n < 4398046511104) (hbase : base ≤ w.heap.size)
    (h : ∀ g cap w', w'.ownsRow base 56 2 (.slice (some ⟨g, 0, none⟩) (n + 1) cap) (n + 1) (fl encNd (l ++ [y])) → w.grownBy w' v.ownBlock → (v.ownBlock = some g ∨ g = w.heap.size) → g < w'.heap.size → wpList Tryz.prog ops Q rest (a.put o.dst (.slice (some ⟨g, 0, none⟩) (n + 1) cap)) w') : wpList Tryz.prog ops Q (o :: rest) a w := by
  obtain ⟨i0, hi, hz0, hz1, hz2⟩ := info_parts info_Nd
  refine wpList_append_lies w hgd s x 22 ho base 56 i0 _ 2 24 Tryz.underlying22 hi hz0 hz1 hz2 rfl (by decide) v n (fl encNd l) hs hown ⟨B, 0, none⟩ 1 c (encNd y) hx (by simp [encNd]) (World.news_of_block (cs := (encNd y).toArray) (t := 56) (fr := (0, 0)) hB) (by intro u hu; simp [encNd] at hu; first | (subst hu; rfl) | (rcases hu with rfl | rfl <;> rfl) | (rcases hu with rfl | rfl | rfl | rfl | rfl <;> rfl)) (by omega) (by unfold maxLen; omega) (by omega) hbase _ rfl ?_
  intro g cap w' h1 h2 h3 h4
  rw [← fl_snoc] at h1
  exact h g cap w' h1 h2 h3 h4
theorem spush_Nd {w : World} {ops : Array Oper} {o : Oper} {a : Act} {K : Act → World → Prop} {Q : Exit → Act → World → Prop} {E : Prop} (hgd : o.guard = none) (s x : Operand) (ho : o.op = .call { callee := .builtin .append, args := #[s, x], argTypes := #[22, 22] })
    (base : Nat) (v : Value) (l : List Nd) (n : Nat) (hn : n = l.length) (hs : a.eval s = v) (hown : w.ownsRow base 56 2 v n (fl encNd l)) (B c : Nat) (y : Nd) (hx : a.eval x = .slice (some ⟨B, 0, none⟩) 1 c) (hB : Blk w B (encNd y).toArray 56) (hl : n < 4398046511104) (hbase : base ≤ w.heap.size)
    (h : ∀ g cap w', w'.ownsRow base 56 2 (.slice (some ⟨g, 0, none⟩) (n + 1) cap) (n + 1) (fl encNd (l ++ [y])) → w.grownBy w' v.ownBlock → (v.ownBlock = some g ∨ g = w.heap.size) → g < w'.heap.size → K (a.put o.dst (.slice (some ⟨g, 0, none⟩) (n + 1) cap)) w') : if Region.wanted o (yielded ops a.tmps) = true then Oper.wp Tryz.prog o a w K Q else E := by
  obtain ⟨i0, hi, hz0, hz1, hz2⟩ := info_parts info_Nd
  refine step_append_lies w hgd s x 22 ho base 56 i0 _ 2 24 Tryz.underlying22 hi hz0 hz1 hz2 rfl (by decide) v n (fl encNd l) hs hown ⟨B, 0, none⟩ 1 c (encNd y) hx (by simp [encNd]) (World.news_of_block (cs := (encNd y).toArray) (t := 56) (fr := (0, 0)) hB) (by intro u hu; simp [encNd] at hu; first | (subst hu; rfl) | (rcases hu with rfl | rfl <;> rfl) | (rcases hu with rfl | rfl | rfl | rfl | rfl <;> rfl)) (by omega) (by unfold maxLen; omega) (by omega) hbase _ rfl ?_
  intro g cap w' h1 h2 h3 h4
  rw [← fl_snoc] at h1
  exact h g cap w' h1 h2 h3 h4

theorem info_R : (Tryz.prog.info? 30).map (fun i => (i.zero, i.size, i.bytes)) = some (some (.slice none 0 0), 1, 24) := by kernel_rfl
theorem push_R {w : World} {ops : Array Oper} {rest : List Oper} {o : Oper} {a : Act} {Q : Exit → Act → World → Prop} (hgd : o.guard = none) (s x : Operand) (ho : o.op = .call { callee := .builtin .append, args := #[s, x], argTypes := #[113, 113] })
    (base : Nat) (v : Value) (l : List Rw) (n : Nat) (hn : n = l.length) (hs : a.eval s = v) (hown : w.ownsRow base 30 1 v n (fl encR l)) (B c : Nat) (y : Rw) (hx : a.eval x = .slice (some ⟨B, 0, none⟩) 1 c) (hB : Blk w B (encR y).toArray 30) (hl : n < 4398046511104) (hbase : base ≤ w.heap.size)
    (h : ∀ g cap w', w'.ownsRow base 30 1 (.slice (some ⟨g, 0, none⟩) (n + 1) cap) (n + 1) (fl encR (l ++ [y])) → w.grownBy w' v.ownBlock → (v.ownBlock = some g ∨ g = w.heap.size) → g < w'.heap.size → wpList Tryz.prog ops Q rest (a.put o.dst (.slice (some ⟨g, 0, none⟩) (n + 1) cap)) w') : wpList Tryz.prog ops Q (o :: rest) a w := by
  obtain ⟨i0, hi, hz0, hz1, hz2⟩ := info_parts info_R
  refine wpList_append_lies w hgd s x 113 ho base 30 i0 _ 1 24 Tryz.underlying113 hi hz0 hz1 hz2 rfl (by decide) v n (fl encR l) hs hown ⟨B, 0, none⟩ 1 c (encR y) hx (by simp [encR]) (World.news_of_block (cs := (encR y).toArray) (t := 30) (fr := (0, 0)) hB) (by intro u hu; simp [encR] at hu; first | (subst hu; rfl) | (rcases hu with rfl | rfl <;> rfl) | (rcases hu with rfl | rfl | rfl | rfl | rfl <;> rfl)) (by omega) (by unfold maxLen; omega) (by omega) hbase _ rfl ?_
  intro g cap w' h1 h2 h3 h4
  rw [← fl_snoc] at h1
  exact h g cap w' h1 h2 h3 h4
theorem spush_R {w : World} {ops : Array Oper} {o : Oper} {a : Act} {K : Act → World → Prop} {Q : Exit → Act → World → Prop} {E : Prop} (hgd : o.guard = none) (s x : Operand) (ho : o.op = .call { callee := .builtin .append, args := #[s, x], argTypes := #[113, 113] })
    (base : Nat) (v : Value) (l : List Rw) (n : Nat) (hn : n = l.length) (hs : a.eval s = v) (hown : w.ownsRow base 30 1 v n (fl encR l)) (B c : Nat) (y : Rw) (hx : a.eval x = .slice (some ⟨B, 0, none⟩) 1 c) (hB : Blk w B (encR y).toArray 30) (hl : n < 4398046511104) (hbase : base ≤ w.heap.size)
    (h : ∀ g cap w', w'.ownsRow base 30 1 (.slice (some ⟨g, 0, none⟩) (n + 1) cap) (n + 1) (fl encR (l ++ [y])) → w.grownBy w' v.ownBlock → (v.ownBlock = some g ∨ g = w.heap.size) → g < w'.heap.size → K (a.put o.dst (.slice (some ⟨g, 0, none⟩) (n + 1) cap)) w') : if Region.wanted o (yielded ops a.tmps) = true then Oper.wp Tryz.prog o a w K Q else E := by
  obtain ⟨i0, hi, hz0, hz1, hz2⟩ := info_parts info_R
  refine step_append_lies w hgd s x 113 ho base 30 i0 _ 1 24 Tryz.underlying113 hi hz0 hz1 hz2 rfl (by decide) v n (fl encR l) hs hown ⟨B, 0, none⟩ 1 c (encR y) hx (by simp [encR]) (World.news_of_block (cs := (encR y).toArray) (t := 30) (fr := (0, 0)) hB) (by intro u hu; simp [encR] at hu; first | (subst hu; rfl) | (rcases hu with rfl | rfl <;> rfl) | (rcases hu with rfl | rfl | rfl | rfl | rfl <;> rfl)) (by omega) (by unfold maxLen; omega) (by omega) hbase _ rfl ?_
  intro g cap w' h1 h2 h3 h4
  rw [← fl_snoc] at h1
  exact h g cap w' h1 h2 h3 h4

theorem info_V : (Tryz.prog.info? 41).map (fun i => (i.zero, i.size, i.bytes)) = some (some (.int .u64 0), 1, 8) := by kernel_rfl
theorem push_V {w : World} {ops : Array Oper} {rest : List Oper} {o : Oper} {a : Act} {Q : Exit → Act → World → Prop} (hgd : o.guard = none) (s x : Operand) (ho : o.op = .call { callee := .builtin .append, args := #[s, x], argTypes := #[37, 37] })
    (base : Nat) (v : Value) (l : List Nat) (n : Nat) (hn : n = l.length) (hs : a.eval s = v) (hown : w.ownsRow base 41 1 v n (fl encV l)) (B c : Nat) (y : Nat) (hx : a.eval x = .slice (some ⟨B, 0, none⟩) 1 c) (hB : Blk w B (encV y).toArray 41) (hl : n < 8796093022208) (hbase : base ≤ w.heap.size)
    (h : ∀ g cap w', w'.ownsRow base 41 1 (.slice (some ⟨g, 0, none⟩) (n + 1) cap) (n + 1) (fl encV (l ++ [y])) → w.grownBy w' v.ownBlock → (v.ownBlock = some g ∨ g = w.heap.size) → g < w'.heap.size → wpList Tryz.prog ops Q rest (a.put o.dst (.slice (some ⟨g, 0, none⟩) (n + 1) cap)) w') : wpList Tryz.prog ops Q (o :: rest) a w := by
  obtain ⟨i0, hi, hz0, hz1, hz2⟩ := info_parts info_V
  refine wpList_append_lies w hgd s x 37 ho base 41 i0 _ 1 8 Tryz.underlying37 hi hz0 hz1 hz2 rfl (by decide) v n (fl encV l) hs hown ⟨B, 0, none⟩ 1 c (encV y) hx (by simp [encV]) (World.news_of_block (cs := (encV y).toArray) (t := 41) (fr := (0, 0)) hB) (by intro u hu; simp [encV] at hu; first | (subst hu; rfl) | (rcases hu with rfl | rfl <;> rfl) | (rcases hu with rfl | rfl | rfl | rfl | rfl <;> rfl)) (by omega) (by unfold maxLen; omega) (by omega) hbase _ rfl ?_
  intro g cap w' h1 h2 h3 h4
  rw [← fl_snoc] at h1
  exact h g cap w' h1 h2 h3 h4
theorem spush_V {w : World} {ops : Array Oper} {o : Oper} {a : Act} {K : Act → World → Prop} {Q : Exit → Act → World → Prop} {E : Prop} (hgd : o.guard = none) (s x : Operand) (ho : o.op = .call { callee := .builtin .append, args := #[s, x], argTypes := #[37, 37] })
    (base : Nat) (v : Value) (l : List Nat) (n : Nat) (hn : n = l.length) (hs : a.eval s = v) (hown : w.ownsRow base 41 1 v n (fl encV l)) (B c : Nat) (y : Nat) (hx : a.eval x = .slice (some ⟨B, 0, none⟩) 1 c) (hB : Blk w B (encV y).toArray 41) (hl : n < 8796093022208) (hbase : base ≤ w.heap.size)
    (h : ∀ g cap w', w'.ownsRow base 41 1 (.slice (some ⟨g, 0, none⟩) (n + 1) cap) (n + 1) (fl encV (l ++ [y])) → w.grownBy w' v.ownBlock → (v.ownBlock = some g ∨ g = w.heap.size) → g < w'.heap.size → K (a.put o.dst (.slice (some ⟨g, 0, none⟩) (n + 1) cap)) w') : if Region.wanted o (yielded ops a.tmps) = true then Oper.wp Tryz.prog o a w K Q else E := by
  obtain ⟨i0, hi, hz0, hz1, hz2⟩ := info_parts info_V
  refine step_append_lies w hgd s x 37 ho base 41 i0 _ 1 8 Tryz.underlying37 hi hz0 hz1 hz2 rfl (by decide) v n (fl encV l) hs hown ⟨B, 0, none⟩ 1 c (encV y) hx (by simp [encV]) (World.news_of_block (cs := (encV y).toArray) (t := 41) (fr := (0, 0)) hB) (by intro u hu; simp [encV] at hu; first | (subst hu; rfl) | (rcases hu with rfl | rfl <;> rfl) | (rcases hu with rfl | rfl | rfl | rfl | rfl <;> rfl)) (by omega) (by unfold maxLen; omega) (by omega) hbase _ rfl ?_
  intro g cap w' h1 h2 h3 h4
  rw [← fl_snoc] at h1
  exact h g cap w' h1 h2 h3 h4

end Go.Proofs.YtfgkjofdgohacaaGreatDoor
namespace Go.Proofs.YtfgkjofdgohacaaGreatDoor
open Go.RowKit
section
variable {α : Type} {enc : α → List Value}
theorem run_append_nilsrc {P : Program} (w : World) {base : Nat} {t ty e : TypeId} {i : TypeInfo} {k : Nat} (ht : P.underlying t = some (.slice e)) (hi : P.info? e = some i) {v : Value} {n : Nat} {xs : List Value} (hown : w.ownsRow base e k v n xs) (c : Nat) :
    (Builtin.append_ #[t, t] ty #[v, .slice none 0 c]).run P w = .ok v w := by
  rcases hown.2 with ⟨rfl, rfl⟩ | ⟨g, cap, cur, rfl, _, _, hnc, _⟩
  · simp [Builtin.append_, run_underlying ht, sizeOf, typeInfo, hi, Builtin.lenOf, Builtin.firstCells]
  · simp [Builtin.append_, run_underlying ht, sizeOf, typeInfo, hi, Builtin.lenOf, Builtin.firstCells, hnc, storeCells]
/-- One append of a whole list. -/
theorem run_pushs {w : World} {k bytes : Nat} (hk : ∀ x, (enc x).length = k) (hk0 : 0 < k) (h1 : ∀ x, ∀ u ∈ enc x, u.oneCell' = true) {base : Nat} {t ty e : TypeId} {z : Value} (ht : Tryz.prog.underlying t = some (.slice e))
    (hinfo : (Tryz.prog.info? e).map (fun i => (i.zero, i.size, i.bytes)) = some (some z, k, bytes)) (hzs : z.cells.size = k) (v : Value) (l : List α) (n : Nat) (hn : n = l.length) (hown : w.ownsRow base e k v n (fl enc l))
    (A : Option Addr) (m c : Nat) (l2 : List α) (hm : m = l2.length) (hA : Rd w A (fl enc l2)) (hA0 : A = none → m = 0) (hlen : n + m < 1048576) (hbytes : bytes ≤ 1048576) (hbase : base ≤ w.heap.size) :
    ∃ v' w', (Builtin.append_ #[t, t] ty #[v, .slice A m c]).run Tryz.prog w = .ok v' w' ∧ w'.ownsRow base e k v' (n + m) (fl enc (l ++ l2)) ∧ w.grownBy w' v.ownBlock ∧ (v'.ownBlock = v.ownBlock ∨ v'.ownBlock = some w.heap.size) := by
  obtain ⟨i0, hi, hz0, hz1, hz2⟩ := info_parts hinfo
  rcases A with _ | ad
  · have h0 := hA0 rfl
    subst h0
    have : l2 = [] := List.eq_nil_of_length_eq_zero hm.symm
    subst this
    refine ⟨v, w, run_append_nilsrc w ht hi hown c, ?_, World.grownBy.refl w _, .inl rfl⟩
    rw [List.append_nil]; exact hown
  · have hcells : ∀ j u, (fl enc l2)[j]? = some u → w.cell? (ad.add j) = some u := by
      intro j u hu
      have hj : j < (fl enc l2).length := by
        rcases Nat.lt_or_ge j (fl enc l2).length with h | h
        · exact h
        · rw [List.getElem?_eq_none h] at hu; cases hu
      obtain ⟨b, off, e1, _, hc⟩ := hA (by omega)
      have e1 := Option.some.inj e1
      have h7 := hc j hj
      rw [List.getD_eq_getElem?_getD, hu] at h7
      rw [e1]
      by_cases ej : j = 0
      · subst ej; simpa [Addr.add] using h7
      · simpa [Addr.add, ej] using h7
    have hmul : (n + m) * bytes ≤ 1048576 * 1048576 := Nat.mul_le_mul (Nat.le_of_lt hlen) hbytes
    obtain ⟨v', w', hrun, h2, h3, _, h5⟩ := run_append_own_at (P := Tryz.prog) w base t ty e i0 z k bytes ht hi hz0 hz1 hz2 hzs hk0 v n (fl enc l) hown ad m c (fl enc l2) (by rw [fl_length hk, hm]) hcells
      (fun u hu => by
        obtain ⟨x, _, hx⟩ := List.mem_flatMap.1 hu
        exact h1 x u hx) (by unfold maxLen; omega) (by omega) hbase
    exact ⟨v', w', hrun, by rw [fl_append]; exact h2, h3, h5⟩
theorem wp_pushs {w : World} {k bytes : Nat} {o : Oper} {a : Act} {K : Act → World → Prop} {Q : Exit → Act → World → Prop} (hk : ∀ x, (enc x).length = k) (hk0 : 0 < k) (h1 : ∀ x, ∀ u ∈ enc x, u.oneCell' = true) {base : Nat} {t e : TypeId} {z : Value} (ht : Tryz.prog.underlying t = some (.slice e))
    (hinfo : (Tryz.prog.info? e).map (fun i => (i.zero, i.size, i.bytes)) = some (some z, k, bytes)) (hzs : z.cells.size = k) (s x : Operand) (ho : o.op = .call { callee := .builtin .append, args := #[s, x], argTypes := #[t, t] })
    (v : Value) (l : List α) (n : Nat) (hn : n = l.length) (hs : a.eval s = v) (hown : w.ownsRow base e k v n (fl enc l))
    (A : Option Addr) (m c : Nat) (l2 : List α) (hm : m = l2.length) (hx : a.eval x = .slice A m c) (hA : Rd w A (fl enc l2)) (hA0 : A = none → m = 0) (hlen : n + m < 1048576) (hbytes : bytes ≤ 1048576) (hbase : base ≤ w.heap.size)
    (h : ∀ v' w', w'.ownsRow base e k v' (n + m) (fl enc (l ++ l2)) → w.grownBy w' v.ownBlock → (v'.ownBlock = v.ownBlock ∨ v'.ownBlock = some w.heap.size) → K (a.put o.dst v') w') : o.wp Tryz.prog a w K Q := by
  obtain ⟨v', w', hrun, h2, h3, h4⟩ := run_pushs (ty := o.type) hk hk0 h1 ht hinfo hzs v l n hn hown A m c l2 hm hA hA0 hlen hbytes hbase
  unfold Oper.wp execOp
  simp only [ho, resolve, invoke, builtin, Sem.run_bind, Sem.run_pure, Result.andThen_ok, List.map_toArray, List.map_cons, List.map_nil, hs, hx, hrun]
  exact h v' w' h2 h3 h4
theorem wpList_pushs {w : World} {k bytes : Nat} {ops : Array Oper} {rest : List Oper} {o : Oper} {a : Act} {Q : Exit → Act → World → Prop} (hgd : o.guard = none) (hk : ∀ x, (enc x).length = k) (hk0 : 0 < k) (h1 : ∀ x, ∀ u ∈ enc x, u.oneCell' = true) {base : Nat} {t e : TypeId} {z : Value} (ht : Tryz.prog.underlying t = some (.slice e))
    (hinfo : (Tryz.prog.info? e).map (fun i => (i.zero, i.size, i.bytes)) = some (some z, k, bytes)) (hzs : z.cells.size = k) (s x : Operand) (ho : o.op = .call { callee := .builtin .append, args := #[s, x], argTypes := #[t, t] })
    (v : Value) (l : List α) (n : Nat) (hn : n = l.length) (hs : a.eval s = v) (hown : w.ownsRow base e k v n (fl enc l))
    (A : Option Addr) (m c : Nat) (l2 : List α) (hm : m = l2.length) (hx : a.eval x = .slice A m c) (hA : Rd w A (fl enc l2)) (hA0 : A = none → m = 0) (hlen : n + m < 1048576) (hbytes : bytes ≤ 1048576) (hbase : base ≤ w.heap.size)
    (h : ∀ v' w', w'.ownsRow base e k v' (n + m) (fl enc (l ++ l2)) → w.grownBy w' v.ownBlock → (v'.ownBlock = v.ownBlock ∨ v'.ownBlock = some w.heap.size) → wpList Tryz.prog ops Q rest (a.put o.dst v') w') : wpList Tryz.prog ops Q (o :: rest) a w :=
  wpList_plain hgd fun _ hK => wp_pushs hk hk0 h1 ht hinfo hzs s x ho v l n hn hs hown A m c l2 hm hx hA hA0 hlen hbytes hbase fun v' w' h2 h3 h4 => hK _ _ (h v' w' h2 h3 h4)
end
end Go.Proofs.YtfgkjofdgohacaaGreatDoor
namespace Go.Proofs.YtfgkjofdgohacaaGreatDoor
open Go.RowKit Go.Shelf
theorem w64 (x : Nat) (h : x < 18446744073709551616) : IntKind.u64.wrap (x : Int) = (x : Int) := by
  rw [IntKind.wrap_u64]; omega
theorem bv64 {x : Nat} (h : x < 18446744073709551616) : (BitVec.ofInt 64 (x : Int)).toNat = x := by
  rw [BitVec.ofInt_natCast, BitVec.toNat_ofNat]; exact Nat.mod_eq_of_lt h
theorem and_lt {x y : Nat} (h : x < 18446744073709551616) : x &&& y < 18446744073709551616 := Nat.lt_of_le_of_lt Nat.and_le_left h
theorem or_lt {x y : Nat} (h : x < 18446744073709551616) (k : y < 18446744073709551616) : x ||| y < 18446744073709551616 := Nat.or_lt_two_pow (n := 64) h k
theorem bits_and {x y : Nat} (hx : x < 18446744073709551616) (hy : y < 18446744073709551616) : bits .and .u64 (x : Int) (y : Int) = ((x &&& y : Nat) : Int) := by
  show IntKind.u64.wrap ((BitVec.ofInt 64 (x : Int) &&& BitVec.ofInt 64 (y : Int)).toNat : Int) = _
  rw [BitVec.toNat_and, bv64 hx, bv64 hy, w64 _ (and_lt hx)]
theorem bits_or {x y : Nat} (hx : x < 18446744073709551616) (hy : y < 18446744073709551616) : bits .or .u64 (x : Int) (y : Int) = ((x ||| y : Nat) : Int) := by
  show IntKind.u64.wrap ((BitVec.ofInt 64 (x : Int) ||| BitVec.ofInt 64 (y : Int)).toNat : Int) = _
  rw [BitVec.toNat_or, bv64 hx, bv64 hy, w64 _ (or_lt hx hy)]
/-- What of x lies above its low L bits. -/
def hiB (x L : Nat) : Nat := x &&& (18446744073709551615 - (2 ^ L - 1))
theorem hiB_zero {x L : Nat} (hx : x < 18446744073709551616) (hL : L ≤ 32) : hiB x L = 0 ↔ x < 2 ^ L := by
  have hp : 2 ^ L ≤ 4294967296 := Nat.pow_le_pow_right (n := 2) (by omega) (show L ≤ 32 by omega)
  have hp0 : 0 < 2 ^ L := Nat.two_pow_pos L
  have e : ∀ i, (hiB x L).testBit i = (x.testBit i && (decide (i < 64) && !(decide (i < L)))) := fun i => by
    unfold hiB
    rw [Nat.testBit_and, show 18446744073709551615 - (2 ^ L - 1) = 2 ^ 64 - ((2 ^ L - 1) + 1) by omega, Nat.testBit_two_pow_sub_succ (by omega), Nat.testBit_two_pow_sub_one]
  constructor
  · intro h
    refine Nat.lt_pow_two_of_testBit x fun i hi => ?_
    have h1 := e i
    rw [h, Nat.zero_testBit] at h1
    by_cases h64 : i < 64
    · simp [h64, show ¬ i < L by omega] at h1
      exact h1
    · exact Nat.testBit_lt_two_pow (Nat.lt_of_lt_of_le hx (Nat.pow_le_pow_right (n := 2) (by omega) (show 64 ≤ i by omega)))
  · intro h
    apply Nat.eq_of_testBit_eq
    intro i
    rw [e, Nat.zero_testBit]
    by_cases hi : i < L
    · simp [hi]
    · rw [Nat.testBit_lt_two_pow (Nat.lt_of_lt_of_le h (Nat.pow_le_pow_right (n := 2) (by omega) (show L ≤ i by omega)))]
      rfl
theorem bits_hi {x L : Nat} (hx : x < 18446744073709551616) (hL : L ≤ 32) : bits .andNot .u64 (x : Int) ((2 ^ L - 1 : Nat) : Int) = (hiB x L : Int) := by
  have hp : 2 ^ L ≤ 4294967296 := Nat.pow_le_pow_right (n := 2) (by omega) (show L ≤ 32 by omega)
  show IntKind.u64.wrap ((BitVec.ofInt 64 (x : Int) &&& ~~~ BitVec.ofInt 64 ((2 ^ L - 1 : Nat) : Int)).toNat : Int) = _
  rw [BitVec.toNat_and, BitVec.toNat_not, bv64 hx, bv64 (by omega)]
  exact w64 _ (and_lt hx)
theorem hiB_lt {x L : Nat} (hx : x < 18446744073709551616) : hiB x L < 18446744073709551616 := and_lt hx
theorem wrap_all {L : Nat} (hL : L ≤ 32) : IntKind.u64.wrap (IntKind.u64.wrap (2 ^ L) - 1) = ((2 ^ L - 1 : Nat) : Int) := by
  have hp : 2 ^ L ≤ 4294967296 := Nat.pow_le_pow_right (n := 2) (by omega) (show L ≤ 32 by omega)
  have hp0 : 0 < 2 ^ L := Nat.two_pow_pos L
  have e : ((2 : Int) ^ L) = ((2 ^ L : Nat) : Int) := by simp
  rw [e, w64 _ (by omega), show ((2 ^ L : Nat) : Int) - 1 = ((2 ^ L - 1 : Nat) : Int) by omega, w64 _ (by omega)]
theorem vA_get {l : List Nat} {k : Nat} (h : k < l.length) : vA l k = l[k] := by simp [vA, h]
/-- Numbers of 64 bits. -/
def FitV (l : List Nat) : Prop := ∀ i, i < l.length → vA l i < 18446744073709551616
/-- A set with a language that is none of the first L. -/
def wide (L : Nat) (x : Nat) : Bool := !decide (x < 2 ^ L)
/-- Why a table is not valid. -/
def chkT (L : Int) (has : List Nat) : Int := if L < 0 ∨ 32 < L then 3 else if 64 < has.length then 12 else if has.any (wide L.toNat) then 2 else 0
end Go.Proofs.YtfgkjofdgohacaaGreatDoor
namespace Go.Proofs.YtfgkjofdgohacaaGreatDoor
open Go Go.RowKit Go.Shelf
theorem bl_grown {a w w' : World} {row : Option Nat} (h : Below a.heap.size a w) (hg : w.grownBy w' row) (hr : ∀ k, row = some k → a.heap.size ≤ k) : Below a.heap.size a w' :=
  ⟨hg.os.trans h.os, hg.tape.trans h.tape, hg.output.trans h.output, Nat.le_trans h.size hg.size, fun k hk => (hg.block k (by have := h.size; omega) (fun e => by have := hr k e.symm; omega)).trans (h.block k hk)⟩
abbrev U64 := Fin 18446744073709551616
/-- From block n₀ on what is cells lies as it lay. -/
def KpN (n₀ : Nat) (W W' : World) : Prop := ∀ (B : Nat) (cs : Array Value) (t : TypeId) (fr : Nat × Nat), n₀ ≤ B → W.heap[B]? = some (.cells cs t fr) → W'.heap[B]? = some (.cells cs t fr)
theorem KpN.refl (n₀ : Nat) (W : World) : KpN n₀ W W := fun _ _ _ _ _ h => h
theorem KpN.trans {n₀ : Nat} {X Y Z : World} (h : KpN n₀ X Y) (k : KpN n₀ Y Z) : KpN n₀ X Z := fun B cs t fr hB hx => k B cs t fr hB (h B cs t fr hB hx)
theorem kpN_put {n₀ : Nat} (W : World) (l : Nat) (o o' : Obj) (h : W.heap[l]? = some o) (hc : o.isCells = false) : KpN n₀ W (W.putObj l o') := by
  intro B cs t fr _ hB
  have hg := grownBy_putObj' W l o'
  refine (hg.block B (Array.getElem?_eq_some_iff.1 hB).1 (fun e => ?_)).trans hB
  have := Option.some.inj e
  subst this
  rw [h] at hB
  cases hB
  cases hc
def dfs (Ds : List Nat) : List Deferred := Ds.map fun D => { target := .collected D, args := #[] }
theorem keeps_drewN (W : World) (n : Nat) : KeepsOthers W (W.drewN n) := ⟨Nat.le_refl _, fun _ _ h _ => h⟩
theorem ex_u {F : (Nat → Value) → Act} {a : Act} {p q r : Prop} (hp : p) (hq : q) (hr : r) (h : a = F (fun j => a.tmps.getD j undef)) : ∃ u, p ∧ q ∧ a = F u ∧ r := ⟨_, hp, hq, h, hr⟩
/-- w' is w, the blocks Ds turned. -/
structure Trn (Ds : List Nat) (w w' : World) : Prop where
  os : w'.os = w.os
  tape : w'.tape = w.tape
  output : w'.output = w.output
  size : w'.heap.size = w.heap.size
  block : ∀ k, k ∉ Ds → w'.heap[k]? = w.heap[k]?
theorem leaves_all {P : Program} {fn : Func} {tmps : Array Value} {R : Ending → World → Prop} : ∀ (Ds : List Nat) (w : World), Ds.Nodup → (∀ D ∈ Ds, w.heap[D]? = some (Obj.deferred (some []))) →
    (∀ w', Trn Ds w w' → ∃ v, (results fn tmps).run P w' = .ok v w' ∧ R (.returned v) w') → LeavesInM Fence.wide 10 P fn tmps R (dfs Ds) .returning w
  | [], w, _, _, h => h w ⟨rfl, rfl, rfl, rfl, fun _ _ => rfl⟩
  | D :: Ds, w, hn, hd, h => by
    have h0 := hd D List.mem_cons_self
    have hlt := (Array.getElem?_eq_some_iff.1 h0).1
    have hg := grownBy_putObj' w D (Obj.deferred none)
    have hD := (List.nodup_cons.1 hn).1
    refine ⟨by simp, .inl ⟨D, _, rfl, run_takeDeferred h0, leaves_all Ds _ (List.nodup_cons.1 hn).2 (fun D' hD' => ?_) fun w' ht => h w' ?_⟩⟩
    · have h1 := hd D' (List.mem_cons_of_mem _ hD')
      exact (hg.block D' (Array.getElem?_eq_some_iff.1 h1).1 (fun e => hD (by rw [← Option.some.inj e]; exact hD'))).trans h1
    · have hz : (w.putObj D (Obj.deferred none)).heap.size = w.heap.size := by simp [World.putObj]
      refine ⟨ht.os.trans hg.os, ht.tape.trans hg.tape, ht.output.trans hg.output, ht.size.trans hz, fun k hk => ?_⟩
      have hk1 : k ≠ D := fun e => hk (by rw [e]; exact List.mem_cons_self)
      have hk2 : k ∉ Ds := fun e => hk (List.mem_cons_of_mem _ e)
      rw [ht.block k hk2]
      by_cases hkl : k < w.heap.size
      · exact hg.block k hkl (fun e => hk1 (Option.some.inj e))
      · rw [Array.getElem?_eq_none (by rw [hz]; omega), Array.getElem?_eq_none (by omega)]
theorem Trn.below {Ds : List Nat} {a w w' : World} {B : Nat} (h : Trn Ds w w') (hb : Below B a w) (hd : ∀ D ∈ Ds, B ≤ D) : Below B a w' :=
  ⟨h.os.trans hb.os, h.tape.trans hb.tape, h.output.trans hb.output, by rw [h.size]; exact hb.size, fun k hk => (h.block k (fun e => by have := hd k e; omega)).trans (hb.block k hk)⟩
theorem Trn.owns {Ds : List Nat} {w w' : World} {base e k : Nat} {v : Value} {n : Nat} {cs : List Value} (h : Trn Ds w w') (hd : ∀ D ∈ Ds, w.heap[D]? = some (Obj.deferred (some []))) (ho : w.ownsRow base e k v n cs) : w'.ownsRow base e k v n cs := by
  refine ⟨ho.1, ?_⟩
  rcases ho.2 with h2 | ⟨g, cap, cur, hv, hg, hh, r⟩
  · exact .inl h2
  · exact .inr ⟨g, cap, cur, hv, hg, (h.block g (fun e => by have := hd g e; rw [hh] at this; cases this)).trans hh, r⟩
end Go.Proofs.YtfgkjofdgohacaaGreatDoor
namespace Go.Proofs.YtfgkjofdgohacaaGreatDoor
open Go.RowKit
/-- A byte that may be in a name. -/
def ltrI (n : Int) : Bool := decide (97 ≤ n ∧ n ≤ 122 ∨ 65 ≤ n ∧ n ≤ 90 ∨ 48 ≤ n ∧ n ≤ 57 ∨ n = 45)
set_option maxHeartbeats 4000000 in
theorem letter_any (n : Int) (w : World) (h0 : 0 ≤ n) (h1 : n ≤ 255) : Calls Tryz.prog 111 #[.int .u8 n] w fun e w' => e = .returned (.bool (ltrI n)) ∧ w' = w := by
  obtain ⟨r, hr⟩ : ∃ r, r = ltrI n := ⟨_, rfl⟩
  have HR : Hid (r = decide (97 ≤ n ∧ n ≤ 122 ∨ 65 ≤ n ∧ n ≤ 90 ∨ 48 ≤ n ∧ n ≤ 57 ∨ n = 45)) := hr
  rw [← hr]
  clear hr
  by_cases H : 97 ≤ n ∧ n ≤ 122 ∨ 65 ≤ n ∧ n ≤ 90 ∨ 48 ≤ n ∧ n ≤ 57 ∨ n = 45
  · have HV : Hid (r = true) := by show _ = _; rw [HR.out]; exact decide_eq_true H
    by_cases a7 : n = 45
    · have b1 : ¬ 97 ≤ n := by omega
      have b2 : ¬ 65 ≤ n := by omega
      have b3 : ¬ 48 ≤ n := by omega
      have b4 : (n == 45) = true := by simp [a7]
      first
        | omega
        | (clear a7 H
           go_enter Tryz.func111, Tryz.ntmps111
           go_wp2
           go_ret
           exact ⟨ret_b (by rw [HV.out]; try simp [*]), rfl⟩)
    · have b4 : (n == 45) = false := by simp [a7]
      by_cases a1 : 97 ≤ n <;> by_cases a2 : n ≤ 122 <;> by_cases a3 : 65 ≤ n <;> by_cases a4 : n ≤ 90 <;> by_cases a5 : 48 ≤ n <;> by_cases a6 : n ≤ 57
      all_goals first
        | omega
        | (clear a7 H
           go_enter Tryz.func111, Tryz.ntmps111
           go_wp2
           go_ret
           exact ⟨ret_b (by rw [HV.out]; try simp [*]), rfl⟩)
  · have HV : Hid (r = false) := by show _ = _; rw [HR.out]; exact decide_eq_false H
    by_cases a7 : n = 45
    · have b1 : ¬ 97 ≤ n := by omega
      have b2 : ¬ 65 ≤ n := by omega
      have b3 : ¬ 48 ≤ n := by omega
      have b4 : (n == 45) = true := by simp [a7]
      first
        | omega
        | (clear a7 H
           go_enter Tryz.func111, Tryz.ntmps111
           go_wp2
           go_ret
           exact ⟨ret_b (by rw [HV.out]; try simp [*]), rfl⟩)
    · have b4 : (n == 45) = false := by simp [a7]
      by_cases a1 : 97 ≤ n <;> by_cases a2 : n ≤ 122 <;> by_cases a3 : 65 ≤ n <;> by_cases a4 : n ≤ 90 <;> by_cases a5 : 48 ≤ n <;> by_cases a6 : n ≤ 57
      all_goals first
        | omega
        | (clear a7 H
           go_enter Tryz.func111, Tryz.ntmps111
           go_wp2
           go_ret
           exact ⟨ret_b (by rw [HV.out]; try simp [*]), rfl⟩)
/-- A name: 1 to 24 letters. -/
def nmB (s : ByteArray) : Bool := (s.data.toList.all fun c => ltrI c.toNat) && decide (0 < s.size) && decide (s.size ≤ 24)
set_option maxHeartbeats 1000000 in
theorem named_any (s : ByteArray) (w : World) (hs : s.size ≤ 9223372036854775807) : Calls Tryz.prog 78 #[.string s] w fun e w' => e = .returned (.bool (nmB s)) ∧ w' = w := by
  go_enter Tryz.func78, Tryz.ntmps78
  go_wp2_with fail
  go_loopw [6, 3] (fun x _ wr => ∃ k : Nat, k ≤ s.size ∧ x = .int .i64 k ∧ Hid ((s.data.toList.take k).all (fun c => ltrI c.toNat) = true) ∧ wr = w) (fun x _ _ => s.size - (intOf x).toNat)
  case atStart => exact ⟨0, by omega, rfl, rfl, rfl⟩
  case round =>
    obtain ⟨k, hk, rfl, hal, rfl⟩ := hrel
    by_cases hlt : k < s.size
    · have hts : s.data.toList.take (k + 1) = s.data.toList.take k ++ [s[k]] := by
        rw [List.take_succ_eq_append_getElem (by simpa using hlt)]; rfl
      have HNX : Hid ((s.data.toList.take (k + 1)).all (fun c => ltrI c.toNat) = ((s.data.toList.take k).all (fun c => ltrI c.toNat) && ltrI s[k].toNat)) := by
        show _ = _
        rw [hts, List.all_append]; simp
      have HNO : Hid (ltrI s[k].toNat = false → nmB s = false) := fun h => by
        have : s.data.toList.all (fun c => ltrI c.toNat) = false := by
          rw [List.all_eq_false]
          exact ⟨s[k], by exact Array.mem_toList_iff.2 (Array.getElem_mem _), by rw [h]; simp⟩
        rw [nmB, this]; rfl
      clear hts
      have hc0 : (0 : Int) ≤ (s[k].toNat : Int) := by omega
      have hc1 : (s[k].toNat : Int) ≤ 255 := by have := s[k].toNat_lt; omega
      go_wp2_with fail
      refine (letter_any _ _ hc0 hc1).mono ?_
      rintro e w' ⟨rfl, rfl⟩
      rcases Bool.eq_false_or_eq_true (ltrI s[k].toNat) with hp | hp
      · have HP := Lib.hid hp
        rw [hp]
        clear hp
        go_wp2_with fail
        go_roundw
        case rel => exact ⟨k + 1, by omega, by go_num, by show _ = _; rw [HNX.out, hal.out, HP.out]; rfl, by trivial⟩
        case measure => simp [intOf]; omega
      · have HP := Lib.hid hp
        rw [hp]
        clear hp
        go_wp2_with fail
        go_ret
        exact ⟨ret_b (HNO.out HP.out).symm, rfl⟩
    · have e : k = s.size := by omega
      have hfin : Hid (nmB s = (decide (0 < s.size) && decide (s.size ≤ 24))) := by
        have h1 := hal.out
        rw [e, List.take_of_length_le (by simp)] at h1
        show _ = _
        rw [nmB, h1]; rfl
      clear hal
      by_cases b1 : 0 < s.size
      · have b1' : decide (0 < s.size) = true := by simpa using b1
        go_wp2_with fail
        go_ret
        exact ⟨ret_b (by rw [hfin.out, b1']; simp; omega), rfl⟩
      · have b1' : decide (0 < s.size) = false := by simpa using b1
        go_wp2_with fail
        go_ret
        exact ⟨ret_b (by rw [hfin.out, b1']; simp), rfl⟩
end Go.Proofs.YtfgkjofdgohacaaGreatDoor
namespace Go.Proofs.YtfgkjofdgohacaaGreatDoor
open Go.RowKit Go.Maps
theorem law9 : Keyed Tryz.prog 9 := string_keyed Tryz.underlying9
theorem strLit_inj {s t : ByteArray} : (Lit.string s.data.toList) = Lit.string t.data.toList ↔ s = t := by
  constructor
  · intro h
    injection h with h
    exact ByteArray.ext (by rw [← Array.toList_inj]; exact h)
  · intro h; rw [h]
/-- A map's content, changed at one key. -/
def updS {α : Type} (F : ByteArray → α) (s : ByteArray) (v : α) : ByteArray → α := fun t => if t = s then v else F t
/-- Block b is a map from strings to numbers (to bools) that reads as F. -/
def MI (w : World) (b n : Nat) (F : ByteArray → Int) : Prop := ∃ D : DataW Unit, w.ownsMap Tryz.prog 9 (plainElem Tryz.prog 3) b n D ∧ ∀ s : ByteArray, D.atKey (.string s.data.toList) (.lit (.int .i64 0)) = .lit (.int .i64 (F s))
def MB (w : World) (b n : Nat) (F : ByteArray → Bool) : Prop := ∃ D : DataW Unit, w.ownsMap Tryz.prog 9 (plainElem Tryz.prog 4) b n D ∧ ∀ s : ByteArray, D.atKey (.string s.data.toList) (.lit (.bool false)) = .lit (.bool (F s))
theorem MI.made (w : World) : MI (w.alloc (.map #[] 0)) w.heap.size 0 (fun _ => 0) := ⟨_, World.ownsMap_made w _ _ _, fun _ => rfl⟩
theorem MB.made (w : World) : MB (w.alloc (.map #[] 0)) w.heap.size 0 (fun _ => false) := ⟨_, World.ownsMap_made w _ _ _, fun _ => rfl⟩
theorem MI.kept {w w' : World} {b n : Nat} {F : ByteArray → Int} {row : Option Nat} (h : MI w b n F) (hg : w.grownBy w' row) (hne : some b ≠ row) : MI w' b n F := let ⟨D, h1, h2⟩ := h; ⟨D, h1.kept hg hne, h2⟩
theorem MB.kept {w w' : World} {b n : Nat} {F : ByteArray → Bool} {row : Option Nat} (h : MB w b n F) (hg : w.grownBy w' row) (hne : some b ≠ row) : MB w' b n F := let ⟨D, h1, h2⟩ := h; ⟨D, h1.kept hg hne, h2⟩
theorem MI.alloc {w : World} {b n : Nat} {F : ByteArray → Int} (h : MI w b n F) (o : Obj) : MI (w.alloc o) b n F := let ⟨D, h1, h2⟩ := h; ⟨D, h1.alloc o, h2⟩
theorem MB.alloc {w : World} {b n : Nat} {F : ByteArray → Bool} (h : MB w b n F) (o : Obj) : MB (w.alloc o) b n F := let ⟨D, h1, h2⟩ := h; ⟨D, h1.alloc o, h2⟩
theorem MI.lt {w : World} {b n : Nat} {F : ByteArray → Int} (h : MI w b n F) : b < w.heap.size := let ⟨_, h1, _⟩ := h; h1.lt
theorem MB.lt {w : World} {b n : Nat} {F : ByteArray → Bool} (h : MB w b n F) : b < w.heap.size := let ⟨_, h1, _⟩ := h; h1.lt
theorem MI.bl {w w' : World} {b n : Nat} {F : ByteArray → Int} (h : MI w b n F) (hb : Below w.heap.size w w') : MI w' b n F := by
  obtain ⟨D, ⟨es, clock, h1, h2⟩, h3⟩ := h
  exact ⟨D, ⟨es, clock, (hb.block b (Array.getElem?_eq_some_iff.1 h1).1).trans h1, h2⟩, h3⟩
theorem MB.bl {w w' : World} {b n : Nat} {F : ByteArray → Bool} (h : MB w b n F) (hb : Below w.heap.size w w') : MB w' b n F := by
  obtain ⟨D, ⟨es, clock, h1, h2⟩, h3⟩ := h
  exact ⟨D, ⟨es, clock, (hb.block b (Array.getElem?_eq_some_iff.1 h1).1).trans h1, h2⟩, h3⟩
theorem plainElem_bool_inv {H : Type} {P : Program} {e : TypeId} (he : P.underlying e = some .bool) {v : Value} {z : DataW H × List MemPlace} (h : plainElem P e v = some z) : ∃ x, v = .bool x ∧ z = (.lit (.bool x), []) := by
  unfold plainElem at h
  rw [he] at h
  cases v <;> simp at h
  exact ⟨_, rfl, h.symm⟩
theorem zero3 (w : World) : (zeroValue 3).run Tryz.prog w = .ok (.int .i64 0) w := by kernel_rfl
theorem zero4 (w : World) : (zeroValue 4).run Tryz.prog w = .ok (.bool false) w := by kernel_rfl
theorem MI.look {w : World} {b n t : Nat} {F : ByteArray → Int} (h : MI w b n F) (ht : Tryz.prog.underlying t = some (.map 9 3)) (s : ByteArray) (hs : s.size ≤ maxLen) : (Instr.lookup t (.map (some b)) (.string s) false).run Tryz.prog w = .ok (.int .i64 (F s)) w := by
  obtain ⟨D, h1, h2⟩ := h
  obtain ⟨c, hrun, hat, _⟩ := h1.lookup_int law9 ht Tryz.underlying3 (zero3 w) (Go.WideMaps.keyOf_string_mk Tryz.underlying9 hs)
  have e := (h2 s).symm.trans hat
  simp only [DataW.lit.injEq, Lit.int.injEq, true_and] at e
  rw [e]; exact hrun
theorem MB.look {w : World} {b n t : Nat} {F : ByteArray → Bool} (h : MB w b n F) (ht : Tryz.prog.underlying t = some (.map 9 4)) (s : ByteArray) (hs : s.size ≤ maxLen) : (Instr.lookup t (.map (some b)) (.string s) false).run Tryz.prog w = .ok (.bool (F s)) w := by
  obtain ⟨D, h1, h2⟩ := h
  obtain ⟨v, ps, hrun, hv⟩ := h1.lookup law9 ht (zero4 w) (plainElem_bool Tryz.underlying4 false) (Go.WideMaps.keyOf_string_mk Tryz.underlying9 hs)
  obtain ⟨x, rfl, hz⟩ := plainElem_bool_inv Tryz.underlying4 hv
  have e := (h2 s).symm.trans (congrArg Prod.fst hz)
  simp only [DataW.lit.injEq, Lit.bool.injEq] at e
  rw [e]; exact hrun
theorem wpList_putI {w : World} {ops : Array Oper} {rest : List Oper} {o : Oper} {a : Act} {Q : Exit → Act → World → Prop} (hg : o.guard = none) (m x v : Operand) (t : TypeId) (hop : o.op = Op.mapUpdate t m x v) (ht : Tryz.prog.underlying t = some (.map 9 3)) {b n : Nat} {F : ByteArray → Int} (hm : a.eval m = .map (some b)) (h : MI w b n F) (hn : n < 1048576)
    (s : ByteArray) (hx : a.eval x = .string s) (c : Int) (hv : a.eval v = .int .i64 c) (hs : s.size ≤ maxLen) (hc : (Lit.int .i64 c).wf = true) (hK : ∀ w', MI w' b (n + 1) (updS F s c) → w.grownBy w' (some b) → wpList Tryz.prog ops Q rest (a.put o.dst undef) w') : wpList Tryz.prog ops Q (o :: rest) a w := by
  obtain ⟨D, h1, h2⟩ := h
  have hkey := Go.WideMaps.keyOf_string_mk (P := Tryz.prog) Tryz.underlying9 hs
  refine wpList_mapUpdate_own w hg m x v t hop 9 3 law9 ht _ b n D hm h1 (by unfold maxLen; omega) _ _ _ hx hv hkey _ [] (plainElem_int Tryz.underlying3 hc) fun w' h3 h4 => hK w' ⟨_, h3, fun r => ?_⟩ h4
  unfold updS
  by_cases e : r = s
  · subst e; rw [if_pos rfl]; exact atKey_put_same h1.isMap (law9.key hkey) _ _
  · rw [if_neg e, atKey_put_other (fun e2 => e (strLit_inj.1 e2))]; exact h2 r
theorem wpList_putB {w : World} {ops : Array Oper} {rest : List Oper} {o : Oper} {a : Act} {Q : Exit → Act → World → Prop} (hg : o.guard = none) (m x v : Operand) (t : TypeId) (hop : o.op = Op.mapUpdate t m x v) (ht : Tryz.prog.underlying t = some (.map 9 4)) {b n : Nat} {F : ByteArray → Bool} (hm : a.eval m = .map (some b)) (h : MB w b n F) (hn : n < 1048576)
    (s : ByteArray) (hx : a.eval x = .string s) (c : Bool) (hv : a.eval v = .bool c) (hs : s.size ≤ maxLen) (hK : ∀ w', MB w' b (n + 1) (updS F s c) → w.grownBy w' (some b) → wpList Tryz.prog ops Q rest (a.put o.dst undef) w') : wpList Tryz.prog ops Q (o :: rest) a w := by
  obtain ⟨D, h1, h2⟩ := h
  have hkey := Go.WideMaps.keyOf_string_mk (P := Tryz.prog) Tryz.underlying9 hs
  refine wpList_mapUpdate_own w hg m x v t hop 9 4 law9 ht _ b n D hm h1 (by unfold maxLen; omega) _ _ _ hx hv hkey _ [] (plainElem_bool Tryz.underlying4 c) fun w' h3 h4 => hK w' ⟨_, h3, fun r => ?_⟩ h4
  unfold updS
  by_cases e : r = s
  · subst e; rw [if_pos rfl]; exact atKey_put_same h1.isMap (law9.key hkey) _ _
  · rw [if_neg e, atKey_put_other (fun e2 => e (strLit_inj.1 e2))]; exact h2 r
end Go.Proofs.YtfgkjofdgohacaaGreatDoor
namespace Go.Proofs.YtfgkjofdgohacaaGreatDoor
open Go.RowKit Go.Maps
/-- The names of the first k nodes. -/
def seenB (t : List Nd) (k : Nat) (s : ByteArray) : Bool := (List.range k).any fun u => decide (nS t u = s)
theorem seenB_next (t : List Nd) (k : Nat) : updS (seenB t k) (nS t k) true = seenB t (k + 1) := by
  funext s
  unfold updS seenB
  rw [List.range_succ, List.any_append]
  by_cases e : s = nS t k
  · subst e; simp
  · have e2 : ¬ nS t k = s := fun h => e h.symm
    simp [e, e2]
/-- Node v is valid. -/
def NodeOk (t : List Nd) (v : Nat) : Prop := nP t v < v ∧ (if v = 0 then -1 else 0) ≤ nP t v ∧ nmB (nS t v) = true ∧ seenB t v (nS t v) = false
instance (t : List Nd) (v : Nat) : Decidable (NodeOk t v) := by unfold NodeOk; infer_instance
def TreeOk (t : List Nd) : Prop := 1 ≤ t.length ∧ t.length ≤ 63 ∧ ∀ v, v < t.length → NodeOk t v
instance (t : List Nd) : Decidable (TreeOk t) := by unfold TreeOk; infer_instance
def chkE (t : List Nd) : Int := if TreeOk t then 0 else 16
set_option maxRecDepth 100000 in
set_option maxHeartbeats 2000000 in
theorem check_any (a : Option Addr) (n c : Nat) (t : List Nd) (w : World) (hn : t.length = n) (hN : n ≤ 1152921504606846976) (hA : Rd w a (fl encNd t)) (hS : ∀ v, v < n → (nS t v).size ≤ 9223372036854775807) :
    Calls Tryz.prog 36 #[.slice a n c] w fun e w' => e = .returned (.int .i64 (chkE t)) ∧ Below w.heap.size w w' := by
  have HN := Lib.hid hn
  have HS := Lib.hid hS
  have HBAD : Hid (∀ v, v < n → ¬ NodeOk t v → chkE t = 16) := fun v hv h => if_neg fun h2 => h (h2.2.2 v (by rw [hn]; exact hv))
  clear hS
  by_cases h0 : n = 0
  · have he := Lib.hid (show chkE t = 16 from if_neg (by unfold TreeOk; omega))
    have hb : ((n : Int) == 0) = true := by simp; omega
    clear hn h0
    go_enter Tryz.func36, Tryz.ntmps36
    go_wp2_with fail
    go_ret
    exact ⟨by rw [he.out]; try rfl, Below.refl _ _⟩
  · have hb : ((n : Int) == 0) = false := by simp; omega
    by_cases h1 : 63 < n
    · have he := Lib.hid (show chkE t = 16 from if_neg (by unfold TreeOk; omega))
      clear hn h0
      go_enter Tryz.func36, Tryz.ntmps36
      go_wp2_with fail
      go_ret
      exact ⟨by rw [he.out]; try rfl, Below.refl _ _⟩
    · have hd : decide (63 < n) = false := by simpa using h1
      have hn63 : n ≤ 63 := by omega
      have hn1 : 1 ≤ n := by omega
      have HOK : Hid ((∀ v, v < n → NodeOk t v) → chkE t = 0) := fun h => if_pos ⟨by omega, by omega, fun v hv => h v (by omega)⟩
      have hmm := @run_makeMap Tryz.prog
      clear hn h0 h1
      go_enter Tryz.func36, Tryz.ntmps36
      go_wp2_with fail
      have hm0 : MB (w.alloc (.map #[] 0)) w.heap.size 0 (seenB t 0) := MB.made w
      have hb0 := bl_alloc (Below.refl _ w) (.map #[] 0)
      go_loopw [17, 4, 5] (fun x _ _ wr => ∃ k : Nat, k ≤ n ∧ x = .int .i64 k ∧ Hid (∀ v, v < k → NodeOk t v) ∧ MB wr w.heap.size k (seenB t k) ∧ Below w.heap.size w wr) (fun x _ _ _ => n - (intOf x).toNat)
      case atStart => exact ⟨0, by omega, rfl, fun v h => absurd h (by omega), hm0, hb0⟩
      case round =>
        obtain ⟨k, hk, rfl, hok, hmb, hbl⟩ := hrel
        clear hm0 hb0 hmm
        by_cases hlt : k < n
        · obtain ⟨b, o, rfl, _, hc⟩ := rdNd (hA.bl hbl) (by rw [HN.out]; omega)
          obtain ⟨g0, g1⟩ := hc k (by rw [HN.out]; omega)
          have hlk0 := hmb.lt
          have hsz := HS.out k hlt
          have hno := Lib.hid (HBAD.out k hlt)
          have HND : Hid (NodeOk t k ↔ nP t k < k ∧ (if k = 0 then -1 else 0) ≤ nP t k ∧ nmB (nS t k) = true ∧ seenB t k (nS t k) = false) := Iff.rfl
          have hnx := Lib.hid (seenB_next t k)
          have hnm := fun w' => named_any (nS t k) w' hsz
          have HNM := Lib.hid hnm
          have HLK : Hid (∀ w', MB w' w.heap.size k (seenB t k) → (Instr.lookup 107 (.map (some w.heap.size)) (.string (nS t k)) false).run Tryz.prog w' = .ok (.bool (seenB t k (nS t k))) w') := fun w' h => h.look Tryz.underlying107 _ (by unfold maxLen; omega)
          clear hc hnm
          generalize nP t k = p at *
          obtain ⟨s, hs⟩ : ∃ s, s = nS t k := ⟨_, rfl⟩
          rw [← hs] at g1 hsz HND hnx HNM HLK
          obtain ⟨sb, hsb⟩ : ∃ sb, sb = seenB t k s := ⟨_, rfl⟩
          rw [← hsb] at HND HLK
          have hmb1 := hmb.alloc (.cells #[.int .i64 p, .string s] 56)
          have hlk := HLK.out _ hmb1
          have hbl1 := bl_alloc hbl (.cells #[.int .i64 p, .string s] 56)
          have HSS := Lib.hid hs
          clear hs hsb
          by_cases a1 : (k : Int) ≤ p
          · have he := Lib.hid (hno.out (fun h => by have := (HND.out.1 h).1; omega))
            go_wp2_with fail
            go_ret
            exact ⟨by rw [he.out]; try rfl, hbl1⟩
          · by_cases hk0 : k = 0
            · have hk1 : (k : Int) < 1 := by omega
              have hk2 : (k : Int) - 1 < 0 := by omega
              have HK0 := Lib.hid hk0
              clear hk0
              by_cases a2 : p < (k : Int) - 1
              · have he := Lib.hid (hno.out (fun h => by have := (HND.out.1 h).2.1; rw [if_pos HK0.out] at this; have := HK0.out; omega))
                go_wp2_with fail
                go_ret
                exact ⟨by rw [he.out]; try rfl, hbl1⟩
              · rcases Bool.eq_false_or_eq_true (nmB s) with hp | hp
                · have HP := Lib.hid hp
                  clear hp
                  cases sb with
                  | true =>
                    have he := Lib.hid (hno.out (fun h => by have := (HND.out.1 h).2.2.2; cases this))
                    go_wp2_with (go_at_call 78; refine (HNM.out _).mono ?_; rintro e w' ⟨rfl, rfl⟩; rw [HP.out])
                    go_ret
                    exact ⟨by rw [he.out]; try rfl, hbl1⟩
                  | false =>
                    have hok2 : Hid (∀ v, v < k + 1 → NodeOk t v) := fun v hv => by
                      by_cases e : v = k
                      · rw [e]; exact HND.out.2 ⟨by omega, by rw [if_pos HK0.out]; have := HK0.out; omega, HP.out, rfl⟩
                      · exact hok.out v (by omega)
                    go_wp2_with (first | (go_at_call 78; refine (HNM.out _).mono ?_; rintro e w' ⟨rfl, rfl⟩; rw [HP.out]) | (refine wpList_putB rfl (.tmp 46) (.tmp 48) (.const (.bool true)) 107 rfl Tryz.underlying107 rfl hmb1 (by omega) s rfl true rfl (by unfold maxLen; omega) ?_; intro w8 hm8 hg8))
                    rw [hnx.out] at hm8
                    have hbl8 := Below.grown hbl1 hg8 (by have := hbl1.size; omega) (fun r hr => by rw [← Option.some.inj hr]; exact Nat.le_refl _)
                    go_wp2_with fail
                    go_roundw
                    case rel => exact ⟨k + 1, by omega, by go_num, hok2, hm8, hbl8⟩
                    case measure => simp [intOf]; omega
                · have HP := Lib.hid hp
                  have he := Lib.hid (hno.out (fun h => by have := (HND.out.1 h).2.2.1; rw [hp] at this; cases this))
                  clear hp
                  go_wp2_with (go_at_call 78; refine (HNM.out _).mono ?_; rintro e w' ⟨rfl, rfl⟩; rw [HP.out])
                  go_ret
                  exact ⟨by rw [he.out]; try rfl, hbl1⟩
            · have hk1 : (1 : Int) ≤ k := by omega
              have hk2 : (0 : Int) ≤ (k : Int) - 1 := by omega
              have HK0 := Lib.hid hk0
              clear hk0
              by_cases hk3 : (k : Int) ≤ 1
              all_goals
                by_cases a2 : p < 0
                · have he := Lib.hid (hno.out (fun h => by have := (HND.out.1 h).2.1; rw [if_neg HK0.out] at this; omega))
                  go_wp2_with fail
                  go_ret
                  exact ⟨by rw [he.out]; try rfl, hbl1⟩
                · rcases Bool.eq_false_or_eq_true (nmB s) with hp | hp
                  · have HP := Lib.hid hp
                    clear hp
                    cases sb with
                    | true =>
                      have he := Lib.hid (hno.out (fun h => by have := (HND.out.1 h).2.2.2; cases this))
                      go_wp2_with (go_at_call 78; refine (HNM.out _).mono ?_; rintro e w' ⟨rfl, rfl⟩; rw [HP.out])
                      go_ret
                      exact ⟨by rw [he.out]; try rfl, hbl1⟩
                    | false =>
                      have hok2 : Hid (∀ v, v < k + 1 → NodeOk t v) := fun v hv => by
                        by_cases e : v = k
                        · rw [e]; exact HND.out.2 ⟨by omega, by rw [if_neg HK0.out]; omega, HP.out, rfl⟩
                        · exact hok.out v (by omega)
                      go_wp2_with (first | (go_at_call 78; refine (HNM.out _).mono ?_; rintro e w' ⟨rfl, rfl⟩; rw [HP.out]) | (refine wpList_putB rfl (.tmp 46) (.tmp 48) (.const (.bool true)) 107 rfl Tryz.underlying107 rfl hmb1 (by omega) s rfl true rfl (by unfold maxLen; omega) ?_; intro w8 hm8 hg8))
                      rw [hnx.out] at hm8
                      have hbl8 := Below.grown hbl1 hg8 (by have := hbl1.size; omega) (fun r hr => by rw [← Option.some.inj hr]; exact Nat.le_refl _)
                      go_wp2_with fail
                      go_roundw
                      case rel => exact ⟨k + 1, by omega, by go_num, hok2, hm8, hbl8⟩
                      case measure => simp [intOf]; omega
                  · have HP := Lib.hid hp
                    have he := Lib.hid (hno.out (fun h => by have := (HND.out.1 h).2.2.1; rw [hp] at this; cases this))
                    clear hp
                    go_wp2_with (go_at_call 78; refine (HNM.out _).mono ?_; rintro e w' ⟨rfl, rfl⟩; rw [HP.out])
                    go_ret
                    exact ⟨by rw [he.out]; try rfl, hbl1⟩
        · have : k = n := by omega
          subst this
          have he := Lib.hid (HOK.out hok.out)
          go_wp2_with fail
          go_ret
          exact ⟨by rw [he.out]; try rfl, hbl⟩
end Go.Proofs.YtfgkjofdgohacaaGreatDoor
namespace Go.Proofs.YtfgkjofdgohacaaGreatDoor
open Go.RowKit Go.Shelf
theorem iA_get {l : List Int} {k : Nat} (h : k < l.length) : iA l k = l[k] := by simp [iA, h]
def iN (l : List Nat) : List Int := l.map fun x : Nat => (x : Int)
theorem iN_len (l : List Nat) : (iN l).length = l.length := by simp [iN]
theorem iN_snoc (l : List Nat) (x : Nat) : iN (l ++ [x]) = iN l ++ [(x : Int)] := by simp [iN]
theorem iN_get (l : List Nat) (k : Nat) : iA (iN l) k = (vA l k : Int) := by
  unfold iA iN vA
  rw [List.getD_eq_getElem?_getD, List.getD_eq_getElem?_getD, List.getElem?_map]
  cases l[k]? <;> rfl
end Go.Proofs.YtfgkjofdgohacaaGreatDoor
namespace Go.Proofs.YtfgkjofdgohacaaGreatDoor
open Go.RowKit
def slR (x : Rw) : Value := .slice x.1 x.2.1 x.2.2
/-- Block g has n rows; row i is the list S i, in a block of its own or nil. -/
structure FamW (w : World) (base g n : Nat) (S : Nat → List Nat) (rs : Nat → Rw) : Prop where
  rows : w.ownsRow base 30 1 (.slice (some ⟨g, 0, none⟩) n n) n (fl encR ((List.range n).map rs))
  row : ∀ i, i < n → w.ownsRow base 3 1 (slR (rs i)) (S i).length (fl encI (iN (S i)))
  len : ∀ i, i < n → (rs i).2.1 = (S i).length
  dis : ∀ i j, i < n → j < n → i ≠ j → (slR (rs i)).ownBlock = none ∨ (slR (rs i)).ownBlock ≠ (slR (rs j)).ownBlock
  far : ∀ i, i < n → (slR (rs i)).ownBlock ≠ some g
theorem setR_put {n i : Nat} {rs : Nat → Rw} (x : Rw) (hi : i < n) : ((List.range n).map rs).set i x = (List.range n).map fun j => if j = i then x else rs j := by
  apply List.ext_getElem?
  intro j
  by_cases hj : j < n
  · by_cases e : j = i
    · subst e; simp [hj]
    · rw [List.getElem?_set_ne (by omega)]
      simp [hj, e]
  · simp [hj]
theorem fl_setR (l : List Rw) (k : Nat) (x : Rw) : (fl encR l).set k (.slice x.1 x.2.1 x.2.2) = fl encR (l.set k x) := by
  induction l generalizing k with
  | nil => simp [fl]
  | cons y l ih =>
    have e : ∀ y l, fl encR (y :: l) = .slice y.1 y.2.1 y.2.2 :: fl encR l := fun y l => by simp [fl, encR]
    cases k with
    | zero => simp [e]
    | succ k => simp only [e, List.set_cons_succ]; rw [ih]
theorem grown_set (w : World) (b o : Nat) (u : Value) : w.grownBy (w.setCell ⟨b, o, none⟩ u) (some b) := ⟨rfl, rfl, rfl, by simp [World.setCell], fun k _ hne => Below.heap_setCell w ⟨b, o, none⟩ u k (fun e => hne (by rw [e]))⟩
section
variable {w w' : World} {base g n : Nat} {S : Nat → List Nat} {rs : Nat → Rw}
theorem FamW.cell (h : FamW w base g n S rs) {i : Nat} (hi : i < n) : w.cell? ⟨g, i, none⟩ = some (slR (rs i)) := by
  obtain ⟨b, o, e, _, hc⟩ := rdR (rd_of_owns h.rows) (by simp; omega)
  simp only [Option.some.injEq, Addr.mk.injEq, and_true] at e
  obtain ⟨rfl, rfl⟩ := e
  have := hc i (by simpa using hi)
  rw [Nat.zero_add] at this
  rw [this]
  simp [rA, rN, rC, hi, slR]
theorem FamW.bl (h : FamW w base g n S rs) (hb : Below w.heap.size w w') : FamW w' base g n S rs := ⟨owns_below h.rows hb, fun i hi => owns_below (h.row i hi) hb, h.len, h.dis, h.far⟩
/-- Row i grew: it is x now, and its cell is laid anew. -/
theorem FamW.grow (h : FamW w base g n S rs) {i : Nat} (hi : i < n) {x : Rw} {X : List Nat} (hg : w.grownBy w' (slR (rs i)).ownBlock) (hx : w'.ownsRow base 3 1 (slR x) X.length (fl encI (iN X))) (hl : x.2.1 = X.length)
    (hb : (slR x).ownBlock = (slR (rs i)).ownBlock ∨ ∃ b, (slR x).ownBlock = some b ∧ w.heap.size ≤ b) :
    FamW (w'.setCell ⟨g, i, none⟩ (slR x)) base g n (fun j => if j = i then X else S j) (fun j => if j = i then x else rs j) := by
  have hgs : g < w.heap.size := (h.rows.lt g rfl).2
  have hxg : (slR x).ownBlock ≠ some g := by
    rcases hb with hb | ⟨b, hb, hb2⟩
    · rw [hb]; exact h.far i hi
    · rw [hb]; intro e; have := Option.some.inj e; omega
  have hother : ∀ j, j < n → j ≠ i → (slR (rs j)).ownBlock = none ∨ (slR (rs j)).ownBlock ≠ (slR x).ownBlock := fun j hj hji => by
    rcases h.dis j i hj hi hji with h1 | h1
    · exact .inl h1
    · rcases hb with hb | ⟨b, hb, hb2⟩
      · right; rw [hb]; exact h1
      · cases hq : (slR (rs j)).ownBlock with
        | none => exact .inl rfl
        | some k =>
          right
          rw [hb]
          intro e
          have := ((h.row j hj).lt k hq).2
          have := Option.some.inj e
          omega
  refine ⟨?_, fun j hj => ?_, fun j hj => ?_, fun j k hj hk hjk => ?_, fun j hj => ?_⟩
  · have h0 := h.rows.kept hg (.inr (fun e => h.far i hi e.symm))
    have h1 := (World.ownsRow.stored h0 i (slR x)).1
    unfold slR at h1
    rw [fl_setR, setR_put x hi] at h1
    exact h1
  · by_cases e : j = i
    · subst e
      simp only [if_true]
      exact ownsRow_setCell_other (a := ⟨g, j, none⟩) hx hxg _
    · simp only [if_neg e]
      exact ownsRow_setCell_other (a := ⟨g, i, none⟩) ((h.row j hj).kept hg (h.dis j i hj hi e)) (h.far j hj) _
  · by_cases e : j = i
    · simp only [if_pos e]; exact hl
    · simp only [if_neg e]; exact h.len j hj
  · by_cases e : j = i
    · have e2 : k ≠ i := by omega
      simp only [if_pos e, if_neg e2]
      rcases hother k hk e2 with h1 | h1
      · cases hq : (slR x).ownBlock with
        | none => exact .inl rfl
        | some q => right; rw [h1]; intro e; cases e
      · exact .inr (Ne.symm h1)
    · by_cases e2 : k = i
      · simp only [if_neg e, if_pos e2]; exact hother j hj e
      · simp only [if_neg e, if_neg e2]; exact h.dis j k hj hk hjk
  · by_cases e : j = i
    · simp only [if_pos e]; exact hxg
    · simp only [if_neg e]; exact h.far j hj
/-- The rows when they are made. -/
theorem FamW.made (w : World) (base n : Nat) (hb : base ≤ w.heap.size) (hn : n ≤ maxLen) : FamW (w.alloc (.cells (madeCells #[.slice none 0 0] n) 30)) base w.heap.size n (fun _ => []) (fun _ => (none, 0, 0)) := by
  refine ⟨?_, fun i hi => World.ownsRow_nil _ _ _ _, fun i hi => rfl, fun _ _ _ _ _ => .inl rfl, fun i hi => by intro e; cases e⟩
  have h := owns_made (w := w) (base := base) (e := 30) (k := 1) (n := n) (cs := madeCells #[.slice none 0 0] n) hb (by simp [madeCells]) hn
  have e : (madeCells #[Value.slice none 0 0] n).toList = fl encR ((List.range n).map fun _ => ((none, 0, 0) : Rw)) := by
    have h2 := made_cells encR 1 (fun _ => rfl) (by omega) (none, 0, 0) n
    rw [Nat.mul_one] at h2
    rw [show (List.range n).map (fun _ => ((none, 0, 0) : Rw)) = List.replicate n (none, 0, 0) by simp [List.map_const']]
    exact h2
  rw [e] at h
  exact h
end
/-- Node u is a child of node v. -/
def kidB (t : List Nd) (v u : Nat) : Bool := decide (0 < u) && decide (nP t u = (v : Int))
/-- The children of v among the first k nodes. -/
def famL (t : List Nd) (k v : Nat) : List Nat := (List.range k).filter (kidB t v)
theorem famL_snoc (t : List Nd) (k v : Nat) : famL t (k + 1) v = famL t k v ++ (if kidB t v k then [k] else []) := by
  unfold famL
  rw [List.range_succ, List.filter_append]
  congr 1
  by_cases q : kidB t v k <;> simp [q]
theorem famL_le (t : List Nd) (k v : Nat) : (famL t k v).length ≤ k := by
  have := List.length_filter_le (kidB t v) (List.range k)
  simpa [famL] using this
set_option maxRecDepth 100000 in
set_option maxHeartbeats 4000000 in
theorem families_any (a : Option Addr) (n c : Nat) (t : List Nd) (w : World) (hn : t.length = n) (hN : n ≤ 64) (hA : Rd w a (fl encNd t)) (hP : ∀ v, 0 < v → v < n → 0 ≤ nP t v ∧ nP t v < n) :
    Calls Tryz.prog 82 #[.slice a n c] w fun e w' => ∃ g rs, e = .returned (.slice (some ⟨g, 0, none⟩) n n) ∧ FamW w' w.heap.size g n (fun v => famL t n v) rs ∧ Below w.heap.size w w' := by
  have HN := Lib.hid hn
  have HA := Lib.hid hA
  have HP := Lib.hid hP
  obtain ⟨i0, hi0, hz0, hz1, hz2⟩ := info_parts info_R
  have hmk := run_make (P := Tryz.prog) w 113 30 i0 _ Tryz.underlying113 hi0 hz0 .i64 .i64 (n : Int) (n : Int) (by omega) (by omega) (by rw [hz2]; omega) (by omega)
  simp only [hz1, Int.toNat_natCast, Nat.mul_one] at hmk
  have hF0 := FamW.made w w.heap.size n (Nat.le_refl _) (by unfold maxLen; omega)
  have hb0 := bl_alloc (Below.refl _ w) (.cells (madeCells #[.slice none 0 0] n) 30)
  have HF0 := Lib.hid hF0
  have HB0 := Lib.hid hb0
  clear hi0 hz0 hz1 hz2 hn hA hP hF0 hb0
  go_enter Tryz.func82, Tryz.ntmps82
  go_upto_region 2 with fail
  obtain ⟨g, hg⟩ : ∃ x, x = w.heap.size := ⟨_, rfl⟩
  obtain ⟨w1, hw1⟩ : ∃ x, x = w.alloc (.cells (madeCells #[.slice none 0 0] n) 30) := ⟨_, rfl⟩
  rw [← hw1] at HF0 HB0 ⊢
  rw [← hg] at HF0 HB0 ⊢
  have HG := Lib.hid hg
  clear hw1 hg hmk
  go_wp2_with fail
  go_loopw [11] (fun x wr => ∃ k : Nat, k ≤ n ∧ x = .int .i64 k ∧ ∃ rs, Hid (FamW wr g g n (fun v => famL t k v) rs) ∧ Hid (Below g w wr)) (fun x _ => n - (intOf x).toNat)
  case atStart => exact ⟨0, by omega, rfl, _, HF0, HB0⟩
  case round =>
    clear HF0 HB0
    obtain ⟨k, hk, rfl, rs, hF, hbl⟩ := hrel
    by_cases hlt : k < n
    · obtain ⟨b, o, rfl, hb, hc⟩ := rdNd HA.out (by rw [HN.out]; omega)
      obtain ⟨G0, G1⟩ := hc k (by rw [HN.out]; exact hlt)
      rw [← HG.out] at hb
      have G0' := (hbl.out.cell (p := ⟨b, o + k * 2, none⟩) hb).trans G0
      have G1' := (hbl.out.cell (p := ⟨b, o + k * 2 + 1, none⟩) hb).trans G1
      have hsn : Hid (∀ v, famL t (k + 1) v = famL t k v ++ (if kidB t v k then [k] else [])) := fun v => famL_snoc t k v
      have HPK := Lib.hid (HP.out k)
      have hkd : Hid (∀ v, kidB t v k = (decide (0 < k) && decide (nP t k = (v : Int)))) := fun v => rfl
      clear hc G0 G1
      generalize nP t k = P at *
      generalize nS t k = s at *
      by_cases h0 : k = 0
      · have hfam : Hid ((fun v => famL t (k + 1) v) = fun v => famL t k v) := by
          show _ = _
          funext v
          rw [hsn.out, hkd.out, decide_eq_false (by omega)]
          simp
        have d1 : decide (0 < k) = false := by simp; omega
        clear h0
        go_wp2_with fail
        go_roundw
        case rel => exact ⟨k + 1, by omega, by go_num, rs, by rw [hfam.out]; exact hF.out.bl (bl_alloc (Below.refl _ _) _), hbl.out.trans ((bl_alloc (Below.refl _ wr) _).mono (by have := hbl.out.size; have := HG.out; omega))⟩
        case measure => simp [intOf]; omega
      · have h00 : 0 < k := by omega
        obtain ⟨hp0, hpn⟩ := HPK.out h00 hlt
        obtain ⟨p, rfl⟩ : ∃ p : Nat, P = p := ⟨P.toNat, by omega⟩
        have hpn' : p < n := by omega
        have d1 : decide (0 < k) = true := by simpa using h00
        clear h0 hp0 hpn
        go_upto_region 6 with fail
        have hF2 := hF.out.bl (bl_alloc (Below.refl _ wr) (.cells #[.int .i64 p, .string s] 56))
        have hbl2 : Below g w (wr.alloc (.cells #[.int .i64 p, .string s] 56)) := hbl.out.trans ((bl_alloc (Below.refl _ wr) _).mono (by have := hbl.out.size; have := HG.out; omega))
        have hX := Blk.new wr #[.int .i64 p, .string s] 56
        obtain ⟨X, hXe⟩ : ∃ x, x = wr.heap.size := ⟨_, rfl⟩
        have hz2 : (wr.alloc (.cells #[.int .i64 p, .string s] 56)).heap.size = X + 1 := by rw [hXe]; simp
        have hgX : g < X := by rw [hXe]; exact (hF.out.rows.lt g rfl).2
        obtain ⟨w2, hw2⟩ : ∃ x, x = wr.alloc (.cells #[.int .i64 p, .string s] 56) := ⟨_, rfl⟩
        rw [← hw2] at hF2 hbl2 hX hz2 ⊢
        rw [← hXe] at hX ⊢
        have HXE := Lib.hid hXe
        have HRL : Hid (∀ q, (slR (rs p)).ownBlock = some q → q < X) := fun q hq => by rw [hXe]; exact ((hF.out.row p hpn').lt q hq).2
        clear hw2 hXe G0' G1' hF hbl hb
        have c0 : w2.cell? ⟨X, 0, none⟩ = some (.int .i64 p) := hX.cell 0
        have c1 := hF2.cell hpn'
        obtain ⟨⟨A, m, cp⟩, hx⟩ : ∃ x, x = rs p := ⟨_, rfl⟩
        have hm : m = (famL t k p).length := by have := hF2.len p hpn'; rw [← hx] at this; exact this
        have hrow := hF2.row p hpn'
        have hfar := hF2.far p hpn'
        rw [← hx] at c1 hrow hfar
        have c1' : w2.cell? ⟨g, p, none⟩ = some (.slice A m cp) := c1
        have HM := Lib.hid hm
        have hm64 : m ≤ 64 := by have := famL_le t k p; omega
        have HX := Lib.hid hX
        have HXX := Lib.hid hx
        have HF2 := Lib.hid hF2
        have HB2 := Lib.hid hbl2
        have HROW := Lib.hid hrow
        have HFAR := Lib.hid hfar
        clear c1 hm hX hx hF2 hbl2 hrow hfar
        refine wp_region_order (S := fun w' => w'.cell? ⟨X, 0, none⟩ = some (.int .i64 p) ∧ w'.cell? ⟨g, p, none⟩ = some (.slice A m cp)) 11 [0,1,2,3,4,5,6,7,8] [9,10] (by kernel_rfl) (by kernel_rfl) ⟨c0, c1'⟩ ?_
        iterate 9 (refine headT_cons (by rfl) (by rfl) (by intro w hSw; obtain ⟨s0, s1⟩ := hSw; go_simp; try rfl) ?_; simp only [Act.put, List.setIfInBounds_toArray, List.set_cons_zero, List.set_cons_succ])
        refine headT_nil ?_
        obtain ⟨w4, hw4⟩ : ∃ x, x = w2.drew := ⟨_, rfl⟩
        rw [← hw4]
        have hb4 : Below w2.heap.size w2 w4 := by rw [hw4]; exact bl_drewN (Below.refl _ _) 1
        have hz4 : w4.heap.size = X + 1 := by rw [hw4]; exact hz2
        clear hw4
        refine midT_cons (by rfl) (fun K hK => ?_)
        rw [if_pos (by rfl)]
        go_simp
        have hb5 := bl_alloc hb4 (.cells #[.int .i64 k] 3)
        have hN5 := Blk.new w4 #[.int .i64 k] 3
        have hz5 : (w4.alloc (.cells #[.int .i64 k] 3)).heap.size = X + 2 := by simp [hz4]
        rw [hz4] at hN5
        obtain ⟨w5, hw5⟩ : ∃ x, x = w4.alloc (.cells #[.int .i64 k] 3) := ⟨_, rfl⟩
        rw [← hw5] at hb5 hN5 hz5 ⊢
        have HF5 := Lib.hid (HF2.out.bl hb5)
        have HX5 := Lib.hid (HX.out.below hb5)
        have HR5 := Lib.hid (owns_below HROW.out hb5)
        have HB5 : Hid (Below g w w5) := HB2.out.trans (hb5.mono (by omega))
        clear hw5
        refine hK.out _ _ ⟨HX5.out.cell 0, by have h := HF5.out.cell hpn'; rw [← HXX.out] at h; exact h⟩ (fun _ => ?_)
        clear hK K
        try simp only [Act.put, List.setIfInBounds_toArray, List.set_cons_zero, List.set_cons_succ]
        refine midT_cons (by rfl) (fun K hK => ?_)
        refine spush_I rfl (.tmp 25) (.tmp 27) rfl g (.slice A m cp) (iN (famL t k p)) m (by rw [iN_len]; exact HM.out) rfl (by have h := HR5.out; rw [← HM.out] at h; exact h) _ _ (k : Int) rfl hN5 (by omega) (by omega) ?_
        intro g6 c6 w6 h1 h2 h3 h4
        have hz6 := h2.size
        have HX6 := Lib.hid (HX5.out.grown h2 (by
          intro e
          have := HRL.out X (by rw [← HXX.out]; exact e.symm)
          omega))
        have HG6 := Lib.hid (HF5.out.grow (w' := w6) hpn' (x := (some ⟨g6, 0, none⟩, m + 1, c6)) (X := famL t k p ++ [k]) (by rw [← HXX.out]; exact h2) (by
            rw [← iN_snoc] at h1
            have e : (famL t k p ++ [k]).length = m + 1 := by rw [List.length_append, ← HM.out]; rfl
            rw [e]; exact h1) (by rw [List.length_append, ← HM.out]; rfl) (by
            rw [← HXX.out]
            rcases h3 with h3 | h3
            · exact .inl h3.symm
            · exact .inr ⟨g6, rfl, by omega⟩))
        have hgp5 : w5.cell? ⟨g, p, none⟩ = some (.slice A m cp) := by have h := HF5.out.cell hpn'; rw [← HXX.out] at h; exact h
        have hgp6 : w6.cell? ⟨g, p, none⟩ = some (.slice A m cp) := h2.cell hgp5 (fun e => HFAR.out e.symm)
        have hrw6 := HF5.out.rows.kept h2 (.inr (fun e => HFAR.out e.symm))
        have hfz6 : w6.frozen? ⟨g, p, none⟩ = false := World.ownsRow.frozenAt hrw6 p
        have HB6 := Lib.hid (bl_grown (a := w) (by have h := HB5.out; rw [HG.out] at h; exact h) h2 (fun r hr => by have := (HR5.out.lt r hr).1; have := HG.out; omega))
        refine hK.out _ _ ⟨HX6.out.cell 0, hgp6⟩ (fun _ => ?_)
        clear hK K h1 h2 h3 h4 hrw6 hgp5 hN5 hb4 hb5 c0 c1'
        try simp only [Act.put, List.setIfInBounds_toArray, List.set_cons_zero, List.set_cons_succ]
        refine midT_nil ?_
        simp only [List.drop_succ_cons, List.drop_zero]
        go_wp2_with fail
        refine NoPanic.normal ?_
        go_wp2_with fail
        have hfam : Hid ((fun v => famL t (k + 1) v) = fun j => if j = p then famL t k p ++ [k] else famL t k j) := by
          show _ = _
          funext v
          rw [hsn.out, hkd.out, d1]
          by_cases e : v = p
          · subst e; simp
          · rw [if_neg e, decide_eq_false (fun h => e (by omega))]; simp
        have HB7 : Hid (Below g w (w6.setCell ⟨g, p, none⟩ (.slice (some ⟨g6, 0, none⟩) (m + 1) c6))) := by
          have h := HB6.out
          rw [← HG.out] at h
          exact h.setCell (p := ⟨g, p, none⟩) (Nat.le_refl _) _
        go_roundw
        case rel => exact ⟨k + 1, by omega, by go_num, _, by rw [hfam.out]; exact HG6.out, HB7⟩
        case measure => simp [intOf]; omega
    · obtain rfl : k = n := by omega
      go_wp2_with fail
      go_ret
      exact ⟨g, rs, rfl, by rw [← HG.out]; exact hF.out, by rw [← HG.out]; exact hbl.out⟩
end Go.Proofs.YtfgkjofdgohacaaGreatDoor
namespace Go.Proofs.YtfgkjofdgohacaaGreatDoor
open Go.RowKit
/-- Node v is a leaf. -/
def leafB (t : List Nd) (v : Nat) : Bool := (famL t t.length v).isEmpty
def lvsL (t : List Nd) (k : Nat) : List Nat := (List.range k).filter (leafB t)
theorem lvsL_snoc (t : List Nd) (k : Nat) : lvsL t (k + 1) = lvsL t k ++ (if leafB t k then [k] else []) := by
  unfold lvsL
  rw [List.range_succ, List.filter_append]
  congr 1
  by_cases q : leafB t k <;> simp [q]
theorem lvsL_le (t : List Nd) (k : Nat) : (lvsL t k).length ≤ k := by
  have := List.length_filter_le (leafB t) (List.range k)
  simpa [lvsL] using this
theorem leafB_len (t : List Nd) (v : Nat) : leafB t v = decide ((famL t t.length v).length = 0) := by
  unfold leafB
  cases famL t t.length v <;> rfl
set_option maxRecDepth 100000 in
set_option maxHeartbeats 4000000 in
theorem leaves_any (a : Option Addr) (n c : Nat) (t : List Nd) (w : World) (hn : t.length = n) (hN : n ≤ 64) (hA : Rd w a (fl encNd t)) (hP : ∀ v, 0 < v → v < n → 0 ≤ nP t v ∧ nP t v < n) :
    Calls Tryz.prog 79 #[.slice a n c] w fun e w' => ∃ v, e = .returned v ∧ w'.ownsRow w.heap.size 3 1 v (lvsL t n).length (fl encI (iN (lvsL t n))) ∧ Below w.heap.size w w' := by
  have HC := Lib.hid (families_any a n c t w hn hN hA hP)
  have HLB : Hid (∀ v, leafB t v = decide ((famL t n v).length = 0)) := fun v => by rw [← hn]; exact leafB_len t v
  have hle := fun v => famL_le t n v
  have HLE := Lib.hid hle
  clear hn hA hP hle
  go_enter Tryz.func79, Tryz.ntmps79
  go_wp2_with fail
  refine HC.out.mono ?_
  rintro e w1 ⟨g, rs, rfl, hF, hb⟩
  have HF := Lib.hid hF
  have HB := Lib.hid hb
  clear hF hb HC
  go_wp2_with fail
  go_loopw [9, 3] (fun x v wr => ∃ k : Nat, k ≤ n ∧ x = .int .i64 k ∧ Hid (wr.ownsRow w1.heap.size 3 1 v (lvsL t k).length (fl encI (iN (lvsL t k)))) ∧ Hid (Below w1.heap.size w1 wr)) (fun x _ _ => n - (intOf x).toNat)
  case atStart => exact ⟨0, by omega, rfl, World.ownsRow_nil _ _ _ _, Below.refl _ _⟩
  case round =>
    obtain ⟨k, hk, rfl, how, hbl⟩ := hrel
    by_cases hlt : k < n
    · have G := (HF.out.bl hbl.out).cell hlt
      have hlen := HF.out.len k hlt
      obtain ⟨⟨A, m, cp⟩, hx⟩ : ∃ x, x = rs k := ⟨_, rfl⟩
      rw [← hx] at G hlen
      have G' : wr.cell? ⟨g, k, none⟩ = some (.slice A m cp) := G
      have hm : m = (famL t n k).length := hlen
      have hsn := Lib.hid (lvsL_snoc t k)
      have hlb := HLB.out k
      rw [← hm] at hlb
      have HLB2 := Lib.hid hlb
      have hm64 : m ≤ 64 := by have := HLE.out k; omega
      clear G hlen hx hm hlb
      by_cases h0 : m = 0
      · have hs : Hid (lvsL t (k + 1) = lvsL t k ++ [k]) := by show _ = _; rw [hsn.out, HLB2.out, decide_eq_true h0]; rfl
        have t1 : ((m : Int) == 0) = true := by simp [h0]
        have t2 : decide ((m : Int) = 0) = true := by simp [h0]
        have t3 : decide (m = 0) = true := by simp [h0]
        have t4 : (m == 0) = true := by simp [h0]
        have hl2 := lvsL_le t k
        obtain ⟨q, hq⟩ : ∃ q, q = (lvsL t k).length := ⟨_, rfl⟩
        have HQ := Lib.hid hq
        rw [← hq] at how hl2
        clear h0 hsn HLB2 hq
        have hbase : w1.heap.size ≤ (wr.alloc (.cells #[.int .i64 k] 3)).heap.size := (bl_alloc hbl.out _).size
        go_wp2_with (at_builtin; refine push_I rfl (.tmp 17) (.tmp 19) rfl w1.heap.size u3 (iN (lvsL t k)) q (by rw [iN_len]; exact HQ.out) rfl (how.out.alloc _) _ _ (k : Int) rfl (Blk.new _ _ _) (by omega) hbase ?_; intro g2 cap w8 h81 h82 h83 h84; rw [← iN_snoc, ← hs.out] at h81; have H81 := Lib.hid h81; have H82 := Lib.hid h82; clear h81 h82 h83)
        have hlen2 : Hid ((lvsL t (k + 1)).length = q + 1) := by show _ = _; rw [hs.out, List.length_append, HQ.out]; rfl
        have HB8 := Lib.hid (bl_grown (bl_alloc hbl.out (.cells #[.int .i64 k] 3)) H82.out (fun x e => (how.out.lt x e).1))
        go_roundw
        case rel => exact ⟨k + 1, by omega, by go_num, by rw [hlen2.out]; exact H81, HB8⟩
        case measure => simp [intOf]; omega
      · have hs : Hid (lvsL t (k + 1) = lvsL t k) := by show _ = _; rw [hsn.out, HLB2.out, decide_eq_false h0]; simp
        have t1 : ((m : Int) == 0) = false := by simp; omega
        have t2 : decide ((m : Int) = 0) = false := by simp; omega
        have t3 : decide (m = 0) = false := by simp; omega
        have t4 : (m == 0) = false := by simp; omega
        clear h0 hsn HLB2
        go_wp2_with fail
        go_roundw
        case rel => exact ⟨k + 1, by omega, by go_num, by rw [hs.out]; exact how, hbl⟩
        case measure => simp [intOf]; omega
    · obtain rfl : k = n := by omega
      go_wp2_with fail
      go_ret
      exact ⟨_, rfl, owns_mono how.out HB.out.size, bl_trans HB.out hbl.out⟩
/-- The parents of a valid tree. -/
theorem tree_par {t : List Nd} (h : TreeOk t) : ∀ v, 0 < v → v < t.length → 0 ≤ nP t v ∧ nP t v < v := by
  intro v h0 hv
  obtain ⟨h1, h2, _⟩ := h.2.2 v hv
  rw [if_neg (by omega)] at h2
  exact ⟨h2, h1⟩
theorem chk_tree {t : List Nd} (h : chkE t = 0) : TreeOk t := by
  unfold chkE at h
  by_cases q : TreeOk t
  · exact q
  · rw [if_neg q] at h; omega
theorem chk_tree' {t : List Nd} (h : chkE t ≠ 0) : chkE t = 16 ∧ ¬ TreeOk t := by
  unfold chkE at *
  by_cases q : TreeOk t
  · rw [if_pos q] at h; omega
  · rw [if_neg q]; exact ⟨rfl, q⟩
/-- The leaves that tree.Leaves answers. -/
def lvT (t : List Nd) : List Nat := if chkE t = 0 then lvsL t t.length else []
set_option maxRecDepth 100000 in
set_option maxHeartbeats 4000000 in
theorem Leaves_any (a : Option Addr) (n c : Nat) (t : List Nd) (w : World) (hn : t.length = n) (hN : n ≤ 1152921504606846976) (hA : Rd w a (fl encNd t)) (hS : ∀ v, v < n → (nS t v).size ≤ 9223372036854775807) :
    Calls Tryz.prog 39 #[.slice a n c] w fun e w' => ∃ v, e = .returned (.tuple #[v, .int .i64 (chkE t)]) ∧ w'.ownsRow w.heap.size 3 1 v (lvT t).length (fl encI (iN (lvT t))) ∧ Below w.heap.size w w' := by
  have HC := Lib.hid (check_any a n c t w hn hN hA hS)
  have HN := Lib.hid hn
  have HA := Lib.hid hA
  clear hn hA hS
  go_enter Tryz.func39, Tryz.ntmps39
  go_wp2_with fail
  refine HC.out.mono ?_
  rintro e w1 ⟨rfl, hb⟩
  have HB := Lib.hid hb
  clear hb HC
  by_cases h0 : chkE t = 0
  · have hok := chk_tree h0
    have HL : Hid (lvT t = lvsL t n) := by show _ = _; unfold lvT; rw [if_pos h0, HN.out]
    have HC2 := Lib.hid (leaves_any a n c t w1 HN.out (by have := hok.2.1; have := HN.out; omega) (HA.out.bl HB.out) (fun v h1 h2 => by
      have := tree_par hok v h1 (by rw [HN.out]; exact h2)
      omega))
    have HE := Lib.hid h0
    rw [h0]
    clear hok h0
    go_wp2_with fail
    refine HC2.out.mono ?_
    rintro e w2 ⟨v, rfl, ho, hb2⟩
    obtain ⟨A, cp, rfl, _⟩ := owns_slice ho
    have HO := Lib.hid (owns_mono ho HB.out.size)
    have HB2 := Lib.hid (bl_trans HB.out hb2)
    obtain ⟨q, hq⟩ : ∃ q, q = (lvsL t n).length := ⟨_, rfl⟩
    rw [← hq] at HO ⊢
    have HQ := Lib.hid hq
    clear ho hb2 hq
    go_wp2_with fail
    exact bodyPost_ret (v := .tuple #[.slice A q cp, .int .i64 0]) (by simp [results, Tryz.results39, go_sem]) rfl ⟨_, by rw [HE.out], by rw [HL.out, ← HQ.out]; exact HO.out, HB2.out⟩
  · have HL : Hid (lvT t = []) := by show _ = _; unfold lvT; rw [if_neg h0]
    have h16 := (chk_tree' h0).1
    have HE := Lib.hid h16
    rw [h16]
    clear h0 h16
    go_wp2_with fail
    exact bodyPost_ret (v := .tuple #[.slice none 0 0, .int .i64 16]) (by simp [results, Tryz.results39, go_sem]) rfl ⟨_, by rw [HE.out], by rw [HL.out]; exact World.ownsRow_nil _ _ _ _, HB.out⟩
/-- Why a table or a tree is not valid, or both do not fit each other. -/
def chkP (L : Int) (l : List Nat) (t : List Nd) : Int := if chkT L l ≠ 0 then chkT L l else if chkE t ≠ 0 then chkE t else if ((lvT t).length : Int) = L then 0 else 2
/-- No set of a valid table has a language from L on. -/
theorem chk_lt {L : Nat} {l : List Nat} (h : chkT (L : Int) l = 0) : L ≤ 32 ∧ l.length ≤ 64 ∧ ∀ x, x ∈ l → x < 2 ^ L := by
  unfold chkT at h
  by_cases q : (L : Int) < 0 ∨ 32 < (L : Int)
  · rw [if_pos q] at h; omega
  · rw [if_neg q] at h
    by_cases q2 : 64 < l.length
    · rw [if_pos q2] at h; omega
    · rw [if_neg q2] at h
      by_cases q3 : l.any (wide (L : Int).toNat) = true
      · rw [if_pos q3] at h; omega
      · refine ⟨by omega, by omega, fun x hx => ?_⟩
        rw [Int.toNat_natCast] at q3
        have := List.any_eq_false.1 (Bool.eq_false_iff.2 q3) x hx
        unfold wide at this
        simpa using this
theorem chkP_ok {L : Int} {l : List Nat} {t : List Nd} (h : chkP L l t = 0) : chkT L l = 0 ∧ TreeOk t ∧ ((lvT t).length : Int) = L := by
  unfold chkP at h
  by_cases q : chkT L l = 0
  · rw [if_neg (fun h => h q)] at h
    by_cases q2 : chkE t = 0
    · rw [if_neg (fun h => h q2)] at h
      by_cases q3 : ((lvT t).length : Int) = L
      · exact ⟨q, chk_tree q2, q3⟩
      · rw [if_neg q3] at h; omega
    · rw [if_pos q2] at h; exact absurd h q2
  · rw [if_pos q] at h; exact absurd h q
end Go.Proofs.YtfgkjofdgohacaaGreatDoor
namespace Go.Proofs.YtfgkjofdgohacaaGreatDoor
open Go Go.RowKit Go.Shelf
set_option maxRecDepth 100000 in
set_option maxHeartbeats 2000000 in
theorem rkids_any (v : Nat) (a : Option Addr) (n c : Nat) (t : List Nd) (w : World) (hn : t.length = n) (hN : n ≤ 1000) (hA : Rd w a (fl encNd t)) (h0 : nP t 0 < 0) :
    Calls Tryz.prog 114 #[.slice a n c, .int .i64 v] w fun e w' => ∃ x, e = .returned x ∧ w'.ownsRow w.heap.size 3 1 x (famL t n v).length (fl encI (iN (famL t n v))) ∧ Below w.heap.size w w' := by
  have HN := Lib.hid hn
  have HA := Lib.hid hA
  have H0 := Lib.hid h0
  clear hn hA h0
  go_enter Tryz.func114, Tryz.ntmps114
  go_wp2_with fail
  go_loopw [6, 5] (fun x u wr => ∃ k q : Nat, k ≤ n ∧ x = .int .i64 k ∧ q = (famL t k v).length ∧ Hid (wr.ownsRow w.heap.size 3 1 u q (fl encI (iN (famL t k v)))) ∧ Hid (Below w.heap.size w wr)) (fun x _ _ => n - (intOf x).toNat)
  case atStart => exact ⟨0, 0, by omega, rfl, rfl, World.ownsRow_nil _ _ _ _, Below.refl _ _⟩
  case round =>
    obtain ⟨k, q, hk, rfl, hq, how, hbl⟩ := hrel
    obtain ⟨Au, cu, rfl, _⟩ := owns_slice how.out
    have HQ := Lib.hid hq
    by_cases hlt : k < n
    · obtain ⟨b, o, rfl, hb, hc⟩ := rdNd (HA.out.bl hbl.out) (by rw [HN.out]; omega)
      obtain ⟨G1, G2⟩ := hc k (by rw [HN.out]; exact hlt)
      have hql : q ≤ k := by rw [hq]; exact famL_le t k v
      have HST := Lib.hid (famL_snoc t k v)
      have HKB : Hid (kidB t v k = decide (nP t k = (v : Int))) := by
        show _ = _
        unfold kidB
        by_cases e : 0 < k
        · simp [e]
        · obtain rfl : k = 0 := by omega
          have := H0.out
          rw [decide_eq_false (show ¬ nP t 0 = (v : Int) by omega)]; simp
      rw [HKB.out] at HST
      have hsz := hbl.out.size
      clear hc HKB hq
      generalize nP t k = p at *
      by_cases e : p = (v : Int)
      · have d1 : (p == (v : Int)) = true := by simp [e]
        rw [decide_eq_true e, if_pos rfl] at HST
        have hb1 : w.heap.size ≤ (wr.alloc (.cells #[.int .i64 k] 3)).heap.size := (bl_alloc hbl.out _).size
        clear e
        go_wp2_with (at_builtin; refine push_I rfl (.tmp 20) (.tmp 22) rfl w.heap.size (.slice Au q cu) (iN (famL t k v)) q (by rw [iN_len]; exact HQ.out) rfl (how.out.alloc _) _ _ (k : Int) rfl (Blk.new _ _ _) (by omega) hb1 ?_; intro g c6 w6 h1 h2 h3 h4; have H61 := Lib.hid h1; have H62 := Lib.hid h2; clear h1 h2 h3 h4)
        have H7 : Hid (w6.ownsRow w.heap.size 3 1 (.slice (some ⟨g, 0, none⟩) (q + 1) c6) (q + 1) (fl encI (iN (famL t (k + 1) v)))) := by
          rw [HST.out, iN_snoc]; exact H61.out
        have H8 := Lib.hid (bl_grown (bl_alloc hbl.out (.cells #[.int .i64 k] 3)) H62.out (fun r e => (how.out.lt r e).1))
        go_roundw
        case rel => exact ⟨k + 1, q + 1, by omega, by go_num, by rw [HST.out, List.length_append, ← HQ.out]; rfl, H7, H8⟩
        case measure => simp [intOf]; omega
      · have d1 : (p == (v : Int)) = false := by simp [e]
        have d2 : decide (p = (v : Int)) = false := by simp [e]
        rw [d2, if_neg (by simp), List.append_nil] at HST
        clear e
        go_wp2_with fail
        go_roundw
        case rel => exact ⟨k + 1, q, by omega, by go_num, by rw [HST.out]; exact HQ.out, by rw [HST.out]; exact how, hbl⟩
        case measure => simp [intOf]; omega
    · obtain rfl : k = n := by omega
      have HO := Lib.hid how.out
      clear how
      go_wp2_with fail
      go_ret
      exact ⟨_, rfl, by rw [← HQ.out]; exact HO.out, hbl.out⟩
end Go.Proofs.YtfgkjofdgohacaaGreatDoor
namespace Go.Proofs.YtfgkjofdgohacaaGreatDoor
open Go Go.RowKit Go.Shelf
set_option maxHeartbeats 4000000 in
theorem rletter_any (n : Int) (w : World) (h0 : 0 ≤ n) (h1 : n ≤ 255) : Calls Tryz.prog 109 #[.int .u8 n] w fun e w' => e = .returned (.bool (ltrI n)) ∧ w' = w := by
  obtain ⟨r, hr⟩ : ∃ r, r = ltrI n := ⟨_, rfl⟩
  have HR : Hid (r = decide (97 ≤ n ∧ n ≤ 122 ∨ 65 ≤ n ∧ n ≤ 90 ∨ 48 ≤ n ∧ n ≤ 57 ∨ n = 45)) := hr
  rw [← hr]
  clear hr
  by_cases H : 97 ≤ n ∧ n ≤ 122 ∨ 65 ≤ n ∧ n ≤ 90 ∨ 48 ≤ n ∧ n ≤ 57 ∨ n = 45
  · have HV : Hid (r = true) := by show _ = _; rw [HR.out]; exact decide_eq_true H
    by_cases a7 : n = 45
    · have b1 : ¬ 97 ≤ n := by omega
      have b2 : ¬ 65 ≤ n := by omega
      have b3 : ¬ 48 ≤ n := by omega
      have b4 : (n == 45) = true := by simp [a7]
      first
        | omega
        | (clear a7 H
           go_enter Tryz.func109, Tryz.ntmps109
           go_wp2
           go_ret
           exact ⟨ret_b (by rw [HV.out]; try simp [*]), rfl⟩)
    · have b4 : (n == 45) = false := by simp [a7]
      by_cases a1 : 97 ≤ n <;> by_cases a2 : n ≤ 122 <;> by_cases a3 : 65 ≤ n <;> by_cases a4 : n ≤ 90 <;> by_cases a5 : 48 ≤ n <;> by_cases a6 : n ≤ 57
      all_goals first
        | omega
        | (clear a7 H
           go_enter Tryz.func109, Tryz.ntmps109
           go_wp2
           go_ret
           exact ⟨ret_b (by rw [HV.out]; try simp [*]), rfl⟩)
  · have HV : Hid (r = false) := by show _ = _; rw [HR.out]; exact decide_eq_false H
    by_cases a7 : n = 45
    · have b1 : ¬ 97 ≤ n := by omega
      have b2 : ¬ 65 ≤ n := by omega
      have b3 : ¬ 48 ≤ n := by omega
      have b4 : (n == 45) = true := by simp [a7]
      first
        | omega
        | (clear a7 H
           go_enter Tryz.func109, Tryz.ntmps109
           go_wp2
           go_ret
           exact ⟨ret_b (by rw [HV.out]; try simp [*]), rfl⟩)
    · have b4 : (n == 45) = false := by simp [a7]
      by_cases a1 : 97 ≤ n <;> by_cases a2 : n ≤ 122 <;> by_cases a3 : 65 ≤ n <;> by_cases a4 : n ≤ 90 <;> by_cases a5 : 48 ≤ n <;> by_cases a6 : n ≤ 57
      all_goals first
        | omega
        | (clear a7 H
           go_enter Tryz.func109, Tryz.ntmps109
           go_wp2
           go_ret
           exact ⟨ret_b (by rw [HV.out]; try simp [*]), rfl⟩)
set_option maxHeartbeats 1000000 in
theorem rnamed_any (s : ByteArray) (w : World) (hs : s.size ≤ 9223372036854775807) : Calls Tryz.prog 73 #[.string s] w fun e w' => e = .returned (.bool (nmB s)) ∧ w' = w := by
  go_enter Tryz.func73, Tryz.ntmps73
  go_wp2_with fail
  go_loopw [3] (fun x wr => ∃ k : Nat, k ≤ s.size ∧ x = .int .i64 k ∧ Hid ((s.data.toList.take k).all (fun c => ltrI c.toNat) = true) ∧ wr = w) (fun x _ => s.size - (intOf x).toNat)
  case atStart => exact ⟨0, by omega, rfl, rfl, rfl⟩
  case round =>
    obtain ⟨k, hk, rfl, hal, rfl⟩ := hrel
    by_cases hlt : k < s.size
    · have hts : s.data.toList.take (k + 1) = s.data.toList.take k ++ [s[k]] := by
        rw [List.take_succ_eq_append_getElem (by simpa using hlt)]; rfl
      have HNX : Hid ((s.data.toList.take (k + 1)).all (fun c => ltrI c.toNat) = ((s.data.toList.take k).all (fun c => ltrI c.toNat) && ltrI s[k].toNat)) := by
        show _ = _
        rw [hts, List.all_append]; simp
      have HNO : Hid (ltrI s[k].toNat = false → nmB s = false) := fun h => by
        have : s.data.toList.all (fun c => ltrI c.toNat) = false := by
          rw [List.all_eq_false]
          exact ⟨s[k], by exact Array.mem_toList_iff.2 (Array.getElem_mem _), by rw [h]; simp⟩
        rw [nmB, this]; rfl
      clear hts
      have hc0 : (0 : Int) ≤ (s[k].toNat : Int) := by omega
      have hc1 : (s[k].toNat : Int) ≤ 255 := by have := s[k].toNat_lt; omega
      go_wp2_with fail
      refine (rletter_any _ _ hc0 hc1).mono ?_
      rintro e w' ⟨rfl, rfl⟩
      rcases Bool.eq_false_or_eq_true (ltrI s[k].toNat) with hp | hp
      · have HP := Lib.hid hp
        rw [hp]
        clear hp
        go_wp2_with fail
        go_roundw
        case rel => exact ⟨k + 1, by omega, by go_num, by show _ = _; rw [HNX.out, hal.out, HP.out]; rfl, by trivial⟩
        case measure => simp [intOf]; omega
      · have HP := Lib.hid hp
        rw [hp]
        clear hp
        go_wp2_with fail
        go_ret
        exact ⟨ret_b (HNO.out HP.out).symm, rfl⟩
    · have e : k = s.size := by omega
      have hfin : Hid (nmB s = (decide (0 < s.size) && decide (s.size ≤ 24))) := by
        have h1 := hal.out
        rw [e, List.take_of_length_le (by simp)] at h1
        show _ = _
        rw [nmB, h1]; rfl
      clear hal
      by_cases b1 : 0 < s.size
      · have b1' : decide (0 < s.size) = true := by simpa using b1
        go_wp2_with fail
        go_ret
        exact ⟨ret_b (by rw [hfin.out, b1']; simp; omega), rfl⟩
      · have b1' : decide (0 < s.size) = false := by simpa using b1
        go_wp2_with fail
        go_ret
        exact ⟨ret_b (by rw [hfin.out, b1']; simp), rfl⟩

end Go.Proofs.YtfgkjofdgohacaaGreatDoor
namespace Go.Proofs.YtfgkjofdgohacaaGreatDoor
open Go Go.RowKit Go.Shelf
theorem chkE_bad {t : List Nd} (h : ¬ TreeOk t) : chkE t = 16 := if_neg h
theorem chkE_good {t : List Nd} (h : TreeOk t) : chkE t = 0 := if_pos h
theorem seenB_true {t : List Nd} {v u : Nat} (hu : u < v) (e : nS t u = nS t v) : seenB t v (nS t v) = true := by
  unfold seenB
  rw [List.any_eq_true]
  exact ⟨u, List.mem_range.2 hu, by simp [e]⟩
theorem seenB_false {t : List Nd} {v : Nat} (h : ∀ u, u < v → nS t u ≠ nS t v) : seenB t v (nS t v) = false := by
  unfold seenB
  rw [List.any_eq_false]
  intro u hu
  simp [h u (List.mem_range.1 hu)]
set_option maxRecDepth 100000 in
set_option maxHeartbeats 2000000 in
theorem rcheck_any (a : Option Addr) (n c : Nat) (t : List Nd) (w : World) (hn : t.length = n) (hN : n ≤ 1152921504606846976) (hA : Rd w a (fl encNd t)) (hS : ∀ v, v < n → (nS t v).size ≤ 9223372036854775807) :
    Calls Tryz.prog 56 #[.slice a n c] w fun e w' => e = .returned (.int .i64 (chkE t)) ∧ ∃ m, w' = w.drewN m := by
  have HN := Lib.hid hn
  have HA := Lib.hid hA
  have HS := Lib.hid hS
  have HBD : Hid (∀ v, v < n → ¬ NodeOk t v → chkE t = 16) := fun v hv h => chkE_bad fun h2 => h (h2.2.2 v (by rw [hn]; exact hv))
  clear hn hA hS
  by_cases h1 : 1 ≤ n
  · by_cases h63 : n ≤ 63
    · obtain ⟨b, o, rfl, hb, hc⟩ := rdNd HA.out (by rw [HN.out]; omega)
      obtain ⟨G1, G2⟩ := hc 0 (by rw [HN.out]; omega)
      rw [Nat.zero_mul, Nat.add_zero] at G1
      have d1 : decide ((n : Int) < 1) = false := decide_eq_false (by omega)
      have d2 : decide ((63 : Int) < (n : Int)) = false := decide_eq_false (by omega)
      by_cases h0 : nP t 0 = -1
      · have H0 := Lib.hid h0
        rw [h0] at G1
        have HC := Lib.hid hc
        clear h0 hc G2
        go_enter Tryz.func56, Tryz.ntmps56
        go_wp2_with fail
        clear G1
        go_loopw [3] (fun x wr => ∃ v : Nat, v ≤ n ∧ x = .int .i64 v ∧ Hid (∀ u, u < v → NodeOk t u) ∧ ∃ m, wr = w.drewN m) (fun x _ => n - (intOf x).toNat)
        case atStart => exact ⟨0, by omega, rfl, (fun u hu => by omega), 0, rfl⟩
        case round =>
          obtain ⟨v, hv, rfl, hok, m, rfl⟩ := hrel
          by_cases hlt : v < n
          · obtain ⟨G1, G2⟩ := HC.out v (by rw [HN.out]; exact hlt)
            have hsz := HS.out v hlt
            have HNK : Hid (∀ P : Prop, nP t v < v → (if v = 0 then (-1 : Int) else 0) ≤ nP t v → nmB (nS t v) = true → (∀ u, u < v → nS t u ≠ nS t v) → NodeOk t v) := fun _ a1 a2 a3 a4 => ⟨a1, a2, a3, seenB_false a4⟩
            have HB1 : Hid (0 < v → (nP t v < 0 ∨ (v : Int) ≤ nP t v) → chkE t = 16) := fun q1 q2 => HBD.out v hlt fun hk => by
              have k1 := hk.1
              have k2 := hk.2.1
              rw [if_neg (by omega)] at k2
              omega
            have HB2 : Hid (nmB (nS t v) = false → chkE t = 16) := fun q => HBD.out v hlt fun hk => by rw [hk.2.2.1] at q; cases q
            have HB3 : Hid (∀ u, u < v → nS t u = nS t v → chkE t = 16) := fun u hu e => HBD.out v hlt fun hk => by
              have := hk.2.2.2
              rw [seenB_true hu e] at this; cases this
            have HP0 : Hid (v = 0 → nP t v = -1) := fun e => by rw [e]; exact H0.out
            obtain ⟨s, hs⟩ : ∃ x, nS t v = x := ⟨_, rfl⟩
            obtain ⟨p, hp⟩ : ∃ x, nP t v = x := ⟨_, rfl⟩
            rw [hs] at HNK HB2 HB3 G2 hsz
            rw [hp] at HNK HB1 HP0 G1
            have HNM := Lib.hid (fun W => rnamed_any s W hsz)
            have HPV : Hid (¬ (0 < v ∧ (p < 0 ∨ (v : Int) ≤ p)) → p < v ∧ (if v = 0 then (-1 : Int) else 0) ≤ p) := fun h => by
              by_cases e : v = 0
              · have := HP0.out e
                rw [if_pos e]; omega
              · rw [if_neg e]; omega
            have HSV := Lib.hid hs
            clear hs hp hsz
            by_cases q : 0 < v ∧ (p < 0 ∨ (v : Int) ≤ p)
            · have HR := Lib.hid (HB1.out q.1 q.2)
              obtain ⟨q1, q2⟩ := q
              have t1 : decide (0 < (v : Int)) = true := decide_eq_true (by omega)
              by_cases q3 : p < 0
              · have t2 : decide (p < 0) = true := decide_eq_true q3
                go_wp2_with fail
                go_ret
                exact ⟨ret_i HR.out.symm, m, rfl⟩
              · have t2 : decide (p < 0) = false := decide_eq_false q3
                have t3 : decide ((v : Int) ≤ p) = true := decide_eq_true (by omega)
                go_wp2_with fail
                go_ret
                exact ⟨ret_i HR.out.symm, m, rfl⟩
            · have HPO := Lib.hid (HPV.out q)
              by_cases hv0 : v = 0
              · have t1 : decide (0 < (v : Int)) = false := decide_eq_false (by omega)
                have t1n : decide (0 < v) = false := decide_eq_false (by omega)
                clear hv0 q
                go_wp2_with fail
                refine (HNM.out _).mono ?_
                rintro e w1 ⟨rfl, rfl⟩
                obtain ⟨nb, hnb⟩ : ∃ x, nmB s = x := ⟨_, rfl⟩
                rw [hnb]
                cases nb with
                | false =>
                  have HR := Lib.hid (HB2.out hnb)
                  clear hnb
                  go_wp2_with fail
                  go_ret
                  exact ⟨ret_i HR.out.symm, m, rfl⟩
                | true =>
                  have HNB := Lib.hid hnb
                  clear hnb G1
                  go_upto_region 8 with fail
                  go_upto_region 9 with fail
                  go_loopw [4] (fun x wx => ∃ u : Nat, u ≤ v ∧ x = .int .i64 u ∧ Hid (∀ q, q < u → nS t q ≠ s) ∧ ∃ k, wx = w.drewN k) (fun x _ => v - (intOf x).toNat)
                  case atStart => exact ⟨0, by omega, rfl, (fun q hq => by omega), m, rfl⟩
                  case round =>
                    obtain ⟨u, hu, rfl, hne, k, rfl⟩ := hrel
                    by_cases hlu : u < v
                    · obtain ⟨_, G4⟩ := HC.out u (by rw [HN.out]; omega)
                      have HBU := Lib.hid (HB3.out u hlu)
                      have HNX : Hid (nS t u ≠ s → ∀ q, q < u + 1 → nS t q ≠ s) := fun h q hq => by
                        rcases Nat.lt_or_ge q u with h2 | h2
                        · exact hne.out q h2
                        · obtain rfl : q = u := by omega
                          exact h
                      generalize nS t u = r at *
                      by_cases e : r = s
                      · have HR := Lib.hid (HBU.out e)
                        subst e
                        have t9 : (r.toList == r.toList) = true := beq_self_eq_true _
                        go_wp2_with fail
                        go_quiet (fail)
                        go_wp2_with fail
                        go_ret
                        exact ⟨ret_i HR.out.symm, k + nq, by simp⟩
                      · have HNX2 := Lib.hid (HNX.out e)
                        have t9 : (r.toList == s.toList) = false := beq_eq_false_iff_ne.2 fun e2 => e (ba_inj.1 e2)
                        clear e
                        go_wp2_with fail
                        go_quiet (fail)
                        go_wp2_with fail
                        go_roundw
                        case rel => exact ⟨u + 1, by omega, by go_num, HNX2, k + nq, by simp⟩
                        case measure => simp [intOf]; omega
                    · obtain rfl : u = v := by omega
                      have HNO : Hid (NodeOk t u) := HNK.out True HPO.out.1 HPO.out.2 HNB.out hne.out
                      go_wp2_with fail
                      go_roundw
                      case rel => exact ⟨u + 1, by omega, by go_num, (fun q hq => by
                        rcases Nat.lt_or_ge q u with h2 | h2
                        · exact hok.out q h2
                        · obtain rfl : q = u := by omega
                          exact HNO.out), k, rfl⟩
                      case measure => simp [intOf]; omega
              · have t1 : decide (0 < (v : Int)) = true := decide_eq_true (by omega)
                have t2 : decide (p < 0) = false := decide_eq_false (by omega)
                have t3 : decide ((v : Int) ≤ p) = false := decide_eq_false (by omega)
                have t1n : decide (0 < v) = true := decide_eq_true (by omega)
                clear hv0 q
                go_wp2_with fail
                refine (HNM.out _).mono ?_
                rintro e w1 ⟨rfl, rfl⟩
                obtain ⟨nb, hnb⟩ : ∃ x, nmB s = x := ⟨_, rfl⟩
                rw [hnb]
                cases nb with
                | false =>
                  have HR := Lib.hid (HB2.out hnb)
                  clear hnb
                  go_wp2_with fail
                  go_ret
                  exact ⟨ret_i HR.out.symm, m, rfl⟩
                | true =>
                  have HNB := Lib.hid hnb
                  clear hnb G1
                  go_upto_region 8 with fail
                  go_upto_region 9 with fail
                  go_loopw [4] (fun x wx => ∃ u : Nat, u ≤ v ∧ x = .int .i64 u ∧ Hid (∀ q, q < u → nS t q ≠ s) ∧ ∃ k, wx = w.drewN k) (fun x _ => v - (intOf x).toNat)
                  case atStart => exact ⟨0, by omega, rfl, (fun q hq => by omega), m, rfl⟩
                  case round =>
                    obtain ⟨u, hu, rfl, hne, k, rfl⟩ := hrel
                    by_cases hlu : u < v
                    · obtain ⟨_, G4⟩ := HC.out u (by rw [HN.out]; omega)
                      have HBU := Lib.hid (HB3.out u hlu)
                      have HNX : Hid (nS t u ≠ s → ∀ q, q < u + 1 → nS t q ≠ s) := fun h q hq => by
                        rcases Nat.lt_or_ge q u with h2 | h2
                        · exact hne.out q h2
                        · obtain rfl : q = u := by omega
                          exact h
                      generalize nS t u = r at *
                      by_cases e : r = s
                      · have HR := Lib.hid (HBU.out e)
                        subst e
                        have t9 : (r.toList == r.toList) = true := beq_self_eq_true _
                        go_wp2_with fail
                        go_quiet (fail)
                        go_wp2_with fail
                        go_ret
                        exact ⟨ret_i HR.out.symm, k + nq, by simp⟩
                      · have HNX2 := Lib.hid (HNX.out e)
                        have t9 : (r.toList == s.toList) = false := beq_eq_false_iff_ne.2 fun e2 => e (ba_inj.1 e2)
                        clear e
                        go_wp2_with fail
                        go_quiet (fail)
                        go_wp2_with fail
                        go_roundw
                        case rel => exact ⟨u + 1, by omega, by go_num, HNX2, k + nq, by simp⟩
                        case measure => simp [intOf]; omega
                    · obtain rfl : u = v := by omega
                      have HNO : Hid (NodeOk t u) := HNK.out True HPO.out.1 HPO.out.2 HNB.out hne.out
                      go_wp2_with fail
                      go_roundw
                      case rel => exact ⟨u + 1, by omega, by go_num, (fun q hq => by
                        rcases Nat.lt_or_ge q u with h2 | h2
                        · exact hok.out q h2
                        · obtain rfl : q = u := by omega
                          exact HNO.out), k, rfl⟩
                      case measure => simp [intOf]; omega
          · obtain rfl : v = n := by omega
            have HR : Hid (chkE t = 0) := chkE_good ⟨by rw [HN.out]; exact h1, by rw [HN.out]; exact h63, fun u hu => hok.out u (by rw [← HN.out]; exact hu)⟩
            go_wp2_with fail
            go_ret
            exact ⟨ret_i HR.out.symm, m, rfl⟩
      · have HR := Lib.hid (HBD.out 0 (by omega) (fun hk => h0 (by have k1 := hk.1; have k2 := hk.2.1; rw [if_pos rfl] at k2; omega)))
        have t1 : (nP t 0 != -1) = true := by simpa using h0
        have t2 : (nP t 0 == -1) = false := by simpa using h0
        clear hc G2 h0
        generalize nP t 0 = p at *
        go_enter Tryz.func56, Tryz.ntmps56
        go_wp2_with fail
        go_ret
        exact ⟨ret_i HR.out.symm, 0, rfl⟩
    · have HR : Hid (chkE t = 16) := chkE_bad fun h => by have := h.2.1; rw [HN.out] at this; omega
      have d1 : decide ((n : Int) < 1) = false := decide_eq_false (by omega)
      have d2 : decide ((63 : Int) < (n : Int)) = true := decide_eq_true (by omega)
      go_enter Tryz.func56, Tryz.ntmps56
      go_wp2_with fail
      go_ret
      exact ⟨ret_i HR.out.symm, 0, rfl⟩
  · have HR : Hid (chkE t = 16) := chkE_bad fun h => by have := h.1; rw [HN.out] at this; omega
    have d1 : decide ((n : Int) < 1) = true := decide_eq_true (by omega)
    go_enter Tryz.func56, Tryz.ntmps56
    go_wp2_with fail
    go_ret
    exact ⟨ret_i HR.out.symm, 0, rfl⟩
end Go.Proofs.YtfgkjofdgohacaaGreatDoor
namespace Go.Proofs.YtfgkjofdgohacaaGreatDoor
open Go Go.RowKit Go.Shelf
set_option maxRecDepth 100000 in
set_option maxHeartbeats 2000000 in
theorem rLeaves_any (a : Option Addr) (n c : Nat) (t : List Nd) (w : World) (hn : t.length = n) (hN : n ≤ 1152921504606846976) (hA : Rd w a (fl encNd t)) (hS : ∀ v, v < n → (nS t v).size ≤ 9223372036854775807) :
    Calls Tryz.prog 88 #[.slice a n c] w fun e w' => ∃ v, e = .returned (.tuple #[v, .int .i64 (chkE t)]) ∧ w'.ownsRow w.heap.size 3 1 v (lvT t).length (fl encI (iN (lvT t))) ∧ Below w.heap.size w w' := by
  have HC := Lib.hid (rcheck_any a n c t w hn hN hA hS)
  have HN := Lib.hid hn
  have HA := Lib.hid hA
  clear hn hA hS
  go_enter Tryz.func88, Tryz.ntmps88
  go_wp2_with fail
  refine HC.out.mono ?_
  rintro e w1 ⟨rfl, m, rfl⟩
  by_cases hok : TreeOk t
  · have HCE := Lib.hid (chkE_good hok)
    have HLV : Hid (lvT t = lvsL t n) := by show _ = _; unfold lvT; rw [if_pos HCE.out, HN.out]
    have h63 : n ≤ 63 := by have := hok.2.1; have := HN.out; omega
    have HP0 : Hid (nP t 0 < 0) := by have := (hok.2.2 0 (by have := hok.1; omega)).1; exact this
    have HLF : Hid (∀ k, leafB t k = decide ((famL t n k).length = 0)) := fun k => by
      unfold leafB; rw [HN.out, Bool.eq_iff_iff]; simp
    rw [HCE.out]
    clear hok
    go_wp2_with fail
    go_loopw [6, 5] (fun x u wr => ∃ k q : Nat, k ≤ n ∧ x = .int .i64 k ∧ q = (lvsL t k).length ∧ Hid (wr.ownsRow w.heap.size 3 1 u q (fl encI (iN (lvsL t k)))) ∧ Hid (Below w.heap.size w wr)) (fun x _ _ => n - (intOf x).toNat)
    case atStart => exact ⟨0, 0, by omega, rfl, rfl, World.ownsRow_nil _ _ _ _, bl_drewN (Below.refl _ _) m⟩
    case round =>
      obtain ⟨k, q, hk, rfl, hq, how, hbl⟩ := hrel
      obtain ⟨Au, cu, rfl, _⟩ := owns_slice how.out
      have HQ := Lib.hid hq
      by_cases hlt : k < n
      · have hql : q ≤ k := by rw [hq]; exact lvsL_le t k
        have HST := Lib.hid (lvsL_snoc t k)
        rw [HLF.out k] at HST
        have HK := Lib.hid (rkids_any k a n c t wr HN.out (by omega) (HA.out.bl hbl.out) HP0.out)
        clear hq
        go_wp2_with fail
        refine HK.out.mono ?_
        rintro e w3 ⟨x3, rfl, ho3, hb3⟩
        obtain ⟨z, hz⟩ : ∃ z, (famL t n k).length = z := ⟨_, rfl⟩
        rw [hz] at ho3 HST
        obtain ⟨A3, c3, rfl, _⟩ := owns_slice ho3
        have HB3 := Lib.hid (bl_trans hbl.out hb3)
        have HO3 := Lib.hid (owns_below how.out hb3)
        clear ho3 hb3 hz how hbl HK
        by_cases e : z = 0
        · have d1 : ((z : Int) == 0) = true := by simp [e]
          rw [decide_eq_true e, if_pos rfl] at HST
          have hb1 : w.heap.size ≤ (w3.alloc (.cells #[.int .i64 k] 3)).heap.size := (bl_alloc HB3.out _).size
          subst e
          clear d1
          go_wp2_with (at_builtin; refine push_I rfl (.tmp 23) (.tmp 25) rfl w.heap.size (.slice Au q cu) (iN (lvsL t k)) q (by rw [iN_len]; exact HQ.out) rfl (HO3.out.alloc _) _ _ (k : Int) rfl (Blk.new _ _ _) (by omega) hb1 ?_; intro g c6 w6 h1 h2 h3 h4; have H61 := Lib.hid h1; have H62 := Lib.hid h2; clear h1 h2 h3 h4)
          have H7 : Hid (w6.ownsRow w.heap.size 3 1 (.slice (some ⟨g, 0, none⟩) (q + 1) c6) (q + 1) (fl encI (iN (lvsL t (k + 1))))) := by
            rw [HST.out, iN_snoc]; exact H61.out
          have H8 := Lib.hid (bl_grown (bl_alloc HB3.out (.cells #[.int .i64 k] 3)) H62.out (fun r e => (HO3.out.lt r e).1))
          go_roundw
          case rel => exact ⟨k + 1, q + 1, by omega, by go_num, by rw [HST.out, List.length_append, ← HQ.out]; rfl, H7, H8⟩
          case measure => simp [intOf]; omega
        · have d1 : ((z : Int) == 0) = false := by simp [e]
          have d3 : decide (z = 0) = false := by simp [e]
          rw [d3, if_neg (by simp), List.append_nil] at HST
          clear e
          go_wp2_with fail
          go_roundw
          case rel => exact ⟨k + 1, q, by omega, by go_num, by rw [HST.out]; exact HQ.out, by rw [HST.out]; exact HO3, HB3⟩
          case measure => simp [intOf]; omega
      · obtain rfl : k = n := by omega
        have HO := Lib.hid how.out
        clear how
        go_wp2_with fail
        exact bodyPost_ret (v := .tuple #[.slice Au q cu, .int .i64 0]) (by simp [results, Tryz.results88, go_sem]) rfl ⟨_, by rw [HCE.out], by rw [HLV.out, ← HQ.out]; exact HO.out, hbl.out⟩
  · have HCE := Lib.hid (chkE_bad hok)
    have HLV : Hid (lvT t = []) := by show _ = _; unfold lvT; rw [if_neg (by rw [HCE.out]; decide)]
    rw [HCE.out]
    clear hok
    go_wp2_with fail
    exact bodyPost_ret (v := .tuple #[.slice none 0 0, .int .i64 16]) (by simp [results, Tryz.results88, go_sem]) rfl ⟨_, by rw [HCE.out], by rw [HLV.out]; exact World.ownsRow_nil _ _ _ _, bl_drewN (Below.refl _ _) m⟩
end Go.Proofs.YtfgkjofdgohacaaGreatDoor
namespace Go.Proofs.YtfgkjofdgohacaaGreatDoor
open Go Go.RowKit Go.Shelf
/-- The way from the root to v, by f steps at most. -/
def pthF (t : List Nd) : Nat → Nat → List Nat
  | 0, _ => [0]
  | f + 1, v => if v = 0 then [0] else pthF t f (nP t v).toNat ++ [v]
theorem pthF_le (t : List Nd) : ∀ f v, (pthF t f v).length ≤ f + 1 := by
  intro f
  induction f with
  | zero => intro v; simp [pthF]
  | succ f ih =>
    intro v
    unfold pthF
    split
    · simp
    · rw [List.length_append]; have := ih (nP t v).toNat; simp; omega
theorem pthF_eq {t : List Nd} {n : Nat} (hP : ∀ v, 0 < v → v < n → 0 ≤ nP t v ∧ nP t v < v) : ∀ f g v, v ≤ f → v ≤ g → v < n → pthF t f v = pthF t g v := by
  intro f
  induction f with
  | zero =>
    intro g v hf hg hv
    obtain rfl : v = 0 := by omega
    cases g <;> simp [pthF]
  | succ f ih =>
    intro g v hf hg hv
    by_cases e : v = 0
    · subst e; cases g <;> simp [pthF]
    · cases g with
      | zero => omega
      | succ g =>
        unfold pthF
        rw [if_neg e, if_neg e]
        have := hP v (by omega) hv
        rw [ih g (nP t v).toNat (by omega) (by omega) (by omega)]
set_option maxRecDepth 100000 in
set_option maxHeartbeats 2000000 in
theorem rpath_any (a : Option Addr) (n c : Nat) (t : List Nd) (hn : t.length = n) (hN : n ≤ 1000) (hP : ∀ v, 0 < v → v < n → 0 ≤ nP t v ∧ nP t v < v) : ∀ f v, v ≤ f → f < 1000 → v < n → ∀ w, Rd w a (fl encNd t) →
    Calls Tryz.prog 133 #[.slice a n c, .int .i64 v] w fun e w' => ∃ x, e = .returned x ∧ w'.ownsRow w.heap.size 3 1 x (pthF t f v).length (fl encI (iN (pthF t f v))) ∧ Below w.heap.size w w' := by
  have HN := Lib.hid hn
  have HP := Lib.hid hP
  clear hn hP
  intro f
  induction f with
  | zero =>
    intro v hf _ hv w hA
    obtain rfl : v = 0 := by omega
    have ho : (w.alloc (.cells #[.int .i64 0] 3)).ownsRow w.heap.size 3 1 (.slice (some ⟨w.heap.size, 0, none⟩) 1 1) 1 (fl encI (iN [0])) := owns_made (k := 1) (cs := #[.int .i64 0]) (Nat.le_refl _) rfl (by unfold maxLen; omega)
    have HO := Lib.hid ho
    clear ho
    go_enter Tryz.func133, Tryz.ntmps133
    go_wp2_with fail
    go_ret
    exact ⟨_, rfl, HO.out, bl_alloc (Below.refl _ _) _⟩
  | succ f ih =>
    intro v hf hf2 hv w hA
    by_cases e : v = 0
    · subst e
      have ho : (w.alloc (.cells #[.int .i64 0] 3)).ownsRow w.heap.size 3 1 (.slice (some ⟨w.heap.size, 0, none⟩) 1 1) 1 (fl encI (iN [0])) := owns_made (k := 1) (cs := #[.int .i64 0]) (Nat.le_refl _) rfl (by unfold maxLen; omega)
      have hp : pthF t (f + 1) 0 = [0] := by simp [pthF]
      have HO := Lib.hid ho
      have HPE := Lib.hid hp
      clear ho ih hp
      go_enter Tryz.func133, Tryz.ntmps133
      go_wp2_with fail
      go_ret
      exact ⟨_, rfl, by rw [HPE.out]; exact HO.out, bl_alloc (Below.refl _ _) _⟩
    · have hpv := HP.out v (by omega) hv
      have hp : pthF t (f + 1) v = pthF t f (nP t v).toNat ++ [v] := by rw [pthF, if_neg e]
      obtain ⟨b, o, rfl, hb, hc⟩ := rdNd hA (by rw [HN.out]; omega)
      obtain ⟨G1, _⟩ := hc v (by rw [HN.out]; exact hv)
      obtain ⟨p, hpp⟩ : ∃ p : Nat, nP t v = p := ⟨(nP t v).toNat, by omega⟩
      rw [hpp] at G1 hpv hp
      rw [Int.toNat_natCast] at hp
      have HPE := Lib.hid hp
      have HR := Lib.hid (ih p (by omega) (by omega) (by omega) w hA)
      have hle := pthF_le t f p
      have t1 : ((v : Int) == 0) = false := by simp; omega
      have t2 : decide (v = 0) = false := by simp [e]
      clear ih hp hc e hA
      go_enter Tryz.func133, Tryz.ntmps133
      go_wp2_with fail
      refine HR.out.mono ?_
      rintro e' w1 ⟨x, rfl, ho, hb1⟩
      obtain ⟨q, hq⟩ : ∃ q, q = (pthF t f p).length := ⟨_, rfl⟩
      rw [← hq] at ho hle
      obtain ⟨A1, c1, rfl, _⟩ := owns_slice ho
      have HO := Lib.hid ho
      have HQ := Lib.hid hq
      have HB1 := Lib.hid hb1
      have hbs : w.heap.size ≤ (w1.alloc (.cells #[.int .i64 v] 3)).heap.size := (bl_alloc hb1 _).size
      clear ho hq hb1 HR
      go_wp2_with (at_builtin; refine push_I rfl (.tmp 14) (.tmp 16) rfl w.heap.size (.slice A1 q c1) (iN (pthF t f p)) q (by rw [iN_len]; exact HQ.out) rfl (HO.out.alloc _) _ _ (v : Int) rfl (Blk.new _ _ _) (by omega) hbs ?_; intro g c6 w6 h1 h2 h3 h4; have H61 := Lib.hid h1; have H62 := Lib.hid h2; clear h1 h2 h3 h4)
      have H8 := Lib.hid (bl_grown (bl_alloc HB1.out (.cells #[.int .i64 v] 3)) H62.out (fun r e => (HO.out.lt r e).1))
      go_ret
      exact ⟨_, rfl, by rw [HPE.out, List.length_append, ← HQ.out, iN_snoc]; exact H61.out, H8.out⟩
end Go.Proofs.YtfgkjofdgohacaaGreatDoor
