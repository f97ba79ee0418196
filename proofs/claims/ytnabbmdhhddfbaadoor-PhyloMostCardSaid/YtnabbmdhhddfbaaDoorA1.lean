/- What all walks of a seat share: memory, lists in memory, appends, regions that draw their order. -/
import Derived.WalkKit
import Derived.WalkSpells
import Derived.WalkLawsBesides
import Derived.Lib.Hide
import Derived.StillTail
import Derived.Deep.Quiet
import Derived.BigQuiet
import Derived.Below
import Derived.Deep.RegionHeld3
import Derived.Test.YtnabbmdhhddfbaaDoorRows
import Derived.Deep.QuietTactic
import Derived.Deep.AppendLies
import Derived.Maps.AppendAt
import Derived.Deep.CutBlock
import Derived.Deep.DeepCutAuto
import Derived.Deep.RegionWith
import Derived.LoopIn
import Derived.LoopNIn
import Derived.OwnWalkIn
import Derived.RangeFuncBound
import Derived.RangeFuncCalls
import Derived.RangeFuncLeaves
import Derived.RangeFuncNested
import Derived.Shelf.Abstract
import Derived.Shelf.RegionOpen
import Derived.TacticsInMore
import Derived.RegionTactic
import Derived.BigRegion
import Derived.IntWalk
import Derived.Deep.RegionLaw
namespace Go.Proofs.YtnabbmdhhddfbaaDoor
open Go.RowKit

theorem drewN_add (w : World) (m n : Nat) : (w.drewN m).drewN n = w.drewN (m + n) := by simp
theorem drewN_zero (w : World) : w.drewN 0 = w := rfl
theorem drewN_one (w : World) : w.drew = w.drewN 1 := rfl

theorem bl_drewN {B : Nat} {a w : World} (h : Below B a w) (n : Nat) : Below B a (w.drewN n) := ⟨h.os, h.tape, h.output, h.size, h.block⟩
theorem bl_alloc {a w : World} (h : Below a.heap.size a w) (o : Obj) : Below a.heap.size a (w.alloc o) := h.alloc h.size o
theorem bl_set {a w : World} (h : Below a.heap.size a w) (b o : Nat) (s : Option Nat) (v : Value) (hb : a.heap.size ≤ b) : Below a.heap.size a (w.setCell ⟨b, o, s⟩ v) := h.setCell (p := ⟨b, o, s⟩) hb v
theorem bl_trans {a b c : World} (h : Below a.heap.size a b) (k : Below b.heap.size b c) : Below a.heap.size a c := h.trans (k.mono h.size)
theorem bl_of_drewN (w : World) {w' : World} (h : ∃ n, w' = w.drewN n) : Below w.heap.size w w' := by
  obtain ⟨n, rfl⟩ := h
  exact bl_drewN (Below.refl _ _) n

/-- From 'a' cells are read: the list cs. -/
def Rd (w : World) (a : Option Addr) (cs : List Value) : Prop :=
  0 < cs.length → ∃ b off, a = some ⟨b, off, none⟩ ∧ b < w.heap.size ∧ ∀ i, i < cs.length → w.cell? ⟨b, off + i, none⟩ = some (cs.getD i undef)

theorem Rd.nil (w : World) (a : Option Addr) : Rd w a [] := fun h => absurd h (by simp)
theorem Rd.below {w w' : World} {a : Option Addr} {cs : List Value} (h : Rd w a cs) {B : Nat} (hb : Below B w w') (hB : w.heap.size ≤ B) : Rd w' a cs := by
  intro h0
  obtain ⟨b, off, e, hlt, hc⟩ := h h0
  exact ⟨b, off, e, Nat.lt_of_lt_of_le hlt hb.size, fun i hi => (hb.cell (p := ⟨b, off + i, none⟩) (Nat.lt_of_lt_of_le hlt hB)).trans (hc i hi)⟩
theorem Rd.bl {w w' : World} {a : Option Addr} {cs : List Value} (h : Rd w a cs) (hb : Below w.heap.size w w') : Rd w' a cs := h.below hb (Nat.le_refl _)
theorem Rd.drewN {w : World} {a : Option Addr} {cs : List Value} (h : Rd w a cs) (n : Nat) : Rd (w.drewN n) a cs := h

/-- The cells of a list of elements. -/
def fl {α : Type} (enc : α → List Value) (l : List α) : List Value := l.flatMap enc

theorem fl_length {α : Type} {enc : α → List Value} {k : Nat} (hk : ∀ x, (enc x).length = k) (l : List α) : (fl enc l).length = l.length * k := by
  induction l with
  | nil => simp [fl]
  | cons x l ih =>
    have : fl enc (x :: l) = enc x ++ fl enc l := by simp [fl]
    rw [this, List.length_append, hk, ih, List.length_cons, Nat.succ_mul]
    omega

theorem fl_getElem? {α : Type} {enc : α → List Value} {k : Nat} (hk : ∀ x, (enc x).length = k) (l : List α) (i j : Nat) (hj : j < k) :
    (fl enc l)[i * k + j]? = (l[i]?).bind fun x => (enc x)[j]? := by
  induction l generalizing i with
  | nil => simp [fl]
  | cons x l ih =>
    have : fl enc (x :: l) = enc x ++ fl enc l := by simp [fl]
    rw [this]
    cases i with
    | zero =>
      rw [List.getElem?_append_left (by rw [hk]; omega)]
      simp
    | succ i =>
      rw [List.getElem?_append_right (by rw [hk, Nat.succ_mul]; omega), hk, show (i + 1) * k + j - k = i * k + j by rw [Nat.succ_mul]; omega, ih]
      simp

theorem fl_append {α : Type} (enc : α → List Value) (l m : List α) : fl enc (l ++ m) = fl enc l ++ fl enc m := by simp [fl]
theorem fl_snoc {α : Type} (enc : α → List Value) (l : List α) (x : α) : fl enc (l ++ [x]) = fl enc l ++ enc x := by simp [fl]
theorem fl_nil {α : Type} (enc : α → List Value) : fl enc ([] : List α) = [] := rfl

/-- What is read of element i, cell j. -/
theorem rd_elem {α : Type} {enc : α → List Value} {k : Nat} (hk : ∀ x, (enc x).length = k) {l : List α} {w : World} {a : Option Addr} (h : Rd w a (fl enc l)) (hk0 : 0 < k) (h0 : 0 < l.length) :
    ∃ b off, a = some ⟨b, off, none⟩ ∧ b < w.heap.size ∧ ∀ i (hi : i < l.length) j, j < k → w.cell? ⟨b, off + (i * k + j), none⟩ = (enc l[i])[j]? := by
  have hlen := fl_length hk l
  have hpos : 0 < l.length * k := Nat.mul_pos h0 hk0
  obtain ⟨b, off, e, hlt, hc⟩ := h (by omega)
  refine ⟨b, off, e, hlt, fun i hi j hj => ?_⟩
  have hik : i * k + j < l.length * k := by
    have : (i + 1) * k ≤ l.length * k := Nat.mul_le_mul_right _ hi
    rw [Nat.succ_mul] at this
    omega
  rw [hc (i * k + j) (by omega)]
  have := fl_getElem? hk l i j hj
  rw [List.getElem?_eq_getElem hi] at this
  simp only [Option.bind_some] at this
  rw [← this, List.getD_eq_getElem?_getD, List.getElem?_eq_getElem (by omega)]
  simp

/-- An owned slice is read. -/
theorem rd_of_owns {w : World} {base e k : Nat} {a : Option Addr} {n cap : Nat} {cs : List Value} (h : w.ownsRow base e k (.slice a n cap) n cs) : Rd w a cs := by
  intro h0
  rcases h.2 with ⟨hv, hn⟩ | ⟨g, cap', cur, hv, hg, hh, hnc, hcm, hcs, ht⟩
  · have := h.1
    subst hn
    simp at this
    rw [this] at h0
    simp at h0
  · simp only [Value.slice.injEq] at hv
    obtain ⟨rfl, _, rfl⟩ := hv
    refine ⟨g, 0, rfl, (Array.getElem?_eq_some_iff.1 hh).1, fun i hi => ?_⟩
    rw [World.cell?]
    simp only [hh]
    have hlt : i < n * k := by rw [← h.1]; exact hi
    have hsz : i < cur.size := by rw [hcs]; exact Nat.lt_of_lt_of_le hlt (Nat.mul_le_mul_right _ hnc)
    simp only [Option.isSome_none, Bool.false_eq_true, if_false, Nat.zero_add]
    rw [← ht, List.getD_eq_getElem?_getD, List.getElem?_take, if_pos hlt]
    simp [hsz]

theorem owns_slice {w : World} {base e k : Nat} {v : Value} {n : Nat} {cs : List Value} (h : w.ownsRow base e k v n cs) : ∃ a cap, v = .slice a n cap ∧ (n = 0 ∨ ∃ g, base ≤ g ∧ g < w.heap.size ∧ a = some ⟨g, 0, none⟩) := by
  rcases h.2 with ⟨rfl, rfl⟩ | ⟨g, cap', cur, rfl, hg, hh, _⟩
  · exact ⟨none, 0, rfl, .inl rfl⟩
  · exact ⟨some ⟨g, 0, none⟩, cap', rfl, .inr ⟨g, hg, (Array.getElem?_eq_some_iff.1 hh).1, rfl⟩⟩

theorem owns_below {w w' : World} {base e k : Nat} {v : Value} {n : Nat} {cs : List Value} (h : w.ownsRow base e k v n cs) (hb : Below w.heap.size w w') : w'.ownsRow base e k v n cs := by
  refine ⟨h.1, ?_⟩
  rcases h.2 with h2 | ⟨g, cap, cur, hv, hg, hh, r⟩
  · exact .inl h2
  · exact .inr ⟨g, cap, cur, hv, hg, by rw [hb.block g (Array.getElem?_eq_some_iff.1 hh).1]; exact hh, r⟩

theorem owns_mono {w : World} {base base' e k : Nat} {v : Value} {n : Nat} {cs : List Value} (h : w.ownsRow base e k v n cs) (hb : base' ≤ base) : w.ownsRow base' e k v n cs := by
  refine ⟨h.1, ?_⟩
  rcases h.2 with h2 | ⟨g, cap, cur, hv, hg, hh, r⟩
  · exact .inl h2
  · exact .inr ⟨g, cap, cur, hv, Nat.le_trans hb hg, hh, r⟩

/-- A block of cells that is known whole. -/
def Blk (w : World) (B : Nat) (cs : Array Value) (t : TypeId) : Prop := w.heap[B]? = some (.cells cs t (0, 0))

theorem Blk.lt {w : World} {B : Nat} {cs : Array Value} {t : TypeId} (h : Blk w B cs t) : B < w.heap.size := (Array.getElem?_eq_some_iff.1 h).1
theorem Blk.cell {w : World} {B : Nat} {cs : Array Value} {t : TypeId} (h : Blk w B cs t) (i : Nat) : w.cell? ⟨B, i, none⟩ = cs[i]? := by
  unfold Blk at h
  simp [World.cell?, h]
theorem Blk.free {w : World} {B : Nat} {cs : Array Value} {t : TypeId} (h : Blk w B cs t) (i : Nat) : w.frozen? ⟨B, i, none⟩ = false := by
  unfold Blk at h
  simp [World.frozen?, h]
theorem Blk.new (w : World) (cs : Array Value) (t : TypeId) : Blk (w.alloc (.cells cs t)) w.heap.size cs t := heap_alloc_new w _
theorem Blk.alloc {w : World} {B : Nat} {cs : Array Value} {t : TypeId} (h : Blk w B cs t) (o : Obj) : Blk (w.alloc o) B cs t := (Below.heap_alloc w o B h.lt).trans h
theorem Blk.drewN {w : World} {B : Nat} {cs : Array Value} {t : TypeId} (h : Blk w B cs t) (n : Nat) : Blk (w.drewN n) B cs t := h
theorem Blk.below {w w' : World} {B : Nat} {cs : Array Value} {t : TypeId} (h : Blk w B cs t) (hb : Below w.heap.size w w') : Blk w' B cs t := (hb.block B h.lt).trans h
theorem Blk.set {w : World} {B : Nat} {cs : Array Value} {t : TypeId} (h : Blk w B cs t) (i : Nat) (v : Value) : Blk (w.setCell ⟨B, i, none⟩ v) B (cs.setIfInBounds i v) t := by
  unfold Blk at *
  simp [World.setCell, Array.getElem?_modify, h]
theorem Blk.other {w : World} {B B' : Nat} {cs : Array Value} {t : TypeId} (h : Blk w B cs t) (hne : B ≠ B') (i : Nat) (v : Value) : Blk (w.setCell ⟨B', i, none⟩ v) B cs t :=
  (Below.heap_setCell w ⟨B', i, none⟩ v B hne).trans h
theorem Blk.grown {w w' : World} {B : Nat} {cs : Array Value} {t : TypeId} {row : Option Nat} (h : Blk w B cs t) (hg : w.grownBy w' row) (hr : some B ≠ row) : Blk w' B cs t := (hg.block B h.lt hr).trans h

theorem ba_inj {x y : ByteArray} : x.toList = y.toList ↔ x = y := by
  constructor
  · intro h
    rw [ByteArray.toList_eq, ByteArray.toList_eq] at h
    obtain ⟨⟨x⟩⟩ := x
    obtain ⟨⟨y⟩⟩ := y
    simp at h
    rw [h]
  · intro h; rw [h]
theorem ret_b {a b : Bool} (h : a = b) : Ending.returned (.bool a) = .returned (.bool b) := by rw [h]
theorem ret_i {k : IntKind} {a b : Int} (h : a = b) : Ending.returned (.int k a) = .returned (.int k b) := by rw [h]

/-- The first place at which p holds, or -1. -/
def idxF {α : Type} (p : α → Bool) (l : List α) : Int := if l.any p then (l.findIdx p : Int) else -1
def NoneBefore {α : Type} (p : α → Bool) (l : List α) (k : Nat) : Prop := ∀ i (h : i < l.length), i < k → p l[i] = false
theorem NoneBefore.zero {α : Type} (p : α → Bool) (l : List α) : NoneBefore p l 0 := fun _ _ h => absurd h (by omega)
theorem NoneBefore.next {α : Type} {p : α → Bool} {l : List α} {k : Nat} (h : NoneBefore p l k) (hk : k < l.length) (hp : p l[k] = false) : NoneBefore p l (k + 1) := by
  intro i hi hik
  by_cases e : i = k
  · subst e; exact hp
  · exact h i hi (by omega)
theorem NoneBefore.found {α : Type} {p : α → Bool} {l : List α} {k : Nat} (h : NoneBefore p l k) (hk : k < l.length) (hp : p l[k] = true) : idxF p l = k := by
  have ha : l.any p = true := List.any_eq_true.2 ⟨l[k], List.getElem_mem hk, hp⟩
  have he : l.findIdx p = k := (List.findIdx_eq hk).2 ⟨hp, fun j hj => h j (by omega) hj⟩
  rw [idxF, if_pos ha, he]
theorem NoneBefore.any {α : Type} {p : α → Bool} {l : List α} {k : Nat} (h : NoneBefore p l k) (hk : l.length ≤ k) : l.any p = false := by
  rw [List.any_eq_false]
  intro x hx
  obtain ⟨i, hi, rfl⟩ := List.getElem_of_mem hx
  rw [h i hi (by omega)]
  simp
theorem NoneBefore.none {α : Type} {p : α → Bool} {l : List α} {k : Nat} (h : NoneBefore p l k) (hk : l.length ≤ k) : idxF p l = -1 := by
  rw [idxF, if_neg (by rw [h.any hk]; simp)]
theorem idxF_ge {α : Type} (p : α → Bool) (l : List α) : decide (0 ≤ idxF p l) = l.any p := by
  rw [idxF]
  split <;> simp_all

theorem owns_cell {w : World} {base e k g n cap : Nat} {xs : List Value} (h : w.ownsRow base e k (.slice (some ⟨g, 0, none⟩) n cap) n xs) (j : Nat) (hj : j < n * k) : ∃ v, w.cell? ⟨g, j, none⟩ = some v := by
  rw [h.cellAt j hj, List.getElem?_eq_getElem (by rw [h.1]; exact hj)]
  exact ⟨_, rfl⟩

/-- A list that is filled from the front: k elements are done. -/
def done {α β : Type} (f : α → β) (z : β) (l : List α) (k : Nat) : List β := (l.take k).map f ++ List.replicate (l.length - k) z
theorem done_length {α β : Type} (f : α → β) (z : β) (l : List α) (k : Nat) : (done f z l k).length = l.length := by simp [done]; omega
theorem done_zero {α β : Type} (f : α → β) (z : β) (l : List α) : done f z l 0 = List.replicate l.length z := by simp [done]
theorem done_all {α β : Type} (f : α → β) (z : β) (l : List α) (k : Nat) (hk : l.length ≤ k) : done f z l k = l.map f := by
  rw [done, List.take_of_length_le hk, show l.length - k = 0 by omega]
  simp
theorem done_set {α β : Type} (f : α → β) (z : β) (l : List α) (k : Nat) (hk : k < l.length) : (done f z l k).set k (f l[k]) = done f z l (k + 1) := by
  have hl : ((l.take k).map f).length = k := by simp; omega
  rw [done, done, List.set_append_right _ _ (by omega), hl, Nat.sub_self, show l.length - k = (l.length - (k + 1)) + 1 by omega, List.replicate_succ, List.set_cons_zero, List.take_succ_eq_append_getElem hk, List.map_append, List.append_assoc]
  rfl

theorem made_cells {α : Type} (enc : α → List Value) (k : Nat) (hk : ∀ x, (enc x).length = k) (hk0 : 0 < k) (x : α) (n : Nat) : (madeCells (enc x).toArray (n * k)).toList = fl enc (List.replicate n x) := by
  apply List.ext_getElem?
  intro i
  by_cases hi : i < n * k
  · have hq : i / k < n := (Nat.div_lt_iff_lt_mul hk0).2 hi
    have hr : i % k < k := Nat.mod_lt _ hk0
    have e := fl_getElem? hk (List.replicate n x) (i / k) (i % k) hr
    rw [show i / k * k + i % k = i by rw [Nat.mul_comm]; exact Nat.div_add_mod i k] at e
    have hs : (enc x).toArray.size = k := by simp [hk]
    rw [e]
    simp [madeCells, hk, hi, hq, hr]
  · rw [List.getElem?_eq_none (by simp [madeCells]; omega), List.getElem?_eq_none (by rw [fl_length hk]; simp; omega)]

theorem owns_made {w : World} {base e k n : Nat} {cs : Array Value} (hb : base ≤ w.heap.size) (hc : cs.size = n * k) (hn : n ≤ maxLen) : (w.alloc (.cells cs e)).ownsRow base e k (.slice (some ⟨w.heap.size, 0, none⟩) n n) n cs.toList :=
  ⟨by simpa using hc, .inr ⟨w.heap.size, n, cs, rfl, hb, heap_alloc_new w _, Nat.le_refl _, hn, hc, by rw [← hc, ← Array.length_toList]; exact List.take_length⟩⟩

/-- A block of n cells, told by a function. -/
def ofF (n : Nat) (g : Nat → Value) : Array Value := Array.ofFn (n := n) fun i => g i.val
theorem ofF_size (n : Nat) (g : Nat → Value) : (ofF n g).size = n := by simp [ofF]
theorem ofF_get (n : Nat) (g : Nat → Value) (i : Nat) (h : i < n) : (ofF n g)[i]? = some (g i) := by simp [ofF, h]
theorem ofF_set (n : Nat) (g : Nat → Value) (i : Nat) (v : Value) : (ofF n g).setIfInBounds i v = ofF n (fun j => if j = i then v else g j) := by
  apply Array.ext
  · simp [ofF]
  · intro j h1 h2
    simp only [ofF_size] at h2
    rw [Array.getElem_setIfInBounds (by rw [ofF_size]; exact h2)]
    simp only [ofF, Array.getElem_ofFn]
    by_cases e : i = j
    · subst e; simp
    · rw [if_neg e, if_neg (fun h => e h.symm)]
theorem ofF_congr {n : Nat} {g g' : Nat → Value} (h : ∀ i, i < n → g i = g' i) : ofF n g = ofF n g' := by
  unfold ofF
  congr 1
  funext i
  exact h i.val i.isLt
theorem Blk.getF {w : World} {B n : Nat} {g : Nat → Value} {t : TypeId} (h : Blk w B (ofF n g) t) (i : Nat) (hi : i < n) : w.cell? ⟨B, i, none⟩ = some (g i) := (h.cell i).trans (ofF_get n g i hi)
theorem Blk.setF {w : World} {B n : Nat} {g : Nat → Value} {t : TypeId} (h : Blk w B (ofF n g) t) (i : Nat) (v : Value) : Blk (w.setCell ⟨B, i, none⟩ v) B (ofF n fun j => if j = i then v else g j) t := by
  have := h.set i v
  rwa [ofF_set] at this

theorem Blk.new2 (w : World) (o : Obj) (cs : Array Value) (t : TypeId) : Blk ((w.alloc o).alloc (.cells cs t)) (w.heap.size + 1) cs t := by
  have := Blk.new (w.alloc o) cs t
  simpa using this

theorem blk_stored2 {w : World} {B : Nat} {u0 u1 v0 v1 : Value} {t : TypeId} (h : Blk w B #[u0, u1] t) : Blk ((w.setCell ⟨B, 0, none⟩ v0).setCell ⟨B, 1, none⟩ v1) B #[v0, v1] t := by
  have := (h.set 0 v0).set 1 v1
  simpa using this
theorem bl_sets2 {a w : World} (h : Below a.heap.size a w) (v0 v1 : Value) : Below a.heap.size a ((w.setCell ⟨a.heap.size, 0, none⟩ v0).setCell ⟨a.heap.size, 1, none⟩ v1) :=
  bl_set (bl_set h _ _ _ _ (Nat.le_refl _)) _ _ _ _ (Nat.le_refl _)

theorem wrap_nat (x : Int) (m : Nat) (h : x = m) (hm : m ≤ 9223372036854775807) : IntKind.i64.wrap x = (m : Int) := by
  rw [h]; exact IntWalk.i64_in _ ⟨by omega, by omega⟩

end Go.Proofs.YtnabbmdhhddfbaaDoor
namespace Go.Proofs.YtnabbmdhhddfbaaDoor
open Go.RowKit
abbrev Nd := Int × ByteArray
def iA (l : List Int) (i : Nat) : Int := (l.getD i 0)
def encI (x : Int) : List Value := [.int .i64 x]
theorem encI_len (x : Int) : (encI x).length = 1 := rfl
theorem rdI {l : List Int} {w : World} {a : Option Addr} (h : Rd w a (fl encI l)) (h0 : 0 < l.length) : ∃ b off, a = some ⟨b, off, none⟩ ∧ b < w.heap.size ∧ ∀ i, i < l.length → w.cell? ⟨b, off + i, none⟩ = some (.int .i64 (iA l i)) := by
  obtain ⟨b, off, e, hb, hc⟩ := rd_elem encI_len h (by omega) h0
  refine ⟨b, off, e, hb, fun i hi => ?_⟩
  have := hc i hi 0 (by omega); simpa [encI, iA, hi, ← Nat.add_assoc] using this

def sA (l : List ByteArray) (i : Nat) : ByteArray := (l.getD i ByteArray.empty)
def encS (x : ByteArray) : List Value := [.string x]
theorem encS_len (x : ByteArray) : (encS x).length = 1 := rfl
theorem rdS {l : List ByteArray} {w : World} {a : Option Addr} (h : Rd w a (fl encS l)) (h0 : 0 < l.length) : ∃ b off, a = some ⟨b, off, none⟩ ∧ b < w.heap.size ∧ ∀ i, i < l.length → w.cell? ⟨b, off + i, none⟩ = some (.string (sA l i)) := by
  obtain ⟨b, off, e, hb, hc⟩ := rd_elem encS_len h (by omega) h0
  refine ⟨b, off, e, hb, fun i hi => ?_⟩
  have := hc i hi 0 (by omega); simpa [encS, sA, hi, ← Nat.add_assoc] using this

def nP (l : List Nd) (i : Nat) : Int := (l.getD i (0, ByteArray.empty)).1
def nS (l : List Nd) (i : Nat) : ByteArray := (l.getD i (0, ByteArray.empty)).2
def encNd (x : Nd) : List Value := [.int .i64 x.1, .string x.2]
theorem encNd_len (x : Nd) : (encNd x).length = 2 := rfl
theorem rdNd {l : List Nd} {w : World} {a : Option Addr} (h : Rd w a (fl encNd l)) (h0 : 0 < l.length) : ∃ b off, a = some ⟨b, off, none⟩ ∧ b < w.heap.size ∧ ∀ i, i < l.length → w.cell? ⟨b, off + i * 2, none⟩ = some (.int .i64 (nP l i)) ∧ w.cell? ⟨b, off + i * 2 + 1, none⟩ = some (.string (nS l i)) := by
  obtain ⟨b, off, e, hb, hc⟩ := rd_elem encNd_len h (by omega) h0
  refine ⟨b, off, e, hb, fun i hi => ⟨?_, ?_⟩⟩
  · have := hc i hi 0 (by omega); simpa [encNd, nP, hi, ← Nat.add_assoc] using this
  · have := hc i hi 1 (by omega); simpa [encNd, nS, hi, ← Nat.add_assoc] using this

/-- A slice's value: address, length, capacity. -/
abbrev Rw := Option Addr × Nat × Nat
def rA (l : List Rw) (i : Nat) : Option Addr := (l.getD i (none, 0, 0)).1
def rN (l : List Rw) (i : Nat) : Nat := (l.getD i (none, 0, 0)).2.1
def rC (l : List Rw) (i : Nat) : Nat := (l.getD i (none, 0, 0)).2.2
def encR (x : Rw) : List Value := [.slice x.1 x.2.1 x.2.2]
theorem encR_len (x : Rw) : (encR x).length = 1 := rfl
theorem rdR {l : List Rw} {w : World} {a : Option Addr} (h : Rd w a (fl encR l)) (h0 : 0 < l.length) : ∃ b off, a = some ⟨b, off, none⟩ ∧ b < w.heap.size ∧ ∀ i, i < l.length → w.cell? ⟨b, off + i, none⟩ = some (.slice (rA l i) (rN l i) (rC l i)) := by
  obtain ⟨b, off, e, hb, hc⟩ := rd_elem encR_len h (by omega) h0
  refine ⟨b, off, e, hb, fun i hi => ?_⟩
  have := hc i hi 0 (by omega); simpa [encR, rA, rN, rC, hi, ← Nat.add_assoc] using this

def vA (l : List Nat) (i : Nat) : Nat := l.getD i 0
def encV (x : Nat) : List Value := [.int .u64 x]
theorem encV_len (x : Nat) : (encV x).length = 1 := rfl
theorem rdV {l : List Nat} {w : World} {a : Option Addr} (h : Rd w a (fl encV l)) (h0 : 0 < l.length) : ∃ b off, a = some ⟨b, off, none⟩ ∧ b < w.heap.size ∧ ∀ i, i < l.length → w.cell? ⟨b, off + i, none⟩ = some (.int .u64 (vA l i)) := by
  obtain ⟨b, off, e, hb, hc⟩ := rd_elem encV_len h (by omega) h0
  refine ⟨b, off, e, hb, fun i hi => ?_⟩
  have := hc i hi 0 (by omega); simpa [encV, vA, hi, ← Nat.add_assoc] using this
def bA (l : List Bool) (i : Nat) : Bool := l.getD i false
def encB (x : Bool) : List Value := [.bool x]
theorem encB_len (x : Bool) : (encB x).length = 1 := rfl
theorem rdB {l : List Bool} {w : World} {a : Option Addr} (h : Rd w a (fl encB l)) (h0 : 0 < l.length) : ∃ b off, a = some ⟨b, off, none⟩ ∧ b < w.heap.size ∧ ∀ i, i < l.length → w.cell? ⟨b, off + i, none⟩ = some (.bool (bA l i)) := by
  obtain ⟨b, off, e, hb, hc⟩ := rd_elem encB_len h (by omega) h0
  refine ⟨b, off, e, hb, fun i hi => ?_⟩
  have := hc i hi 0 (by omega); simpa [encB, bA, hi, ← Nat.add_assoc] using this
end Go.Proofs.YtnabbmdhhddfbaaDoor
namespace Go.Proofs.YtnabbmdhhddfbaaDoor
open Go
section
variable {P : Program} {ops : Array Oper} {md : Region.Mode} {S : World → Prop} {Q : Exit → Act → World → Prop}

/-- The forced operations that keep S, one after another; then K. -/
def midT (P : Program) (ops : Array Oper) (Q : Exit → Act → World → Prop) (S : World → Prop) (K : Act → World → Prop) : List Nat → Act → World → Prop
  | [], a, w => K a w
  | k :: ms, a, w => wpOp P ops Q k (fun a' w' => S w' ∧ midT P ops Q S K ms a' w') a w

/-- The reads, one after another: the world stays. -/
def headT (P : Program) (ops : Array Oper) (S : World → Prop) (L : Act → Prop) : List Nat → Act → Prop
  | [], a => L a
  | k :: is, a => ∃ o v, ops[k]? = some o ∧ YieldsIf P ops S o v a ∧ headT P ops S L is (a.put o.dst v)

/-- Whatever order is picked for the first n; the others are forced. -/
def anyT (P : Program) (md : Region.Mode) (ops : Array Oper) (Q : Exit → Act → World → Prop) (S : World → Prop) (n : Nat) (K : Act → World → Prop) : Nat → Array Bool → Act → World → Prop
  | 0, listed, a, w => Region.seqB md ops (ops.size - n) n listed = true ∧ K a w
  | f + 1, listed, a, w => Region.ready md ops listed ≠ [] ∧ ∀ i ∈ Region.ready md ops listed, i < n ∧ wpOp P ops Q i (fun a' w' => S w' ∧ anyT P md ops Q S n K f (listed.setIfInBounds i true) a' w') a w

theorem any_of_T {n g : Nat} {K : Act → World → Prop} (hK : ∀ listed a w, Region.seqB md ops (ops.size - n) n listed = true → K a w → wpAny P md ops Q g listed a w) :
    ∀ (f : Nat) (listed : Array Bool) (a : Act) (w : World), anyT P md ops Q S n K f listed a w → wpAny P md ops Q (f + g) listed a w
  | 0, listed, a, w, h => by rw [Nat.zero_add]; exact hK _ _ _ h.1 h.2
  | f + 1, listed, a, w, h => by
    rw [show f + 1 + g = (f + g) + 1 by omega]
    exact ⟨fun h0 => absurd h0 h.1, fun i hi => wpOp_mono (fun a' w' h' => any_of_T hK f _ a' w' h'.2) (h.2 i hi).2⟩

theorem anyT_first {n i : Nat} {K : Act → World → Prop} {oi : Oper} {v : Value} (hi : ops[i]? = some oi) (hsel : ∀ (j : Nat) (o : Oper) cs b, ops[j]? = some o → o.op ≠ .select cs b)
    (hs : Region.sinkB md ops n = true) (hc : Region.chainB md ops n = true) (hn : n < ops.size) (hin : i < n)
    (hQ : ∀ c a w, Q (.panic c) (a.put oi.dst v) w → Q (.panic c) a w) :
    ∀ (f : Nat) (listed : Array Bool) (a : Act) (w : World), HeadInv md ops n listed →
      (∀ j oj, ops[j]? = some oj → j ≠ i → listed.getD j true = false → (∀ e ∈ oj.after, Region.binds md e = true → e.on ≠ i) → oi.apart ops oj = true) →
      i ∈ Region.ready md ops listed → YieldsIf P ops S oi v a → S w →
      anyT P md ops Q S n K f (listed.setIfInBounds i true) (a.put oi.dst v) w → anyT P md ops Q S n K (f + 1) listed a w := by
  intro f
  induction f with
  | zero =>
    intro listed a w inv _ hr hy hS H
    have hun := (mem_ready.1 hr).1
    refine ⟨fun h => (by rw [h] at hr; cases hr), fun j hj => ?_⟩
    have hjn : j < n := by
      rcases Nat.lt_or_ge j n with h | h
      · exact h
      · exact absurd hj (tail_waits hs hc hn inv _ i rfl hin hun j h)
    refine ⟨hjn, ?_⟩
    by_cases hji : j = i
    · subst hji; exact hy.wpOp hi hS ⟨hS, H⟩
    · have := seqB_ready H.1 j (ready_mono hj hji)
      omega
  | succ f ih =>
    intro listed a w inv hfree hr hy hS H
    have hun := (mem_ready.1 hr).1
    refine ⟨fun h => (by rw [h] at hr; cases hr), fun j hj => ?_⟩
    have hjn : j < n := by
      rcases Nat.lt_or_ge j n with h | h
      · exact h
      · exact absurd hj (tail_waits hs hc hn inv _ i rfl hin hun j h)
    refine ⟨hjn, ?_⟩
    by_cases hji : j = i
    · subst hji; exact hy.wpOp hi hS ⟨hS, H⟩
    · have h1 := (H.2 j (ready_mono hj hji)).2
      obtain ⟨hjun, oj, hoj, hall⟩ := mem_ready.1 hj
      have hnot : ∀ e ∈ oj.after, Region.binds md e = true → e.on ≠ i := fun e he hb heq => by
        have h1 := hall e he hb
        rw [heq, getD_both hun] at h1
        cases h1
      have h2 := wpOp_putIf hoj (hfree j oj hoj hji hjun hnot) (fun cs b => hsel i oi cs b hi) (fun cs b => hsel j oj cs b hoj) hQ hy h1
      have hfree' : ∀ k ok, ops[k]? = some ok → k ≠ i → (listed.setIfInBounds j true).getD k true = false →
          (∀ e ∈ ok.after, Region.binds md e = true → e.on ≠ i) → oi.apart ops ok = true := fun k ok hk hki hun hno => by
        refine hfree k ok hk hki ?_ hno
        by_cases hjk : j = k
        · subst hjk; exact hjun
        · rw [getD_set_ne true hjk] at hun; exact hun
      refine wpOp_mono (fun a' w' h3 => ⟨h3.2.1, ih (listed.setIfInBounds j true) a' w' (inv.set hj hjn) hfree' (ready_mono hr (Ne.symm hji)) h3.1 h3.2.1 ?_⟩) h2
      rw [Array.setIfInBounds_comm _ _ hji]
      exact h3.2.2

/-- The forced operations' numbers: each alone may come up. -/
def seqL (md : Region.Mode) (ops : Array Oper) (n : Nat) : List Nat → Array Bool → Bool
  | [], listed => Region.seqB md ops (ops.size - n) n listed
  | k :: ms, listed => decide (Region.ready md ops listed = [k]) && decide (k < n) && seqL md ops n ms (listed.setIfInBounds k true)
/-- The reads' numbers, each free when it comes up, then the forced ones. -/
def headL (md : Region.Mode) (ops : Array Oper) (n : Nat) (ms : List Nat) : List Nat → Array Bool → Bool
  | [], listed => seqL md ops n ms listed
  | k :: is, listed => (Region.ready md ops listed).contains k && Region.free md ops listed k && decide (k < n) && headL md ops n ms is (listed.setIfInBounds k true)
def orderB (md : Region.Mode) (ops : Array Oper) (n : Nat) (is ms : List Nat) : Bool :=
  Region.noSelect ops && decide (is.length + ms.length = n) && decide (n < ops.size) && Region.sinkB md ops n && Region.chainB md ops n && headL md ops n ms is (Array.replicate ops.size false)

theorem anyT_seq {n : Nat} {K : Act → World → Prop} : ∀ (ms : List Nat) (listed : Array Bool) (a : Act) (w : World), seqL md ops n ms listed = true → midT P ops Q S K ms a w → anyT P md ops Q S n K ms.length listed a w
  | [], listed, a, w, hB, h => ⟨hB, h⟩
  | k :: ms, listed, a, w, hB, h => by
    rw [seqL] at hB
    simp only [Bool.and_eq_true, decide_eq_true_eq] at hB
    obtain ⟨⟨h1, h2⟩, h3⟩ := hB
    refine ⟨fun h0 => (by rw [h1] at h0; cases h0), fun i hi => ?_⟩
    rw [h1] at hi
    obtain rfl : i = k := by simpa using hi
    exact ⟨h2, wpOp_mono (fun a' w' h' => ⟨h'.1, anyT_seq ms _ a' w' h3 h'.2⟩) h⟩

theorem anyT_head {n : Nat} {K : Act → World → Prop} (hsel : Region.noSelect ops = true) (hs : Region.sinkB md ops n = true) (hc : Region.chainB md ops n = true) (hn : n < ops.size)
    (hQ : ∀ c a d v w, Q (.panic c) (Act.put a d v) w → Q (.panic c) a w) {ms : List Nat} :
    ∀ (is : List Nat) (listed : Array Bool) (a : Act) (w : World), HeadInv md ops n listed → headL md ops n ms is listed = true → S w →
      headT P ops S (fun a' => midT P ops Q S K ms a' w) is a → anyT P md ops Q S n K (is.length + ms.length) listed a w
  | [], listed, a, w, _, hB, _, h => by
    rw [List.length_nil, Nat.zero_add]
    exact anyT_seq ms listed a w hB h
  | i :: is, listed, a, w, inv, hB, hS, h => by
    rw [headL] at hB
    simp only [Bool.and_eq_true, decide_eq_true_eq] at hB
    obtain ⟨⟨⟨h1, h2⟩, h3⟩, h4⟩ := hB
    obtain ⟨o, v, ho, hy, hk⟩ := h
    have hr : i ∈ Region.ready md ops listed := by simpa using h1
    have := anyT_first ho (Region.noSelect_spec hsel) hs hc hn h3 (fun c a w => hQ c a _ _ w) (is.length + ms.length) listed a w inv (Region.free_spec ho h2) hr hy hS (anyT_head hsel hs hc hn hQ is _ _ w (inv.set hr h3) h4 hS hk)
    rw [List.length_cons, show is.length + 1 + ms.length = is.length + ms.length + 1 by omega]
    exact this

/-- READS FIRST, THEN FORCED ONES THAT KEEP WHAT WAS READ, then the forced end, which may write it. -/
theorem wp_region_order {id : Nat} {a : Act} {w : World} {l : List Oper} (n : Nat) (is ms : List Nat) (hm : P.follows .mixedOrders = true) (hB : orderB .any l.toArray n is ms = true)
    (hS : S w.drew)
    (h : headT P l.toArray S (fun a' => midT P l.toArray (NoPanic Q) S (wpList P l.toArray (NoPanic Q) (l.drop n)) ms a' w.drew) is a) : (Code.region id l.toArray true).wp P Q a w := by
  simp only [orderB, Bool.and_eq_true, decide_eq_true_eq] at hB
  obtain ⟨⟨⟨⟨⟨hsel, hlen⟩, hn⟩, hs⟩, hc⟩, hB⟩ := hB
  have inv0 : HeadInv .any l.toArray n (Array.replicate l.toArray.size false) :=
    ⟨by simp, fun j oj _ hl => (by rw [getD_replicate_false] at hl; cases hl), fun t _ ht => getD_in (by simpa using ht) (getD_replicate_false _ _)⟩
  refine wp_region_noPanic (wp_region_any hm ?_)
  have hdl : (l.drop n).length = l.toArray.size - n := by simp
  have := any_of_T (Q := NoPanic Q) (g := l.toArray.size - n) (fun listed a' w' h1 h2 => by
    have := wpAny_of_seq (md := .any) (Q' := NoPanic Q) (l.drop n) n listed a' w' (fun j => by simp [List.getElem?_drop]) (by rw [hdl]; exact h1) h2
    rwa [hdl] at this) _ _ _ _ (anyT_head (Q := NoPanic Q) hsel hs hc hn (fun _ _ _ _ _ h => h) is _ a w.drew inv0 hB hS h)
  rw [hlen, show n + (l.toArray.size - n) = l.toArray.size by omega] at this
  exact this

theorem get_of_drop {l r : List Oper} {k : Nat} {o : Oper} (h : l.drop k = o :: r) : l.toArray[k]? = some o := by
  have := congrArg (fun x => x[0]?) h
  simpa [List.getElem?_drop] using this
theorem headT_nil {L : Act → Prop} {a : Act} (h : L a) : headT P ops S L [] a := h
theorem headT_cons {l : List Oper} {L : Act → Prop} {a : Act} {k : Nat} {is : List Nat} {o : Oper} {r : List Oper} {v : Value} (ho : l.drop k = o :: r) (hw : Region.wanted o (yielded l.toArray a.tmps) = true) (hy : ∀ w, S w → (execOp a.eval o).run P w = .ok (.value v) w)
    (h : headT P l.toArray S L is (a.put o.dst v)) : headT P l.toArray S L (k :: is) a := ⟨o, v, get_of_drop ho, Or.inl ⟨hw, hy⟩, h⟩
theorem headT_skip {l : List Oper} {L : Act → Prop} {a : Act} {k : Nat} {is : List Nat} {o : Oper} {r : List Oper} (ho : l.drop k = o :: r) (hw : Region.wanted o (yielded l.toArray a.tmps) = false)
    (h : headT P l.toArray S L is (a.put o.dst undef)) : headT P l.toArray S L (k :: is) a := ⟨o, undef, get_of_drop ho, Or.inr ⟨hw, rfl⟩, h⟩
theorem midT_nil {K : Act → World → Prop} {a : Act} {w : World} (h : K a w) : midT P ops Q S K [] a w := h
theorem midT_cons {l : List Oper} {K : Act → World → Prop} {a : Act} {w : World} {k : Nat} {ms : List Nat} {o : Oper} {r : List Oper} (ho : l.drop k = o :: r)
    (h : ∀ K' : Act → World → Prop, Shut (∀ a w, S w → (S w → midT P l.toArray Q S K ms a w) → K' a w) → if Region.wanted o (yielded l.toArray a.tmps) = true then Oper.wp P o a w K' Q else K' (a.put o.dst undef) w) : midT P l.toArray Q S K (k :: ms) a w :=
  wpOp_step (get_of_drop ho) (fun K' hK => h K' (fun a w hS hW => hK a w ⟨hS, hW hS⟩))
end
end Go.Proofs.YtnabbmdhhddfbaaDoor
namespace Go.Proofs.YtnabbmdhhddfbaaDoor
open Go.RowKit
theorem info_I : (Tryd.prog.info? 3).map (fun i => (i.zero, i.size, i.bytes)) = some (some (.int .i64 0), 1, 8) := by kernel_rfl
theorem push_I {w : World} {ops : Array Oper} {rest : List Oper} {o : Oper} {a : Act} {Q : Exit → Act → World → Prop} (hgd : o.guard = none) (s x : Operand) (ho : o.op = .call { callee := .builtin .append, args := #[s, x], argTypes := #[38, 38] })
    (base : Nat) (v : Value) (l : List Int) (n : Nat) (hn : n = l.length) (hs : a.eval s = v) (hown : w.ownsRow base 3 1 v n (fl encI l)) (B c : Nat) (y : Int) (hx : a.eval x = .slice (some ⟨B, 0, none⟩) 1 c) (hB : Blk w B (encI y).toArray 3) (hl : n < 8796093022208) (hbase : base ≤ w.heap.size)
    (h : ∀ g cap w', w'.ownsRow base 3 1 (.slice (some ⟨g, 0, none⟩) (n + 1) cap) (n + 1) (fl encI (l ++ [y])) → w.grownBy w' v.ownBlock → (v.ownBlock = some g ∨ g = w.heap.size) → g < w'.heap.size → wpList Tryd.prog ops Q rest (a.put o.dst (.slice (some ⟨g, 0, none⟩) (n + 1) cap)) w') : wpList Tryd.prog ops Q (o :: rest) a w := by
  obtain ⟨i0, hi, hz0, hz1, hz2⟩ := info_parts info_I
  refine wpList_append_lies w hgd s x 38 ho base 3 i0 _ 1 8 Tryd.underlying38 hi hz0 hz1 hz2 rfl (by decide) v n (fl encI l) hs hown ⟨B, 0, none⟩ 1 c (encI y) hx (by simp [encI]) (World.news_of_block (cs := (encI y).toArray) (t := 3) (fr := (0, 0)) hB) (by intro u hu; simp [encI] at hu; first | (subst hu; rfl) | (rcases hu with rfl | rfl <;> rfl) | (rcases hu with rfl | rfl | rfl | rfl | rfl <;> rfl)) (by omega) (by unfold maxLen; omega) (by omega) hbase _ rfl ?_
  intro g cap w' h1 h2 h3 h4
  rw [← fl_snoc] at h1
  exact h g cap w' h1 h2 h3 h4
theorem spush_I {w : World} {ops : Array Oper} {o : Oper} {a : Act} {K : Act → World → Prop} {Q : Exit → Act → World → Prop} {E : Prop} (hgd : o.guard = none) (s x : Operand) (ho : o.op = .call { callee := .builtin .append, args := #[s, x], argTypes := #[38, 38] })
    (base : Nat) (v : Value) (l : List Int) (n : Nat) (hn : n = l.length) (hs : a.eval s = v) (hown : w.ownsRow base 3 1 v n (fl encI l)) (B c : Nat) (y : Int) (hx : a.eval x = .slice (some ⟨B, 0, none⟩) 1 c) (hB : Blk w B (encI y).toArray 3) (hl : n < 8796093022208) (hbase : base ≤ w.heap.size)
    (h : ∀ g cap w', w'.ownsRow base 3 1 (.slice (some ⟨g, 0, none⟩) (n + 1) cap) (n + 1) (fl encI (l ++ [y])) → w.grownBy w' v.ownBlock → (v.ownBlock = some g ∨ g = w.heap.size) → g < w'.heap.size → K (a.put o.dst (.slice (some ⟨g, 0, none⟩) (n + 1) cap)) w') : if Region.wanted o (yielded ops a.tmps) = true then Oper.wp Tryd.prog o a w K Q else E := by
  obtain ⟨i0, hi, hz0, hz1, hz2⟩ := info_parts info_I
  refine step_append_lies w hgd s x 38 ho base 3 i0 _ 1 8 Tryd.underlying38 hi hz0 hz1 hz2 rfl (by decide) v n (fl encI l) hs hown ⟨B, 0, none⟩ 1 c (encI y) hx (by simp [encI]) (World.news_of_block (cs := (encI y).toArray) (t := 3) (fr := (0, 0)) hB) (by intro u hu; simp [encI] at hu; first | (subst hu; rfl) | (rcases hu with rfl | rfl <;> rfl) | (rcases hu with rfl | rfl | rfl | rfl | rfl <;> rfl)) (by omega) (by unfold maxLen; omega) (by omega) hbase _ rfl ?_
  intro g cap w' h1 h2 h3 h4
  rw [← fl_snoc] at h1
  exact h g cap w' h1 h2 h3 h4

theorem info_Nd : (Tryd.prog.info? 60).map (fun i => (i.zero, i.size, i.bytes)) = some (some (.agg #[.int .i64 0, .string ByteArray.empty]), 2, 24) := by kernel_rfl
theorem push_Nd {w : World} {ops : Array Oper} {rest : List Oper} {o : Oper} {a : Act} {Q : Exit → Act → World → Prop} (hgd : o.guard = none) (s x : Operand) (ho : o.op = .call { callee := .builtin .append, args := #[s, x], argTypes := #[27, 27] })
    (base : Nat) (v : Value) (l : List Nd) (n : Nat) (hn : n = l.length) (hs : a.eval s = v) (hown : w.ownsRow base 60 2 v n (fl encNd l)) (B c : Nat) (y : Nd) (hx : a.eval x = .slice (some ⟨B, 0, none⟩) 1 c) (hB : Blk w B (encNd y).toArray 60) (hl : n < 4398046511104) (hbase : base ≤ w.heap.size)
    (h : ∀ g cap w', w'.ownsRow base 60 2 (.slice (some ⟨g, 0, none⟩) (n + 1) cap) (n + 1) (fl encNd (l ++ [y])) → w.grownBy w' v.ownBlock → (v.ownBlock = some g ∨ g = w.heap.size) → g < w'.heap.size → wpList Tryd.prog ops Q rest (a.put o.dst (.slice (some ⟨g, 0, none⟩) (n + 1) cap)) w') : wpList Tryd.prog ops Q (o :: rest) a w := by
  obtain ⟨i0, hi, hz0, hz1, hz2⟩ := info_parts info_Nd
  refine wpList_append_lies w hgd s x 27 ho base 60 i0 _ 2 24 Tryd.underlying27 hi hz0 hz1 hz2 rfl (by decide) v n (fl encNd l) hs hown ⟨B, 0, none⟩ 1 c (encNd y) hx (by simp [encNd]) (World.news_of_block (cs := (encNd y).toArray) (t := 60) (fr := (0, 0)) hB) (by intro u hu; simp [encNd] at hu; first | (subst hu; rfl) | (rcases hu with rfl | rfl <;> rfl) | (rcases hu with rfl | rfl | rfl | rfl | rfl <;> rfl)) (by omega) (by unfold maxLen; omega) (by omega) hbase _ rfl ?_
  intro g cap w' h1 h2 h3 h4
  rw [← fl_snoc] at h1
  exact h g cap w' h1 h2 h3 h4
theorem spush_Nd {w : World} {ops : Array Oper} {o : Oper} {a : Act} {K : Act → World → Prop} {Q : Exit → Act → World → Prop} {E : Prop} (hgd : o.guard = none) (s x : Operand) (ho : o.op = .call { callee := .builtin .append, args := #[s, x], argTypes := #[27, 27] })
    (base : Nat) (v : Value) (l : List Nd) (n : Nat) (hn : n = l.length) (hs : a.eval s = v) (hown : w.ownsRow base 60 2 v n (fl encNd l)) (B c : Nat) (y : Nd) (hx : a.eval x = .slice (some ⟨B, 0, none⟩) 1 c) (hB : Blk w B (encNd y).toArray 60) (hl : n < 4398046511104) (hbase : base ≤ w.heap.size)
    (h : ∀ g cap w', w'.ownsRow base 60 2 (.slice (some ⟨g, 0, none⟩) (n + 1) cap) (n + 1) (fl encNd (l ++ [y])) → w.grownBy w' v.ownBlock → (v.ownBlock = some g ∨ g = w.heap.size) → g < w'.heap.size → K (a.put o.dst (.slice (some ⟨g, 0, none⟩) (n + 1) cap)) w') : if Region.wanted o (yielded ops a.tmps) = true then Oper.wp Tryd.prog o a w K Q else E := by
  obtain ⟨i0, hi, hz0, hz1, hz2⟩ := info_parts info_Nd
  refine step_append_lies w hgd s x 27 ho base 60 i0 _ 2 24 Tryd.underlying27 hi hz0 hz1 hz2 rfl (by decide) v n (fl encNd l) hs hown ⟨B, 0, none⟩ 1 c (encNd y) hx (by simp [encNd]) (World.news_of_block (cs := (encNd y).toArray) (t := 60) (fr := (0, 0)) hB) (by intro u hu; simp [encNd] at hu; first | (subst hu; rfl) | (rcases hu with rfl | rfl <;> rfl) | (rcases hu with rfl | rfl | rfl | rfl | rfl <;> rfl)) (by omega) (by unfold maxLen; omega) (by omega) hbase _ rfl ?_
  intro g cap w' h1 h2 h3 h4
  rw [← fl_snoc] at h1
  exact h g cap w' h1 h2 h3 h4

theorem info_R : (Tryd.prog.info? 38).map (fun i => (i.zero, i.size, i.bytes)) = some (some (.slice none 0 0), 1, 24) := by kernel_rfl
theorem push_R {w : World} {ops : Array Oper} {rest : List Oper} {o : Oper} {a : Act} {Q : Exit → Act → World → Prop} (hgd : o.guard = none) (s x : Operand) (ho : o.op = .call { callee := .builtin .append, args := #[s, x], argTypes := #[106, 106] })
    (base : Nat) (v : Value) (l : List Rw) (n : Nat) (hn : n = l.length) (hs : a.eval s = v) (hown : w.ownsRow base 38 1 v n (fl encR l)) (B c : Nat) (y : Rw) (hx : a.eval x = .slice (some ⟨B, 0, none⟩) 1 c) (hB : Blk w B (encR y).toArray 38) (hl : n < 4398046511104) (hbase : base ≤ w.heap.size)
    (h : ∀ g cap w', w'.ownsRow base 38 1 (.slice (some ⟨g, 0, none⟩) (n + 1) cap) (n + 1) (fl encR (l ++ [y])) → w.grownBy w' v.ownBlock → (v.ownBlock = some g ∨ g = w.heap.size) → g < w'.heap.size → wpList Tryd.prog ops Q rest (a.put o.dst (.slice (some ⟨g, 0, none⟩) (n + 1) cap)) w') : wpList Tryd.prog ops Q (o :: rest) a w := by
  obtain ⟨i0, hi, hz0, hz1, hz2⟩ := info_parts info_R
  refine wpList_append_lies w hgd s x 106 ho base 38 i0 _ 1 24 Tryd.underlying106 hi hz0 hz1 hz2 rfl (by decide) v n (fl encR l) hs hown ⟨B, 0, none⟩ 1 c (encR y) hx (by simp [encR]) (World.news_of_block (cs := (encR y).toArray) (t := 38) (fr := (0, 0)) hB) (by intro u hu; simp [encR] at hu; first | (subst hu; rfl) | (rcases hu with rfl | rfl <;> rfl) | (rcases hu with rfl | rfl | rfl | rfl | rfl <;> rfl)) (by omega) (by unfold maxLen; omega) (by omega) hbase _ rfl ?_
  intro g cap w' h1 h2 h3 h4
  rw [← fl_snoc] at h1
  exact h g cap w' h1 h2 h3 h4
theorem spush_R {w : World} {ops : Array Oper} {o : Oper} {a : Act} {K : Act → World → Prop} {Q : Exit → Act → World → Prop} {E : Prop} (hgd : o.guard = none) (s x : Operand) (ho : o.op = .call { callee := .builtin .append, args := #[s, x], argTypes := #[106, 106] })
    (base : Nat) (v : Value) (l : List Rw) (n : Nat) (hn : n = l.length) (hs : a.eval s = v) (hown : w.ownsRow base 38 1 v n (fl encR l)) (B c : Nat) (y : Rw) (hx : a.eval x = .slice (some ⟨B, 0, none⟩) 1 c) (hB : Blk w B (encR y).toArray 38) (hl : n < 4398046511104) (hbase : base ≤ w.heap.size)
    (h : ∀ g cap w', w'.ownsRow base 38 1 (.slice (some ⟨g, 0, none⟩) (n + 1) cap) (n + 1) (fl encR (l ++ [y])) → w.grownBy w' v.ownBlock → (v.ownBlock = some g ∨ g = w.heap.size) → g < w'.heap.size → K (a.put o.dst (.slice (some ⟨g, 0, none⟩) (n + 1) cap)) w') : if Region.wanted o (yielded ops a.tmps) = true then Oper.wp Tryd.prog o a w K Q else E := by
  obtain ⟨i0, hi, hz0, hz1, hz2⟩ := info_parts info_R
  refine step_append_lies w hgd s x 106 ho base 38 i0 _ 1 24 Tryd.underlying106 hi hz0 hz1 hz2 rfl (by decide) v n (fl encR l) hs hown ⟨B, 0, none⟩ 1 c (encR y) hx (by simp [encR]) (World.news_of_block (cs := (encR y).toArray) (t := 38) (fr := (0, 0)) hB) (by intro u hu; simp [encR] at hu; first | (subst hu; rfl) | (rcases hu with rfl | rfl <;> rfl) | (rcases hu with rfl | rfl | rfl | rfl | rfl <;> rfl)) (by omega) (by unfold maxLen; omega) (by omega) hbase _ rfl ?_
  intro g cap w' h1 h2 h3 h4
  rw [← fl_snoc] at h1
  exact h g cap w' h1 h2 h3 h4

theorem info_V : (Tryd.prog.info? 44).map (fun i => (i.zero, i.size, i.bytes)) = some (some (.int .u64 0), 1, 8) := by kernel_rfl
theorem push_V {w : World} {ops : Array Oper} {rest : List Oper} {o : Oper} {a : Act} {Q : Exit → Act → World → Prop} (hgd : o.guard = none) (s x : Operand) (ho : o.op = .call { callee := .builtin .append, args := #[s, x], argTypes := #[22, 22] })
    (base : Nat) (v : Value) (l : List Nat) (n : Nat) (hn : n = l.length) (hs : a.eval s = v) (hown : w.ownsRow base 44 1 v n (fl encV l)) (B c : Nat) (y : Nat) (hx : a.eval x = .slice (some ⟨B, 0, none⟩) 1 c) (hB : Blk w B (encV y).toArray 44) (hl : n < 8796093022208) (hbase : base ≤ w.heap.size)
    (h : ∀ g cap w', w'.ownsRow base 44 1 (.slice (some ⟨g, 0, none⟩) (n + 1) cap) (n + 1) (fl encV (l ++ [y])) → w.grownBy w' v.ownBlock → (v.ownBlock = some g ∨ g = w.heap.size) → g < w'.heap.size → wpList Tryd.prog ops Q rest (a.put o.dst (.slice (some ⟨g, 0, none⟩) (n + 1) cap)) w') : wpList Tryd.prog ops Q (o :: rest) a w := by
  obtain ⟨i0, hi, hz0, hz1, hz2⟩ := info_parts info_V
  refine wpList_append_lies w hgd s x 22 ho base 44 i0 _ 1 8 Tryd.underlying22 hi hz0 hz1 hz2 rfl (by decide) v n (fl encV l) hs hown ⟨B, 0, none⟩ 1 c (encV y) hx (by simp [encV]) (World.news_of_block (cs := (encV y).toArray) (t := 44) (fr := (0, 0)) hB) (by intro u hu; simp [encV] at hu; first | (subst hu; rfl) | (rcases hu with rfl | rfl <;> rfl) | (rcases hu with rfl | rfl | rfl | rfl | rfl <;> rfl)) (by omega) (by unfold maxLen; omega) (by omega) hbase _ rfl ?_
  intro g cap w' h1 h2 h3 h4
  rw [← fl_snoc] at h1
  exact h g cap w' h1 h2 h3 h4
theorem spush_V {w : World} {ops : Array Oper} {o : Oper} {a : Act} {K : Act → World → Prop} {Q : Exit → Act → World → Prop} {E : Prop} (hgd : o.guard = none) (s x : Operand) (ho : o.op = .call { callee := .builtin .append, args := #[s, x], argTypes := #[22, 22] })
    (base : Nat) (v : Value) (l : List Nat) (n : Nat) (hn : n = l.length) (hs : a.eval s = v) (hown : w.ownsRow base 44 1 v n (fl encV l)) (B c : Nat) (y : Nat) (hx : a.eval x = .slice (some ⟨B, 0, none⟩) 1 c) (hB : Blk w B (encV y).toArray 44) (hl : n < 8796093022208) (hbase : base ≤ w.heap.size)
    (h : ∀ g cap w', w'.ownsRow base 44 1 (.slice (some ⟨g, 0, none⟩) (n + 1) cap) (n + 1) (fl encV (l ++ [y])) → w.grownBy w' v.ownBlock → (v.ownBlock = some g ∨ g = w.heap.size) → g < w'.heap.size → K (a.put o.dst (.slice (some ⟨g, 0, none⟩) (n + 1) cap)) w') : if Region.wanted o (yielded ops a.tmps) = true then Oper.wp Tryd.prog o a w K Q else E := by
  obtain ⟨i0, hi, hz0, hz1, hz2⟩ := info_parts info_V
  refine step_append_lies w hgd s x 22 ho base 44 i0 _ 1 8 Tryd.underlying22 hi hz0 hz1 hz2 rfl (by decide) v n (fl encV l) hs hown ⟨B, 0, none⟩ 1 c (encV y) hx (by simp [encV]) (World.news_of_block (cs := (encV y).toArray) (t := 44) (fr := (0, 0)) hB) (by intro u hu; simp [encV] at hu; first | (subst hu; rfl) | (rcases hu with rfl | rfl <;> rfl) | (rcases hu with rfl | rfl | rfl | rfl | rfl <;> rfl)) (by omega) (by unfold maxLen; omega) (by omega) hbase _ rfl ?_
  intro g cap w' h1 h2 h3 h4
  rw [← fl_snoc] at h1
  exact h g cap w' h1 h2 h3 h4

end Go.Proofs.YtnabbmdhhddfbaaDoor
namespace Go.Proofs.YtnabbmdhhddfbaaDoor
open Go.RowKit
section
variable {α : Type} {enc : α → List Value}
theorem run_append_nilsrc {P : Program} (w : World) {base : Nat} {t ty e : TypeId} {i : TypeInfo} {k : Nat} (ht : P.underlying t = some (.slice e)) (hi : P.info? e = some i) {v : Value} {n : Nat} {xs : List Value} (hown : w.ownsRow base e k v n xs) (c : Nat) :
    (Builtin.append_ #[t, t] ty #[v, .slice none 0 c]).run P w = .ok v w := by
  rcases hown.2 with ⟨rfl, rfl⟩ | ⟨g, cap, cur, rfl, _, _, hnc, _⟩
  · simp [Builtin.append_, run_underlying ht, sizeOf, typeInfo, hi, Builtin.lenOf, Builtin.firstCells]
  · simp [Builtin.append_, run_underlying ht, sizeOf, typeInfo, hi, Builtin.lenOf, Builtin.firstCells, hnc, storeCells]
/-- One append of a whole list. -/
theorem run_pushs {w : World} {k bytes : Nat} (hk : ∀ x, (enc x).length = k) (hk0 : 0 < k) (h1 : ∀ x, ∀ u ∈ enc x, u.oneCell' = true) {base : Nat} {t ty e : TypeId} {z : Value} (ht : Tryd.prog.underlying t = some (.slice e))
    (hinfo : (Tryd.prog.info? e).map (fun i => (i.zero, i.size, i.bytes)) = some (some z, k, bytes)) (hzs : z.cells.size = k) (v : Value) (l : List α) (n : Nat) (hn : n = l.length) (hown : w.ownsRow base e k v n (fl enc l))
    (A : Option Addr) (m c : Nat) (l2 : List α) (hm : m = l2.length) (hA : Rd w A (fl enc l2)) (hA0 : A = none → m = 0) (hlen : n + m < 1048576) (hbytes : bytes ≤ 1048576) (hbase : base ≤ w.heap.size) :
    ∃ v' w', (Builtin.append_ #[t, t] ty #[v, .slice A m c]).run Tryd.prog w = .ok v' w' ∧ w'.ownsRow base e k v' (n + m) (fl enc (l ++ l2)) ∧ w.grownBy w' v.ownBlock ∧ (v'.ownBlock = v.ownBlock ∨ v'.ownBlock = some w.heap.size) := by
  obtain ⟨i0, hi, hz0, hz1, hz2⟩ := info_parts hinfo
  rcases A with _ | ad
  · have h0 := hA0 rfl
    subst h0
    have : l2 = [] := List.eq_nil_of_length_eq_zero hm.symm
    subst this
    refine ⟨v, w, run_append_nilsrc w ht hi hown c, ?_, World.grownBy.refl w _, .inl rfl⟩
    rw [List.append_nil]; exact hown
  · have hcells : ∀ j u, (fl enc l2)[j]? = some u → w.cell? (ad.add j) = some u := by
      intro j u hu
      have hj : j < (fl enc l2).length := by
        rcases Nat.lt_or_ge j (fl enc l2).length with h | h
        · exact h
        · rw [List.getElem?_eq_none h] at hu; cases hu
      obtain ⟨b, off, e1, _, hc⟩ := hA (by omega)
      have e1 := Option.some.inj e1
      have h7 := hc j hj
      rw [List.getD_eq_getElem?_getD, hu] at h7
      rw [e1]
      by_cases ej : j = 0
      · subst ej; simpa [Addr.add] using h7
      · simpa [Addr.add, ej] using h7
    have hmul : (n + m) * bytes ≤ 1048576 * 1048576 := Nat.mul_le_mul (Nat.le_of_lt hlen) hbytes
    obtain ⟨v', w', hrun, h2, h3, _, h5⟩ := run_append_own_at (P := Tryd.prog) w base t ty e i0 z k bytes ht hi hz0 hz1 hz2 hzs hk0 v n (fl enc l) hown ad m c (fl enc l2) (by rw [fl_length hk, hm]) hcells
      (fun u hu => by
        obtain ⟨x, _, hx⟩ := List.mem_flatMap.1 hu
        exact h1 x u hx) (by unfold maxLen; omega) (by omega) hbase
    exact ⟨v', w', hrun, by rw [fl_append]; exact h2, h3, h5⟩
theorem wp_pushs {w : World} {k bytes : Nat} {o : Oper} {a : Act} {K : Act → World → Prop} {Q : Exit → Act → World → Prop} (hk : ∀ x, (enc x).length = k) (hk0 : 0 < k) (h1 : ∀ x, ∀ u ∈ enc x, u.oneCell' = true) {base : Nat} {t e : TypeId} {z : Value} (ht : Tryd.prog.underlying t = some (.slice e))
    (hinfo : (Tryd.prog.info? e).map (fun i => (i.zero, i.size, i.bytes)) = some (some z, k, bytes)) (hzs : z.cells.size = k) (s x : Operand) (ho : o.op = .call { callee := .builtin .append, args := #[s, x], argTypes := #[t, t] })
    (v : Value) (l : List α) (n : Nat) (hn : n = l.length) (hs : a.eval s = v) (hown : w.ownsRow base e k v n (fl enc l))
    (A : Option Addr) (m c : Nat) (l2 : List α) (hm : m = l2.length) (hx : a.eval x = .slice A m c) (hA : Rd w A (fl enc l2)) (hA0 : A = none → m = 0) (hlen : n + m < 1048576) (hbytes : bytes ≤ 1048576) (hbase : base ≤ w.heap.size)
    (h : ∀ v' w', w'.ownsRow base e k v' (n + m) (fl enc (l ++ l2)) → w.grownBy w' v.ownBlock → (v'.ownBlock = v.ownBlock ∨ v'.ownBlock = some w.heap.size) → K (a.put o.dst v') w') : o.wp Tryd.prog a w K Q := by
  obtain ⟨v', w', hrun, h2, h3, h4⟩ := run_pushs (ty := o.type) hk hk0 h1 ht hinfo hzs v l n hn hown A m c l2 hm hA hA0 hlen hbytes hbase
  unfold Oper.wp execOp
  simp only [ho, resolve, invoke, builtin, Sem.run_bind, Sem.run_pure, Result.andThen_ok, List.map_toArray, List.map_cons, List.map_nil, hs, hx, hrun]
  exact h v' w' h2 h3 h4
theorem wpList_pushs {w : World} {k bytes : Nat} {ops : Array Oper} {rest : List Oper} {o : Oper} {a : Act} {Q : Exit → Act → World → Prop} (hgd : o.guard = none) (hk : ∀ x, (enc x).length = k) (hk0 : 0 < k) (h1 : ∀ x, ∀ u ∈ enc x, u.oneCell' = true) {base : Nat} {t e : TypeId} {z : Value} (ht : Tryd.prog.underlying t = some (.slice e))
    (hinfo : (Tryd.prog.info? e).map (fun i => (i.zero, i.size, i.bytes)) = some (some z, k, bytes)) (hzs : z.cells.size = k) (s x : Operand) (ho : o.op = .call { callee := .builtin .append, args := #[s, x], argTypes := #[t, t] })
    (v : Value) (l : List α) (n : Nat) (hn : n = l.length) (hs : a.eval s = v) (hown : w.ownsRow base e k v n (fl enc l))
    (A : Option Addr) (m c : Nat) (l2 : List α) (hm : m = l2.length) (hx : a.eval x = .slice A m c) (hA : Rd w A (fl enc l2)) (hA0 : A = none → m = 0) (hlen : n + m < 1048576) (hbytes : bytes ≤ 1048576) (hbase : base ≤ w.heap.size)
    (h : ∀ v' w', w'.ownsRow base e k v' (n + m) (fl enc (l ++ l2)) → w.grownBy w' v.ownBlock → (v'.ownBlock = v.ownBlock ∨ v'.ownBlock = some w.heap.size) → wpList Tryd.prog ops Q rest (a.put o.dst v') w') : wpList Tryd.prog ops Q (o :: rest) a w :=
  wpList_plain hgd fun _ hK => wp_pushs hk hk0 h1 ht hinfo hzs s x ho v l n hn hs hown A m c l2 hm hx hA hA0 hlen hbytes hbase fun v' w' h2 h3 h4 => hK _ _ (h v' w' h2 h3 h4)
end
end Go.Proofs.YtnabbmdhhddfbaaDoor
