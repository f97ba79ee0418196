/- Memory: a map that is asked whether a key is there; rows of numbers that the call made, each in a block of its own. -/
import Derived.Test.YtahgffjkkdbjeaaDoorLB
import Derived.Test.YtahgffjkkdbjeaaDoorZC
namespace Go.Proofs.YtahgffjkkdbjeaaDoor
open Go.RowKit Go.Maps
/-- Block b is a map from strings to numbers that reads as F; its keys are those of G. -/
def MH (w : World) (b n : Nat) (F : ByteArray → Int) (G : ByteArray → Bool) : Prop := ∃ D : DataW Unit, w.ownsMap Tryd.prog 9 (plainElem Tryd.prog 3) b n D ∧ (∀ s : ByteArray, D.atKey (.string s.data.toList) (.lit (.int .i64 0)) = .lit (.int .i64 (F s))) ∧ ∀ s : ByteArray, Maps.has D (.string s.data.toList) = G s
theorem MH.made (w : World) : MH (w.alloc (.map #[] 0)) w.heap.size 0 (fun _ => 0) (fun _ => false) := ⟨_, World.ownsMap_made w _ _ _, fun _ => rfl, fun _ => rfl⟩
theorem MH.mi {w : World} {b n : Nat} {F : ByteArray → Int} {G : ByteArray → Bool} (h : MH w b n F G) : MI w b n F := let ⟨D, h1, h2, _⟩ := h; ⟨D, h1, h2⟩
theorem MH.kept {w w' : World} {b n : Nat} {F : ByteArray → Int} {G : ByteArray → Bool} {row : Option Nat} (h : MH w b n F G) (hg : w.grownBy w' row) (hne : some b ≠ row) : MH w' b n F G := let ⟨D, h1, h2, h3⟩ := h; ⟨D, h1.kept hg hne, h2, h3⟩
theorem MH.alloc {w : World} {b n : Nat} {F : ByteArray → Int} {G : ByteArray → Bool} (h : MH w b n F G) (o : Obj) : MH (w.alloc o) b n F G := let ⟨D, h1, h2, h3⟩ := h; ⟨D, h1.alloc o, h2, h3⟩
theorem MH.lt {w : World} {b n : Nat} {F : ByteArray → Int} {G : ByteArray → Bool} (h : MH w b n F G) : b < w.heap.size := let ⟨_, h1, _⟩ := h; h1.lt
theorem MH.bl {w w' : World} {b n : Nat} {F : ByteArray → Int} {G : ByteArray → Bool} (h : MH w b n F G) (hb : Below w.heap.size w w') : MH w' b n F G := by
  obtain ⟨D, ⟨es, clock, h1, h2⟩, h3⟩ := h
  exact ⟨D, ⟨es, clock, (hb.block b (Array.getElem?_eq_some_iff.1 h1).1).trans h1, h2⟩, h3⟩
theorem MH.look {w : World} {b n t : Nat} {F : ByteArray → Int} {G : ByteArray → Bool} (h : MH w b n F G) (ht : Tryd.prog.underlying t = some (.map 9 3)) (s : ByteArray) (hs : s.size ≤ maxLen) : (Instr.lookup t (.map (some b)) (.string s) false).run Tryd.prog w = .ok (.int .i64 (F s)) w := h.mi.look ht s hs
theorem MH.ask {w : World} {b n t : Nat} {F : ByteArray → Int} {G : ByteArray → Bool} (h : MH w b n F G) (ht : Tryd.prog.underlying t = some (.map 9 3)) (s : ByteArray) (hs : s.size ≤ maxLen) : (Instr.lookup t (.map (some b)) (.string s) true).run Tryd.prog w = .ok (.tuple #[.int .i64 (F s), .bool (G s)]) w := by
  obtain ⟨D, h1, h2, h3⟩ := h
  obtain ⟨v, ps, hrun, hv⟩ := h1.look_ok law9 ht (zero3 w) (plainElem_int Tryd.underlying3 (by decide)) (Go.WideMaps.keyOf_string_mk Tryd.underlying9 hs)
  obtain ⟨c, rfl, hc, hwc⟩ := plainElem_int_inv Tryd.underlying3 hv
  have e := (h2 s).symm.trans (congrArg Prod.fst hc)
  simp only [DataW.lit.injEq, Lit.int.injEq, true_and] at e
  rw [e, ← h3 s]; exact hrun
theorem wpList_putH {w : World} {ops : Array Oper} {rest : List Oper} {o : Oper} {a : Act} {Q : Exit → Act → World → Prop} (hg : o.guard = none) (m x v : Operand) (t : TypeId) (hop : o.op = Op.mapUpdate t m x v) (ht : Tryd.prog.underlying t = some (.map 9 3)) {b n : Nat} {F : ByteArray → Int} {G : ByteArray → Bool} (hm : a.eval m = .map (some b)) (h : MH w b n F G) (hn : n < 1048576)
    (s : ByteArray) (hx : a.eval x = .string s) (c : Int) (hv : a.eval v = .int .i64 c) (hs : s.size ≤ maxLen) (hc : (Lit.int .i64 c).wf = true) (hK : ∀ w', MH w' b (n + 1) (updS F s c) (updS G s true) → w.grownBy w' (some b) → wpList Tryd.prog ops Q rest (a.put o.dst undef) w') : wpList Tryd.prog ops Q (o :: rest) a w := by
  obtain ⟨D, h1, h2, h3⟩ := h
  have hkey := Go.WideMaps.keyOf_string_mk (P := Tryd.prog) Tryd.underlying9 hs
  refine wpList_mapUpdate_own w hg m x v t hop 9 3 law9 ht _ b n D hm h1 (by unfold maxLen; omega) _ _ _ hx hv hkey _ [] (plainElem_int Tryd.underlying3 hc) fun w' h5 h4 => hK w' ⟨_, h5, fun r => ?_, fun r => ?_⟩ h4
  · unfold updS
    by_cases e : r = s
    · subst e; rw [if_pos rfl]; exact atKey_put_same h1.isMap (law9.key hkey) _ _
    · rw [if_neg e, atKey_put_other (fun e2 => e (strLit_inj.1 e2))]; exact h2 r
  · unfold updS
    by_cases e : r = s
    · subst e; rw [if_pos rfl]; exact has_put_same h1.isMap (law9.key hkey) _
    · rw [if_neg e, has_put_other (fun e2 => e (strLit_inj.1 e2))]; exact h3 r
/-- A set as numbers. -/
def iN (l : List Nat) : List Int := l.map fun (x : Nat) => (x : Int)
theorem iN_len (l : List Nat) : (iN l).length = l.length := by simp [iN]
theorem iN_app (l m : List Nat) : iN (l ++ m) = iN l ++ iN m := by simp [iN]
/-- Block g has n rows, the first v of them filled: row i is the set S i in a block of its own. -/
structure SetsW (w : World) (base g n v : Nat) (S : Nat → List Nat) (rs : Nat → Rw) : Prop where
  rows : w.ownsRow base 29 1 (.slice (some ⟨g, 0, none⟩) n n) n (fl encR ((List.range n).map rs))
  row : ∀ i, i < v → w.ownsRow base 3 1 (.slice (rs i).1 (rs i).2.1 (rs i).2.2) (S i).length (fl encI (iN (S i)))
  len : ∀ i, i < v → (rs i).2.1 = (S i).length
  blk : ∀ i, i < v → ∃ b, (rs i).1 = some ⟨b, 0, none⟩ ∧ b ≠ g
  far : ∀ i j, i < j → j < v → (rs i).1 ≠ (rs j).1
  le : v ≤ n
section
variable {w w' : World} {base g n v : Nat} {S : Nat → List Nat} {rs : Nat → Rw}
theorem SetsW.cell (h : SetsW w base g n v S rs) {i : Nat} (hi : i < n) : w.cell? ⟨g, i, none⟩ = some (.slice (rs i).1 (rs i).2.1 (rs i).2.2) := by
  obtain ⟨b, o, e, _, hc⟩ := rdR (rd_of_owns h.rows) (by simp; omega)
  simp only [Option.some.injEq, Addr.mk.injEq, and_true] at e
  obtain ⟨rfl, rfl⟩ := e
  have := hc i (by simpa using hi)
  rw [Nat.zero_add] at this
  rw [this]
  simp [rA, rN, rC, hi]
theorem SetsW.bl (h : SetsW w base g n v S rs) (hb : Below w.heap.size w w') : SetsW w' base g n v S rs := ⟨owns_below h.rows hb, fun i hi => owns_below (h.row i hi) hb, h.len, h.blk, h.far, h.le⟩
theorem setR_put {n i : Nat} {rs : Nat → Rw} (x : Rw) (hi : i < n) : ((List.range n).map rs).set i x = (List.range n).map fun j => if j = i then x else rs j := by
  apply List.ext_getElem?
  intro j
  by_cases hj : j < n
  · by_cases e : j = i
    · subst e; simp [hj]
    · rw [List.getElem?_set_ne (by omega)]
      simp [hj, e]
  · simp [hj]
theorem fl_setR (l : List Rw) (k : Nat) (x : Rw) : (fl encR l).set k (.slice x.1 x.2.1 x.2.2) = fl encR (l.set k x) := by
  induction l generalizing k with
  | nil => simp [fl]
  | cons y l ih =>
    have e : ∀ y l, fl encR (y :: l) = .slice y.1 y.2.1 y.2.2 :: fl encR l := fun y l => by simp [fl, encR]
    cases k with
    | zero => simp [e]
    | succ k => simp only [e, List.set_cons_succ]; rw [ih]
theorem grown_set (w : World) (b o : Nat) (u : Value) : w.grownBy (w.setCell ⟨b, o, none⟩ u) (some b) := ⟨rfl, rfl, rfl, by simp [World.setCell], fun k _ hne => Below.heap_setCell w ⟨b, o, none⟩ u k (fun e => hne (by rw [e]))⟩
/-- A further row is filled, or one is laid anew. -/
theorem SetsW.put (h : SetsW w base g n v S rs) {i v' : Nat} {x : Rw} {X : List Nat} (hi : i < n) (hv : v' = v ∨ (i = v ∧ v' = v + 1)) (hiv : i < v') (hx : w.ownsRow base 3 1 (.slice x.1 x.2.1 x.2.2) X.length (fl encI (iN X))) (hl : x.2.1 = X.length) (hb : ∃ b, x.1 = some ⟨b, 0, none⟩ ∧ b ≠ g) (hf : ∀ j, j < v → j ≠ i → (rs j).1 ≠ x.1) :
    SetsW (w.setCell ⟨g, i, none⟩ (.slice x.1 x.2.1 x.2.2)) base g n v' (fun j => if j = i then X else S j) (fun j => if j = i then x else rs j) := by
  have hv' : v' ≤ n := by have := h.le; omega
  have hother : ∀ (r : Rw) (Y : List Nat), w.ownsRow base 3 1 (.slice r.1 r.2.1 r.2.2) Y.length (fl encI (iN Y)) → (∃ b, r.1 = some ⟨b, 0, none⟩ ∧ b ≠ g) → (w.setCell ⟨g, i, none⟩ (.slice x.1 x.2.1 x.2.2)).ownsRow base 3 1 (.slice r.1 r.2.1 r.2.2) Y.length (fl encI (iN Y)) := fun r Y hr hb => by
    obtain ⟨b, e, hne⟩ := hb
    refine World.ownsRow.kept hr (grown_set w g i _) (.inr ?_)
    rw [e]
    simp [Value.ownBlock, hne]
  refine ⟨?_, fun j hj => ?_, fun j hj => ?_, fun j hj => ?_, fun j k hjk hk => ?_, hv'⟩
  · have h1 := (World.ownsRow.stored h.rows i (.slice x.1 x.2.1 x.2.2)).1
    rw [fl_setR, setR_put x hi] at h1
    exact h1
  · by_cases e : j = i
    · subst e
      simp only [if_true]
      exact hother x X hx hb
    · simp only [if_neg e]
      exact hother _ _ (h.row j (by omega)) (h.blk j (by omega))
  · by_cases e : j = i
    · simp only [if_pos e]; exact hl
    · simp only [if_neg e]; exact h.len j (by omega)
  · by_cases e : j = i
    · simp only [if_pos e]; exact hb
    · simp only [if_neg e]; exact h.blk j (by omega)
  · by_cases e : j = i
    · simp only [if_pos e, if_neg (show k ≠ i by omega)]
      exact Ne.symm (hf k (by omega) (by omega))
    · by_cases e2 : k = i
      · simp only [if_neg e, if_pos e2]
        exact hf j (by omega) e
      · simp only [if_neg e, if_neg e2]
        exact h.far j k hjk (by omega)
/-- One row grew. -/
theorem SetsW.others (h : SetsW w base g n v S rs) {i : Nat} (hi : i < v) (hg : w.grownBy w' (Value.slice (rs i).1 (rs i).2.1 (rs i).2.2).ownBlock) : w'.ownsRow base 29 1 (.slice (some ⟨g, 0, none⟩) n n) n (fl encR ((List.range n).map rs)) ∧ ∀ j, j < v → j ≠ i → w'.ownsRow base 3 1 (.slice (rs j).1 (rs j).2.1 (rs j).2.2) (S j).length (fl encI (iN (S j))) := by
  obtain ⟨b, e, hne⟩ := h.blk i hi
  refine ⟨World.ownsRow.kept h.rows hg (.inr ?_), fun j hj hji => World.ownsRow.kept (h.row j hj) hg (.inr ?_)⟩
  · rw [e]; simp [Value.ownBlock]; exact fun h => hne h.symm
  · obtain ⟨b2, e2, _⟩ := h.blk j hj
    rw [e, e2]
    simp [Value.ownBlock]
    intro hb
    have : (rs j).1 = (rs i).1 := by rw [e, e2, hb]
    rcases Nat.lt_or_gt_of_ne hji with h3 | h3
    · exact h.far j i h3 hi this
    · exact h.far i j h3 hj this.symm
end
end Go.Proofs.YtahgffjkkdbjeaaDoor
