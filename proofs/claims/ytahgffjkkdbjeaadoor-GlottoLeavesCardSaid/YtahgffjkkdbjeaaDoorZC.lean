/- glotto.Tree's closure: a merge is noted. Plain: what Tree refuses; the bounds of what is planted. Plain: what the example's answers are. glotto.plant: what is below a node is added, in preorder. glotto.Tree at every input. The example of all statements holds. -/
import Derived.Test.YtahgffjkkdbjeaaDoorZ1
import Derived.Test.YtahgffjkkdbjeaaDoorZ4
import Derived.Test.YtahgffjkkdbjeaaDoorZA
import Derived.Test.YtahgffjkkdbjeaaDoorZ7
import Derived.Test.YtahgffjkkdbjeaaDoorZ8
import Derived.KernelRfl
import Derived.Test.YtahgffjkkdbjeaaDoorZB
import Derived.Test.YtahgffjkkdbjeaaDoorZ9
import Derived.Test.YtahgffjkkdbjeaaDoorZ2
namespace Go.Proofs.YtahgffjkkdbjeaaDoor
open Go.RowKit
/-- What each language's cluster is after k merges: a merge, or language a as -1-a. -/
def nowK (l : List Mg) : Nat → Nat → Int
  | 0 => fun a => -1 - (a : Int)
  | k + 1 => fun a => if a = (mA l k).toNat then (k : Int) else nowK l k a
/-- The two parts of each of the first k merges. -/
def belK (l : List Mg) : Nat → List Fr
  | 0 => []
  | k + 1 => belK l k ++ [(nowK l k (mA l k).toNat, nowK l k (mB l k).toNat)]
theorem belK_len (l : List Mg) : ∀ k, (belK l k).length = k
  | 0 => rfl
  | k + 1 => by rw [belK]; simp [belK_len l k]
theorem cell_of_blockEq2 {W W' : World} {B : Nat} (h : W'.heap[B]? = W.heap[B]?) (o : Nat) : W'.cell? ⟨B, o, none⟩ = W.cell? ⟨B, o, none⟩ := by
  simp only [World.cell?]
  rw [h]
theorem far_cell {W w7 : World} {ob : Obj} {r : Option Nat} (h : (W.alloc ob).grownBy w7 r) {b i : Nat} {v : Value} (hv : W.cell? ⟨b, i, none⟩ = some v) (hne : r ≠ some b) : w7.cell? ⟨b, i, none⟩ = some v := by
  have hlt : b < W.heap.size := World.block_lt_of_cell? W _ hv
  have e : w7.heap[b]? = W.heap[b]? := (h.block b (by simp; omega) (fun e => hne e.symm)).trans (Below.heap_alloc W ob b hlt)
  exact (cell_of_blockEq2 e i).trans hv
theorem far_free {W w7 : World} {ob : Obj} {r : Option Nat} (h : (W.alloc ob).grownBy w7 r) {b i : Nat} (hlt : b < W.heap.size) (hf : W.frozen? ⟨b, i, none⟩ = false) (hne : r ≠ some b) : w7.frozen? ⟨b, i, none⟩ = false := by
  have e : w7.heap[b]? = W.heap[b]? := (h.block b (by simp; omega) (fun e => hne e.symm)).trans (Below.heap_alloc W ob b hlt)
  exact (World.frozen?_of_block e).trans hf
theorem keep_cell {W : World} {b i : Nat} {v : Value} (h : W.cell? ⟨b, i, none⟩ = some v) (o : Obj) : (W.alloc o).cell? ⟨b, i, none⟩ = some v :=
  (World.cell?_alloc_lt W o _ (World.block_lt_of_cell? W _ h)).trans h
theorem owns_other {w : World} {base e k : Nat} {v : Value} {n : Nat} {cs : List Value} (h : w.ownsRow base e k v n cs) (b o : Nat) (u : Value) (hne : v.ownBlock ≠ some b) : (w.setCell ⟨b, o, none⟩ u).ownsRow base e k v n cs := by
  refine ⟨h.1, ?_⟩
  rcases h.2 with h2 | ⟨g, cap, cur, hv, hg, hh, r⟩
  · exact .inl h2
  · refine .inr ⟨g, cap, cur, hv, hg, (Below.heap_setCell w ⟨b, o, none⟩ u g (fun e => hne ?_)).trans hh, r⟩
    rw [hv]; simp [Value.ownBlock, e]
theorem owns_kind {w : World} {base e k : Nat} {v : Value} {n : Nat} {cs : List Value} (h : w.ownsRow base e k v n cs) {b : Nat} (hb : v.ownBlock = some b) : ∃ cur fr, w.heap[b]? = some (.cells cur e fr) := by
  rcases h.2 with ⟨hv, _⟩ | ⟨g, cap, cur, hv, hg, hh, r⟩
  · rw [hv] at hb; simp [Value.ownBlock] at hb
  · rw [hv] at hb
    have e : g = b := by simpa [Value.ownBlock] using hb
    subst e
    exact ⟨_, _, hh⟩
def nowC (f : Nat → Int) (i : Nat) : Value := .int .i64 (f i)
/-- The planter, what each cluster is, the merges: their blocks. -/
structure TrJ (w0 : World) (Bc PB Pb NB LB : Nat) (a : Option Addr) (N c : Nat) (na : Value) (l : List Mg) (k : Nat) (W : World) : Prop where
  pbox : Blk W Pb #[.pointer (some ⟨PB, 0, none⟩)] 115
  lbox : Blk W LB #[.slice a N c] 36
  now : ∃ t, Blk W NB (ofF 24 (nowC (nowK l k))) t ∧ t ≠ 42 ∧ t ≠ 100
  row : ∃ vb, Blk W PB #[na, vb, .slice none 0 0] 118 ∧ W.ownsRow w0.heap.size 120 2 vb k (fl encFr (belK l k)) ∧ vb.ownBlock ≠ some Bc ∧ vb.ownBlock ≠ some PB ∧ vb.ownBlock ≠ some Pb ∧ vb.ownBlock ≠ some NB ∧ vb.ownBlock ≠ some LB
  rd : Rd w0 a (fl encMg l)
  bl : Below w0.heap.size w0 W
  ne : Bc ≠ PB ∧ Bc ≠ Pb ∧ Bc ≠ NB ∧ Bc ≠ LB ∧ PB ≠ Pb ∧ PB ≠ NB ∧ PB ≠ LB ∧ Pb ≠ NB ∧ Pb ≠ LB ∧ NB ≠ LB ∧ w0.heap.size ≤ PB ∧ w0.heap.size ≤ NB ∧ w0.heap.size ≤ Bc ∧ w0.heap.size ≤ Pb ∧ w0.heap.size ≤ LB
set_option maxRecDepth 100000 in
set_option maxHeartbeats 2000000 in
theorem tree1_any (w0 : World) (Bc PB Pb NB LB : Nat) (a : Option Addr) (n N c : Nat) (na : Value) (l : List Mg) (k : Nat) (W : World) (hl : l.length = N) (hk : k < N) (hn : n ≤ 24) (hN : N ≤ 23) (hok : StepOk n l k) (hBc : Bc < W.heap.size) (hJ : TrJ w0 Bc PB Pb NB LB a N c na l k W) :
    Calls Tryd.prog 68 #[.pointer (some ⟨Bc, 0, none⟩), .int .i64 k, .pointer (some ⟨Pb, 0, none⟩), .pointer (some ⟨NB, 0, none⟩), .pointer (some ⟨LB, 0, none⟩)] W fun e W' => e = .returned (.tuple #[]) ∧ TrJ w0 Bc PB Pb NB LB a N c na l (k + 1) W' ∧ ∀ b cs t, t = 42 ∨ t = 100 → Blk W b cs t → Blk W' b cs t := by
  obtain ⟨pbox, lbox, ⟨tn, now, tn1, tn2⟩, ⟨vb, prow, own, o1, o2, o3, o4, o5⟩, rd, bl, ne⟩ := hJ
  obtain ⟨h1, h2, h3, _⟩ := hok
  obtain ⟨b, o, rfl, hbl, hcm⟩ := rdMg rd (by omega)
  obtain ⟨g0, g1, _, _, _⟩ := hcm k (by omega)
  replace g0 := (bl.cell (p := ⟨b, o + k * 5, none⟩) hbl).trans g0
  replace g1 := (bl.cell (p := ⟨b, o + k * 5 + 1, none⟩) hbl).trans g1
  obtain ⟨A, hA⟩ : ∃ A : Nat, mA l k = A := ⟨(mA l k).toNat, by omega⟩
  obtain ⟨B, hB⟩ : ∃ B : Nat, mB l k = B := ⟨(mB l k).toNat, by omega⟩
  rw [hA] at g0 h1 h2
  rw [hB] at g1 h2 h3
  have e1 : W.cell? ⟨NB, A, none⟩ = some (.int .i64 (nowK l k A)) := now.getF A (by omega)
  have e2 : W.cell? ⟨NB, B, none⟩ = some (.int .i64 (nowK l k B)) := now.getF B (by omega)
  have p0 : W.cell? ⟨Pb, 0, none⟩ = some (.pointer (some ⟨PB, 0, none⟩)) := pbox.cell 0
  have p1 : W.cell? ⟨PB, 1, none⟩ = some vb := prow.cell 1
  have l0 : W.cell? ⟨LB, 0, none⟩ = some (.slice (some ⟨b, o, none⟩) N c) := lbox.cell 0
  have i1 : (0 : Int) ≤ A := by omega
  have i2 : (A : Int) < 24 := by omega
  have i3 : (0 : Int) ≤ B := by omega
  have i4 : (B : Int) < 24 := by omega
  have i5 : (0 : Int) ≤ k := by omega
  have i6 : (k : Int) < N := by omega
  obtain ⟨X, hX⟩ : ∃ X, X = nowK l k A := ⟨_, rfl⟩
  obtain ⟨Y, hY⟩ : ∃ Y, Y = nowK l k B := ⟨_, rfl⟩
  rw [← hX] at e1
  rw [← hY] at e2
  have HK : Hid (mA l k = A ∧ mB l k = B ∧ X = nowK l k A ∧ Y = nowK l k B ∧ l.length = N) := ⟨hA, hB, hX, hY, hl⟩
  clear hA hB hX hY hl hcm
  obtain ⟨va, vcap, rfl, hva⟩ := owns_slice own
  have hrow : (Value.slice va k vcap).ownBlock ≠ some b := fun e => by
    have := (own.lt b e).1
    omega
  have pf1 := prow.free 1
  go_enter Tryd.func68, Tryd.ntmps68
  go_wp2_with fail
  refine wp_region_order (S := fun w' => w'.cell? ⟨Pb, 0, none⟩ = some (.pointer (some ⟨PB, 0, none⟩)) ∧ w'.cell? ⟨PB, 1, none⟩ = some (.slice va k vcap) ∧ w'.cell? ⟨LB, 0, none⟩ = some (.slice (some ⟨b, o, none⟩) N c) ∧ w'.cell? ⟨b, o + k * 5, none⟩ = some (.int .i64 A) ∧ w'.cell? ⟨b, o + k * 5 + 1, none⟩ = some (.int .i64 B) ∧ w'.cell? ⟨NB, A, none⟩ = some (.int .i64 X) ∧ w'.cell? ⟨NB, B, none⟩ = some (.int .i64 Y)) 22 [0,1,2,3,4,5,6,7,8,9,10,11,12,13,14,15,16,17,18,19] [20,21] (by kernel_rfl) (by kernel_rfl) ⟨p0, p1, l0, g0, g1, e1, e2⟩ ?_
  iterate 20 (refine headT_cons (by rfl) (by rfl) (by intro w hSw; obtain ⟨s0, s1, s2, s3, s4, s5, s6⟩ := hSw; go_simp; try rfl) ?_; simp only [Act.put, List.setIfInBounds_toArray, List.set_cons_zero, List.set_cons_succ])
  refine headT_nil ?_
  have QQ := Lib.hid (And.intro (keep_cell p0 (.cells #[.int .i64 X, .int .i64 Y] 120)) (And.intro (keep_cell p1 (.cells #[.int .i64 X, .int .i64 Y] 120)) (And.intro (keep_cell l0 (.cells #[.int .i64 X, .int .i64 Y] 120)) (And.intro (keep_cell g0 (.cells #[.int .i64 X, .int .i64 Y] 120)) (And.intro (keep_cell g1 (.cells #[.int .i64 X, .int .i64 Y] 120)) (And.intro (keep_cell e1 (.cells #[.int .i64 X, .int .i64 Y] 120)) (keep_cell e2 (.cells #[.int .i64 X, .int .i64 Y] 120))))))))
  refine midT_cons (by rfl) (fun K hK => ?_)
  rw [if_pos (by rfl)]
  go_simp
  refine hK.out _ _ QQ.out (fun _ => ?_)
  clear hK K
  try simp only [Act.put, List.setIfInBounds_toArray, List.set_cons_zero, List.set_cons_succ]
  refine midT_cons (by rfl) (fun K hK => ?_)
  refine spush_Pr (by rfl) (.tmp 11) (.tmp 27) (by rfl) w0.heap.size (.slice va k vcap) (belK l k) k (by rw [belK_len]) (by rfl) (by exact own.alloc _) W.heap.size 1 (X, Y) (by rfl) (by exact Blk.new W _ _) (by omega) (by have := bl.size; simp; omega) ?_
  intro g8 cap8 w8 h8 hg8 h8c h8d
  have hg9 : (W.alloc (.cells #[.int .i64 X, .int .i64 Y] 120)).grownBy w8 (Value.slice va k vcap).ownBlock := ⟨hg8.os, hg8.tape, hg8.output, hg8.size, hg8.block⟩
  have k0 := far_cell hg9 p0 o3
  have k1 := far_cell hg9 p1 o2
  have k2 := far_cell hg9 l0 o5
  have k3 := far_cell hg9 g0 hrow
  have k4 := far_cell hg9 g1 hrow
  have k5 := far_cell hg9 e1 o4
  have k6 := far_cell hg9 e2 o4
  have kf := far_free hg9 prow.lt pf1 o2
  have kn := far_free hg9 now.lt (now.free A) o4
  have hgb : ∀ i, (Value.slice va k vcap).ownBlock ≠ some i → i < W.heap.size → some i ≠ some g8 := fun i hi hlt e => by
    rcases h8c with h | h
    · exact hi (h.trans e.symm)
    · have := Option.some.inj e
      simp at h
      omega
  have hnew := Lib.hid hgb
  have hw0 := bl.size
  have HG := Lib.hid (And.intro hg9 (And.intro h8 (And.intro h8c h8d)))
  clear hgb hg9 hg8 h8 h8c h8d
  refine hK.out _ _ ⟨k0, k1, k2, k3, k4, k5, k6⟩ (fun _ => ?_)
  clear hK K
  try simp only [Act.put, List.setIfInBounds_toArray, List.set_cons_zero, List.set_cons_succ]
  refine midT_nil ?_
  simp only [List.drop_succ_cons, List.drop_zero]
  clear p0 p1 l0 g0 g1 e1 e2 QQ pf1
  have HB := Lib.hid bl
  clear bl
  go_wp2_with fail
  refine NoPanic.normal ?_
  go_wp2_with fail
  go_end0
  obtain ⟨hg9, h8, h8c, h8d⟩ := HG.out
  obtain ⟨n1, n2, n3, n4, n5, n6, n7, n8, n9, n10, n11, n12, n13, n14, n15⟩ := ne
  obtain ⟨hA, hB, hX, hY, _⟩ := HK.out
  have B8 : ∀ b cs t, some b ≠ (Value.slice va k vcap).ownBlock → Blk W b cs t → Blk w8 b cs t := fun b cs t hne h => (h.alloc _).grown hg9 hne
  have hng : ∀ i, (Value.slice va k vcap).ownBlock ≠ some i → i < W.heap.size → (Value.slice (some ⟨g8, 0, none⟩) (k + 1) cap8).ownBlock ≠ some i := fun i hi hlt e => hnew.out i hi hlt (by simpa [Value.ownBlock] using e.symm)
  have hPB := hng PB o2 prow.lt
  have hNB := hng NB o4 now.lt
  have hb8 : Below w0.heap.size w0 w8 := ⟨hg9.os.trans HB.out.os, hg9.tape.trans HB.out.tape, hg9.output.trans HB.out.output, Nat.le_trans HB.out.size (by have := hg9.size; simp at this; omega), fun i hi => (hg9.block i (by simp; omega) (fun e => by have := (own.lt i e.symm).1; omega)).trans ((Below.heap_alloc W _ i (by omega)).trans (HB.out.block i hi))⟩
  refine ⟨rfl, ⟨((B8 _ _ _ (Ne.symm o3) pbox).other n5.symm _ _).other n8 _ _, ((B8 _ _ _ (Ne.symm o5) lbox).other n7.symm _ _).other n10.symm _ _, ⟨tn, ?_, tn1, tn2⟩, ⟨.slice (some ⟨g8, 0, none⟩) (k + 1) cap8, ?_, ?_, hng Bc o1 hBc, hPB, hng Pb o3 pbox.lt, hNB, hng LB o5 lbox.lt⟩, rd, ?_, ⟨n1, n2, n3, n4, n5, n6, n7, n8, n9, n10, n11, n12, n13, n14, n15⟩⟩, ?_⟩
  · have := ((B8 _ _ _ (Ne.symm o4) now).other n6.symm 1 (.slice (some ⟨g8, 0, none⟩) (k + 1) cap8)).setF A (.int .i64 k)
    have e : ofF 24 (nowC (nowK l (k + 1))) = ofF 24 fun j => if j = A then .int .i64 k else nowC (nowK l k) j := ofF_congr fun i _ => by
      simp only [nowC, nowK]
      rw [hA]
      by_cases e : i = A
      · rw [if_pos (by omega), if_pos e]
      · rw [if_neg (by omega), if_neg e]
    rw [e]
    exact this
  · have := ((B8 _ _ _ (Ne.symm o2) prow).set 1 (.slice (some ⟨g8, 0, none⟩) (k + 1) cap8)).other n6 A (.int .i64 k)
    simpa using this
  · have e : belK l (k + 1) = belK l k ++ [(X, Y)] := by
      rw [belK, hX, hY, hA, hB]; simp
    rw [e]
    exact owns_other (owns_other h8 _ _ _ hPB) _ _ _ hNB
  · exact (hb8.setCell (p := ⟨PB, 1, none⟩) n11 _).setCell (p := ⟨NB, A, none⟩) n12 _
  · intro b' cs t ht h
    have hb1 : b' ≠ NB := fun e => by
      subst e
      have := h.symm.trans now
      simp only [Option.some.injEq, Obj.cells.injEq] at this
      rcases ht with ht | ht
      · exact tn1 (this.2.1.symm.trans ht)
      · exact tn2 (this.2.1.symm.trans ht)
    have hb2 : b' ≠ PB := fun e => by
      subst e
      have := h.symm.trans prow
      simp only [Option.some.injEq, Obj.cells.injEq] at this
      rcases ht with ht | ht
      · exact absurd (this.2.1.symm.trans ht) (by decide)
      · exact absurd (this.2.1.symm.trans ht) (by decide)
    refine ((B8 _ _ _ ?_ h).other hb2 _ _).other hb1 _ _
    intro e
    obtain ⟨cur, fr, hc⟩ := owns_kind own e.symm
    have := h.symm.trans hc
    simp only [Option.some.injEq, Obj.cells.injEq] at this
    rcases ht with ht | ht
    · exact absurd (this.2.1.symm.trans ht) (by decide)
    · exact absurd (this.2.1.symm.trans ht) (by decide)
end Go.Proofs.YtahgffjkkdbjeaaDoor
namespace Go.Proofs.YtahgffjkkdbjeaaDoor
open Go.RowKit
/-- How often each name has been met among the first k inner names. -/
def hvI : Nat → ByteArray → Int
  | 0 => fun _ => 0
  | k + 1 => updS (hvI k) (innS k) (hvI k (innS k) + 1)
/-- .. and among the first i names. -/
def hvN (names : List ByteArray) (N : Nat) : Nat → ByteArray → Int
  | 0 => hvI N
  | i + 1 => updS (hvN names N i) (sA names i) (hvN names N i (sA names i) + 1)
theorem hvI_bd : ∀ (k : Nat) (s : ByteArray), 0 ≤ hvI k s ∧ hvI k s ≤ k
  | 0, _ => by simp [hvI]
  | k + 1, s => by
    have h1 := hvI_bd k s
    have h2 := hvI_bd k (innS k)
    simp only [hvI, updS]
    split <;> omega
theorem hvN_bd (names : List ByteArray) (N : Nat) : ∀ (i : Nat) (s : ByteArray), 0 ≤ hvN names N i s ∧ hvN names N i s ≤ N + i
  | 0, s => by have := hvI_bd N s; simp only [hvN]; omega
  | i + 1, s => by
    have h1 := hvN_bd names N i s
    have h2 := hvN_bd names N i (sA names i)
    simp only [hvN, updS]
    split <;> omega
def NamesOk (names : List ByteArray) : Prop := ∀ i, i < names.length → nmB (sA names i) = true
def HaveOk (names : List ByteArray) (N : Nat) : Prop := ∀ i, i < names.length → hvN names N (i + 1) (sA names i) ≤ 1
instance (names : List ByteArray) : Decidable (NamesOk names) := by unfold NamesOk; infer_instance
instance (names : List ByteArray) (N : Nat) : Decidable (HaveOk names N) := by unfold HaveOk; infer_instance
/-- Tree's error. -/
def treeE (n : Int) (names : List ByteArray) (l : List Mg) : Int :=
  if n < 1 ∨ 24 < n then 3 else if ¬ ((names.length : Int) = n ∧ StepsOk n.toNat l) then 2 else if ¬ NamesOk names then 15 else if ¬ HaveOk names l.length then 6 else 0
/-- Tree's nodes. -/
def treeL (n : Int) (names : List ByteArray) (l : List Mg) : List Nd :=
  if treeE n names l = 0 then plantL (nmOf names) (belK l l.length) 25 (-1) (nowK l l.length 0) 0 else []
theorem nowK_bd {n : Nat} {l : List Mg} : ∀ (k : Nat), ∀ a, a < n → nowK l k a < k ∧ -1 - (n : Int) < nowK l k a
  | 0, a, ha => by simp only [nowK]; omega
  | k + 1, a, ha => by
    have h1 := nowK_bd k a ha (l := l)
    simp only [nowK]
    split <;> omega
theorem belK_get {l : List Mg} : ∀ (k i : Nat), i < k → (belK l k).getD i (0, 1) = (nowK l i (mA l i).toNat, nowK l i (mB l i).toNat)
  | 0, i, h => by omega
  | k + 1, i, h => by
    rw [belK, List.getD_eq_getElem?_getD]
    by_cases e : i = k
    · subst e
      rw [List.getElem?_append_right (by rw [belK_len]; exact Nat.le_refl _), belK_len, Nat.sub_self]
      rfl
    · rw [List.getElem?_append_left (by rw [belK_len]; omega), ← List.getD_eq_getElem?_getD]
      exact belK_get k i (by omega)
theorem belK_ok {n : Nat} {l : List Mg} (k : Nat) (h : ∀ i, i < k → StepOk n l i) : BelOk n (belK l k) := by
  intro i hi
  rw [belK_len] at hi
  obtain ⟨h1, h2, h3, _⟩ := h i hi
  have e := belK_get (l := l) k i hi
  have e1 : fN (belK l k) i = nowK l i (mA l i).toNat := congrArg Prod.fst e
  have e2 : fD (belK l k) i = nowK l i (mB l i).toNat := congrArg Prod.snd e
  rw [e1, e2]
  exact ⟨nowK_bd i _ (by omega), nowK_bd i _ (by omega)⟩
/-- A tree of one node is valid if its name is. -/
theorem chkE_one (s : ByteArray) : chkE [(-1, s)] = if nmB s then 0 else 16 := by
  unfold chkE
  have e : TreeOk [(-1, s)] ↔ nmB s = true := by
    constructor
    · intro h; exact (h.2.2 0 (by simp)).2.2.1
    · intro h
      refine ⟨by simp, by simp, fun v hv => ?_⟩
      obtain rfl : v = 0 := by simp at hv; exact hv
      exact ⟨by simp [nP], by simp [nP], h, rfl⟩
  by_cases h : nmB s = true
  · rw [if_pos (e.2 h), if_pos h]
  · rw [if_neg (fun k => h (e.1 k)), if_neg h]
theorem nmB_size {s : ByteArray} (h : 24 < s.size) : nmB s = false := by
  unfold nmB
  rw [show decide (s.size ≤ 24) = false by simp; omega]
  simp
end Go.Proofs.YtahgffjkkdbjeaaDoor
namespace Go.Proofs.YtahgffjkkdbjeaaDoor
open Go.RowKit
theorem three_scaled : scaledS 3 threeL = .ok 1 := by kernel_rfl
theorem three_rank : rankE 3 threeL 2 = .ok 1 := rankE_ok three_scaled (by omega) (by omega)
theorem three_ultra : ultraS 3 threeL = (false, 0) := by kernel_rfl
theorem three_dist (i j : Nat) : dist threeL 1 3 i j = scK threeL 1 (i * 3 + j) := rfl
def threeM : List Mg := [((0, 1), (2, 1), 2), ((0, 2), (7, 1), 3)]
theorem three_prs : prs (aloneS 3) 3 3 = [(0, 1), (0, 2), (1, 2)] := by kernel_rfl
theorem three_prs2 : prs (joinS (aloneS 3) 0 1) 3 3 = [(0, 2)] := by kernel_rfl
theorem three_run (g : Nat → Nat) (h : ∀ i j, i < 3 → j < 3 → g (i * 24 + j) = dist threeL 1 3 i j) : (mRun 3 1 g 2).l = threeM := by
  have g1 : g 1 = 2 := (h 0 1 (by omega) (by omega)).trans (by kernel_rfl)
  have g2 : g 2 = 6 := (h 0 2 (by omega) (by omega)).trans (by kernel_rfl)
  have g26 : g 26 = 8 := (h 1 2 (by omega) (by omega)).trans (by kernel_rfl)
  have p1 : mPick 3 (aloneS 3) g = (0, 1) := by
    rw [mPick, three_prs]
    simp [bestP, stepB, nearB, cnt, aloneS, g1, g2, g26]
  have j2 : jw g 0 1 24 2 = g 2 + g 26 := by kernel_rfl
  have p2 : mPick 3 (joinS (aloneS 3) 0 1) (jw g 0 1 24) = (0, 2) := by
    rw [mPick, three_prs2]
    simp [bestP, stepB]
  have e1 : mgOf 1 (aloneS 3) g (0, 1) = ((0, 1), (2, 1), 2) := by
    simp only [mgOf, g1]
    kernel_rfl
  have e2 : mgOf 1 (joinS (aloneS 3) 0 1) (jw g 0 1 24) (0, 2) = ((0, 2), (7, 1), 3) := by
    simp only [mgOf, Nat.zero_mul, Nat.zero_add, j2, g2, g26]
    kernel_rfl
  simp only [mRun, p1, p2, e1, e2, threeM, List.nil_append, List.cons_append]
theorem three_near (f : Nat → Nat) (h : RkRow threeL 1 3 2 f) : nearV f 3 2 = 0 := by
  have k0 : dist threeL 1 3 2 0 = 6 := by kernel_rfl
  have k1 : dist threeL 1 3 2 1 = 8 := by kernel_rfl
  have k2 : dist threeL 1 3 2 2 = 0 := by kernel_rfl
  have b0 := h.lt (p := 0) (by omega)
  have b1 := h.lt (p := 1) (by omega)
  have b2 := h.lt (p := 2) (by omega)
  have s01 := h.srt 0 1 (by omega) (by omega) (by omega)
  have s12 := h.srt 1 2 (by omega) (by omega) (by omega)
  unfold ltK at s01 s12
  have cs : ∀ x, x < 3 → x = 0 ∨ x = 1 ∨ x = 2 := fun x hx => by omega
  rw [nearV, if_neg (by omega)]
  rcases cs _ b0 with e0 | e0 | e0 <;> rcases cs _ b1 with e1 | e1 | e1 <;> rcases cs _ b2 with e2 | e2 | e2 <;> simp only [e0, e1, e2, k0, k1, k2] at s01 s12 ⊢ <;> first | omega | simp
def threeN : List ByteArray := [⟨#[120]⟩, ⟨#[121]⟩, ⟨#[122]⟩]
def threeT : List Nd := [(-1, ⟨#[109, 49]⟩), (0, ⟨#[109, 48]⟩), (1, ⟨#[120]⟩), (1, ⟨#[121]⟩), (0, ⟨#[122]⟩)]
theorem inn0 : innS 0 = ⟨#[109, 48]⟩ := by
  rw [innS, Lib.decDigits, dif_pos (by omega)]; rfl
theorem inn1 : innS 1 = ⟨#[109, 49]⟩ := by
  rw [innS, Lib.decDigits, dif_pos (by omega)]; rfl
theorem three_steps : StepsOk 3 threeM := by
  have : decide (StepsOk 3 threeM) = true := by kernel_rfl
  exact of_decide_eq_true this
theorem three_names : NamesOk threeN := by
  have : decide (NamesOk threeN) = true := by kernel_rfl
  exact of_decide_eq_true this
theorem three_have : HaveOk threeN 2 := by
  intro i hi
  have : i = 0 ∨ i = 1 ∨ i = 2 := by have : i < 3 := hi; omega
  rcases this with rfl | rfl | rfl <;> (simp only [hvN, hvI, updS, inn0, inn1]; decide)
theorem three_treeE : treeE 3 threeN threeM = 0 := by
  rw [treeE, if_neg (by omega), if_neg (fun h => h ⟨rfl, three_steps⟩), if_neg (fun h => h three_names), if_neg (fun h => h three_have)]
theorem three_tree : treeL 3 threeN threeM = threeT := by
  rw [treeL, if_pos three_treeE]
  have e : plantL (nmOf threeN) (belK threeM threeM.length) 25 (-1) (nowK threeM threeM.length 0) 0 = [(-1, innS 1), (0, innS 0), (1, ⟨#[120]⟩), (1, ⟨#[121]⟩), (0, ⟨#[122]⟩)] := by kernel_rfl
  rw [e, inn0, inn1]
  rfl
def threeR : List (List Int) := [[0, 0, 1], [0, -1, 0], [2, 2, 2]]
theorem three_sharesE : sharesE threeR = .ok 3 := by kernel_rfl
theorem three_shares : (shL threeR 3).length = 9 ∧ fN (shL threeR 3) 2 = 2 ∧ fD (shL threeR 3) 2 = 3 := ⟨by kernel_rfl, by kernel_rfl, by kernel_rfl⟩
end Go.Proofs.YtahgffjkkdbjeaaDoor
namespace Go.Proofs.YtahgffjkkdbjeaaDoor
open Go.RowKit
/-- Only the planter's block and new ones differ; the planter holds the nodes o. -/
structure PlJ (W0 : World) (PB : Nat) (na bv : Value) (o : List Nd) (W : World) : Prop where
  but : But PB W0 W
  row : ∃ ov, Blk W PB #[na, bv, ov] 118 ∧ W.ownsRow W0.heap.size 66 2 ov o.length (fl encNd o)
theorem Rd.but {g : Nat} {w w' : World} {b o : Nat} {cs : List Value} (h : Rd w (some ⟨b, o, none⟩) cs) (hb : But g w w') (hne : b ≠ g) : Rd w' (some ⟨b, o, none⟩) cs := by
  intro h0
  obtain ⟨b', off, e, hlt, hc⟩ := h h0
  simp only [Option.some.injEq, Addr.mk.injEq, and_true] at e
  obtain ⟨rfl, rfl⟩ := e
  exact ⟨b, o, rfl, Nat.lt_of_lt_of_le hlt hb.size, fun i hi => (hb.cell hlt hne).trans (hc i hi)⟩
/-- It is read of a, and not in block g. -/
def RdN (g : Nat) (w : World) (a : Option Addr) (cs : List Value) : Prop := 0 < cs.length → ∃ b o, a = some ⟨b, o, none⟩ ∧ b ≠ g ∧ Rd w (some ⟨b, o, none⟩) cs
theorem RdN.but {g : Nat} {w w' : World} {a : Option Addr} {cs : List Value} (h : RdN g w a cs) (hb : But g w w') : Rd w' a cs := by
  intro h0
  obtain ⟨b, o, rfl, hne, hr⟩ := h h0
  exact hr.but hb hne h0
set_option maxRecDepth 100000 in
set_option maxHeartbeats 4000000 in
theorem plant_any (W0 : World) (PB n c N bc : Nat) (na ba : Option Addr) (names : List ByteArray) (bel : List Fr) (hln : names.length = n) (hlb : bel.length = N) (hnm : RdN PB W0 na (fl encS names)) (hbl : RdN PB W0 ba (fl encFr bel)) (hok : BelOk n bel) (hN : N ≤ 30) (hn : n ≤ 1000000) (hP : PB < W0.heap.size) :
    ∀ (f : Nat) (up k : Int) (o : List Nd) (W : World), 0 < f → k + 1 < f → k < N → -1 - (n : Int) < k → f ≤ 31 → o.length + 2 ^ f < 5000000000000 → PlJ W0 PB (.slice na n c) (.slice ba N bc) o W →
      Calls Tryd.prog 70 #[.pointer (some ⟨PB, 0, none⟩), .int .i64 up, .int .i64 k] W fun e W' => e = .returned (.tuple #[]) ∧ PlJ W0 PB (.slice na n c) (.slice ba N bc) (o ++ plantL (nmOf names) bel f up k o.length) W' := by
  have HH := Lib.hid (And.intro hln (And.intro hlb (And.intro hnm (And.intro hbl hok))))
  clear hln hlb hnm hbl hok
  intro f
  induction f with
  | zero => intro up k o W h0; omega
  | succ f ih =>
    intro up k o W _ h1 h2 h3 h4 h5 hJ
    have IH := Lib.hid ih
    clear ih
    obtain ⟨hbut, ov, prow, own⟩ := hJ
    obtain ⟨va, vcap, rfl, hva⟩ := owns_slice own
    have hsz := hbut.size
    obtain ⟨L, hL⟩ : ∃ L, o.length = L := ⟨_, rfl⟩
    rw [hL] at h5 own prow
    rw [hL]
    have HL := Lib.hid hL
    clear hL
    have p2 : W.cell? ⟨PB, 2, none⟩ = some (.slice va L vcap) := prow.cell 2
    have p1 : W.cell? ⟨PB, 1, none⟩ = some (.slice ba N bc) := prow.cell 1
    have pf := prow.free 2
    have hne : (Value.slice va L vcap).ownBlock ≠ some PB := fun e => by
      have := (own.lt PB e).1
      omega
    have hpow : 0 < 2 ^ f := Nat.pow_pos (by omega)
    rw [Nat.pow_succ] at h5
    have hcall := fun n' => name_any PB n c na names (.slice ba N bc) (.slice va L vcap) k (W.drewN n') HH.out.1 (prow.drewN n') ((HH.out.2.2.1.but hbut).drewN n') (by omega) (by omega) (by omega) (by omega)
    have HC := Lib.hid hcall
    clear hcall
    have hq := fun s => keep_cell p2 (.cells #[.int .i64 up, .string s] 66)
    have HQ := Lib.hid hq
    clear hq
    go_enter Tryd.func70, Tryd.ntmps70
    go_wp2_with fail
    refine wp_region_order (S := fun w' => w'.cell? ⟨PB, 2, none⟩ = some (.slice va L vcap)) 12 [0,1,2,3,4,5,6,7] [8,9,10,11] (by kernel_rfl) (by kernel_rfl) p2 ?_
    iterate 8 (refine headT_cons (by rfl) (by rfl) (by intro w hSw; go_simp; try rfl) ?_; try simp only [Act.put, List.setIfInBounds_toArray, List.set_cons_zero, List.set_cons_succ])
    refine headT_nil ?_
    refine midT_cons (by rfl) (fun K hK => ?_)
    rw [if_pos (by rfl)]
    go_simp
    refine (HC.out 1).mono ?_
    rintro e w' ⟨rfl, rfl⟩
    generalize hs : nmOf names k = s
    have HS := Lib.hid hs
    clear hs
    refine hK.out _ _ p2 (fun _ => ?_)
    clear hK K
    try simp only [Act.put, List.setIfInBounds_toArray, List.set_cons_zero, List.set_cons_succ]
    refine midT_cons (by rfl) (fun K hK => ?_)
    rw [if_pos (by rfl)]
    go_simp
    refine hK.out _ _ p2 (fun _ => ?_)
    clear hK K
    try simp only [Act.put, List.setIfInBounds_toArray, List.set_cons_zero, List.set_cons_succ]
    refine midT_cons (by rfl) (fun K hK => ?_)
    rw [if_pos (by rfl)]
    go_simp
    refine hK.out _ _ (HQ.out s) (fun _ => ?_)
    clear hK K
    try simp only [Act.put, List.setIfInBounds_toArray, List.set_cons_zero, List.set_cons_succ]
    refine midT_cons (by rfl) (fun K hK => ?_)
    refine spush_Nd (by rfl) (.tmp 16) (.tmp 22) (by rfl) W0.heap.size (.slice va L vcap) o L (by exact HL.out.symm) (by rfl) (by exact own.alloc _) W.heap.size 1 (up, s) (by rfl) (by exact Blk.new W _ _) (by omega) (by simp; omega) ?_
    intro g8 cap8 w8 h8 hg8 h8c h8d
    have hg9 : (W.alloc (.cells #[.int .i64 up, .string s] 66)).grownBy w8 (Value.slice va L vcap).ownBlock := ⟨hg8.os, hg8.tape, hg8.output, hg8.size, hg8.block⟩
    have k0 := far_cell hg9 p2 hne
    have k1 := far_cell hg9 p1 hne
    have kf := far_free hg9 prow.lt pf hne
    refine hK.out _ _ k0 (fun _ => ?_)
    clear hK K
    try simp only [Act.put, List.setIfInBounds_toArray, List.set_cons_zero, List.set_cons_succ]
    refine midT_nil ?_
    simp only [List.drop_succ_cons, List.drop_zero]
    go_wp2_with fail
    refine NoPanic.normal ?_
    have hb8 : But PB W0 ((w8).setCell ⟨PB, 2, none⟩ (.slice (some ⟨g8, 0, none⟩) (L + 1) cap8)) := (show But PB W0 w8 from ⟨hg9.os.trans hbut.os, hg9.tape.trans hbut.tape, hg9.output.trans hbut.output, by have := hg9.size; simp at this; omega, fun i hi hne => (hg9.block i (by simp; omega) (fun e => by have := (own.lt i e.symm).1; omega)).trans ((Below.heap_alloc W _ i (by omega)).trans (hbut.block i hi hne))⟩).set _ _
    have hPB : (Value.slice (some ⟨g8, 0, none⟩) (L + 1) cap8).ownBlock ≠ some PB := fun e => by
      have e2 : g8 = PB := by simpa [Value.ownBlock] using e
      rcases h8c with h | h
      · have := own.lt g8 h; omega
      · simp at h; omega
    have row8 : Blk (w8.setCell ⟨PB, 2, none⟩ (.slice (some ⟨g8, 0, none⟩) (L + 1) cap8)) PB #[.slice na n c, .slice ba N bc, .slice (some ⟨g8, 0, none⟩) (L + 1) cap8] 118 := by
      have := ((prow.alloc (.cells #[.int .i64 up, .string s] 66)).grown hg9 (Ne.symm hne)).set 2 (.slice (some ⟨g8, 0, none⟩) (L + 1) cap8)
      simpa using this
    have own8 := owns_other h8 PB 2 (.slice (some ⟨g8, 0, none⟩) (L + 1) cap8) hPB
    clear k0 k1 kf hg9 hg8 h8 h8c h8d hPB own prow p2 p1 pf hne HQ HC hbut hsz
    generalize w8.setCell ⟨PB, 2, none⟩ (.slice (some ⟨g8, 0, none⟩) (L + 1) cap8) = wx at *
    have c1 : wx.cell? ⟨PB, 1, none⟩ = some (.slice ba N bc) := row8.cell 1
    have c2 : wx.cell? ⟨PB, 2, none⟩ = some (.slice (some ⟨g8, 0, none⟩) (L + 1) cap8) := row8.cell 2
    by_cases hk : k < 0
    · have e := Lib.hid (show plantL (nmOf names) bel (f + 1) up k L = [(up, nmOf names k)] by rw [plantL, if_pos hk])
      go_wp2_with fail
      refine bodyPost_ret (v := .tuple #[]) (by simp [results, Tryd.results70, go_sem]) rfl ⟨rfl, ?_⟩
      rw [e.out, HS.out]
      exact ⟨hb8, ⟨_, row8, by rw [List.length_append, HL.out]; exact own8⟩⟩
    · obtain ⟨j, rfl⟩ : ∃ j : Nat, k = j := ⟨k.toNat, by omega⟩
      obtain ⟨b, o1, rfl, hbne, hrb⟩ := HH.out.2.2.2.1 (by rw [fl_length encFr_len, HH.out.2.1]; omega)
      obtain ⟨b2, o2, eb, _, hcb⟩ := rdFr (hrb.but hb8 hbne) (by rw [HH.out.2.1]; omega)
      obtain ⟨g0, g1⟩ := hcb j (by rw [HH.out.2.1]; omega)
      simp only [Option.some.injEq, Addr.mk.injEq, and_true] at eb
      obtain ⟨rfl, rfl⟩ := eb
      clear hcb
      generalize hX : fN bel j = X at *
      generalize hY : fD bel j = Y at *
      have HX := Lib.hid (And.intro hX hY)
      clear hX hY
      have i0 : ∀ w, (Instr.index 120 (.agg #[.int .i64 X, .int .i64 Y]) (.int .i64 0)).run Tryd.prog w = .ok (.int .i64 X) w := fun _ => by kernel_rfl
      have i1 : ∀ w, (Instr.index 120 (.agg #[.int .i64 X, .int .i64 Y]) (.int .i64 1)).run Tryd.prog w = .ok (.int .i64 Y) w := fun _ => by kernel_rfl
      go_wp2_with fail
      have hJ0 := Lib.hid (show PlJ W0 PB (.slice na n c) (.slice (some ⟨b, o1, none⟩) N bc) (plAcc (nmOf names) bel f L X Y (o ++ [(up, s)]) 0) wx from ⟨hb8, ⟨_, row8, by rw [plAcc, List.length_append, HL.out]; exact own8⟩⟩)
      have hfin := Lib.hid (plAcc_two (nmOf names) bel f L up j o)
      have hbo := Lib.hid (HH.out.2.2.2.2 j (by rw [HH.out.2.1]; omega))
      clear g0 g1 c1 c2 row8 own8 hb8 hrb
      go_loopw [41, 9] (fun x _ wr => ∃ i : Nat, i ≤ 2 ∧ x = .int .i64 i ∧ PlJ W0 PB (.slice na n c) (.slice (some ⟨b, o1, none⟩) N bc) (plAcc (nmOf names) bel f L X Y (o ++ [(up, s)]) i) wr) (fun x _ _ => 2 - (intOf x).toNat)
      case atStart => exact ⟨0, by omega, rfl, hJ0.out⟩
      case round =>
        obtain ⟨i, hi, rfl, hJ⟩ := hrel
        clear hJ0
        by_cases h0 : i = 0
        · subst h0
          have hc := Lib.hid (IH.out (L : Int) X (o ++ [(up, s)]) wr (by omega) (by have := hbo.out.1.1; rw [HX.out.1] at this; omega) (by have := hbo.out.1.1; rw [HX.out.1] at this; omega) (by have := hbo.out.1.2; rw [HX.out.1] at this; omega) (by omega) (by rw [List.length_append, HL.out]; simp; omega) hJ)
          clear hJ
          go_wp2_with fail
          refine hc.out.mono ?_
          rintro e w7 ⟨rfl, hJ7⟩
          rw [List.length_append, HL.out] at hJ7
          have HJ7 := Lib.hid hJ7
          clear hJ7 hc
          go_wp2_with fail
          go_roundw
          case rel => exact ⟨1, by omega, by go_num, HJ7.out⟩
          case measure => simp [intOf]
        · by_cases h1 : i = 1
          · subst h1
            have hl := plantL_len (nmOf names) bel f L X (L + 1)
            have hc := Lib.hid (IH.out (L : Int) Y (o ++ [(up, s)] ++ plantL (nmOf names) bel f L X (L + 1)) wr (by omega) (by have := hbo.out.2.1; rw [HX.out.2] at this; omega) (by have := hbo.out.2.1; rw [HX.out.2] at this; omega) (by have := hbo.out.2.2; rw [HX.out.2] at this; omega) (by omega) (by rw [List.length_append, List.length_append, HL.out]; simp; omega) hJ)
            clear hJ hl
            go_wp2_with fail
            refine hc.out.mono ?_
            rintro e w7 ⟨rfl, hJ7⟩
            rw [List.length_append, List.length_append, HL.out] at hJ7
            have HJ7 := Lib.hid hJ7
            clear hJ7 hc
            go_wp2_with fail
            go_roundw
            case rel => exact ⟨2, by omega, by go_num, HJ7.out⟩
            case measure => simp [intOf]
          · obtain rfl : i = 2 := by omega
            have HJ := Lib.hid hJ
            clear hJ
            go_wp2_with fail
            go_end0
            refine ⟨rfl, ?_⟩
            rw [← hfin.out, HX.out.1, HX.out.2]
            have := HJ.out
            rw [← HS.out] at this
            exact this
/-- The whole tree is planted. -/
theorem plant_root (W0 : World) (PB n c N bc : Nat) (na ba : Option Addr) (names : List ByteArray) (bel : List Fr) (hln : names.length = n) (hlb : bel.length = N) (hnm : RdN PB W0 na (fl encS names)) (hbl : RdN PB W0 ba (fl encFr bel)) (hok : BelOk n bel) (hN : N ≤ 23) (hn : n ≤ 24) (k : Int) (X : List Nd) (hk : k < N) (hk2 : -1 - (n : Int) < k) (hX : X = plantL (nmOf names) bel 25 (-1) k 0)
    (hP : Blk W0 PB #[.slice na n c, .slice ba N bc, .slice none 0 0] 118) :
    Calls Tryd.prog 70 #[.pointer (some ⟨PB, 0, none⟩), .int .i64 (-1), .int .i64 k] W0 fun e W' => e = .returned (.tuple #[]) ∧ ∃ ov, But PB W0 W' ∧ W'.cell? ⟨PB, 2, none⟩ = some ov ∧ W'.ownsRow W0.heap.size 66 2 ov X.length (fl encNd X) := by
  obtain ⟨o, ho⟩ : ∃ o : List Nd, o = [] := ⟨_, rfl⟩
  have hl : o.length = 0 := by rw [ho]; rfl
  have hx : o ++ plantL (nmOf names) bel 25 (-1) k o.length = X := by rw [hX, hl, ho, List.nil_append]
  have hr : W0.ownsRow W0.heap.size 66 2 (.slice none 0 0) o.length (fl encNd o) := by rw [ho]; exact World.ownsRow_nil _ _ _ _
  have hb : o.length + 2 ^ 25 < 5000000000000 := by rw [hl]; decide
  have h := plant_any W0 PB n c N bc na ba names bel hln hlb hnm hbl hok (by omega) (by omega) hP.lt 25 (-1) k o W0 (by omega) (by omega) hk hk2 (by omega) hb ⟨But.refl _ _, ⟨_, hP, hr⟩⟩
  rw [hx] at h
  refine h.mono ?_
  rintro e W' ⟨he, hb, ov, h1, h2⟩
  exact ⟨he, ov, hb, h1.cell 2, h2⟩
end Go.Proofs.YtahgffjkkdbjeaaDoor
namespace Go.Proofs.YtahgffjkkdbjeaaDoor
open Go.RowKit
theorem owns_but {g : Nat} {w w' : World} {base e k : Nat} {v : Value} {n : Nat} {cs : List Value} (h : w.ownsRow base e k v n cs) (hb : But g w w') (hne : v.ownBlock ≠ some g) : w'.ownsRow base e k v n cs := by
  refine ⟨h.1, ?_⟩
  rcases h.2 with h2 | ⟨g', cap, cur, hv, hg, hh, r⟩
  · exact .inl h2
  · refine .inr ⟨g', cap, cur, hv, hg, (hb.block g' (Array.getElem?_eq_some_iff.1 hh).1 (fun e => hne ?_)).trans hh, r⟩
    rw [hv]; simp [Value.ownBlock, e]
theorem TrJ.but {w0 : World} {Bc PB Pb NB LB : Nat} {a : Option Addr} {N c : Nat} {na : Value} {l : List Mg} {k : Nat} {W W' : World} (h : TrJ w0 Bc PB Pb NB LB a N c na l k W) (hb : But Bc W W') : TrJ w0 Bc PB Pb NB LB a N c na l k W' := by
  obtain ⟨pbox, lbox, ⟨tn, now, tn1, tn2⟩, ⟨vb, prow, own, o1, o2, o3, o4, o5⟩, rd, bl, ne⟩ := h
  obtain ⟨n1, n2, n3, n4, n5, n6, n7, n8, n9, n10, n11, n12, n13, n14, n15⟩ := ne
  exact ⟨hb.blk pbox n2.symm, hb.blk lbox n4.symm, ⟨tn, hb.blk now n3.symm, tn1, tn2⟩, ⟨vb, hb.blk prow n1.symm, owns_but own hb o1, o1, o2, o3, o4, o5⟩, rd, bl.trans (hb.below bl.size n13), ⟨n1, n2, n3, n4, n5, n6, n7, n8, n9, n10, n11, n12, n13, n14, n15⟩⟩
theorem TrJ.below {w0 : World} {Bc PB Pb NB LB : Nat} {a : Option Addr} {N c : Nat} {na : Value} {l : List Mg} {k : Nat} {W W' : World} (h : TrJ w0 Bc PB Pb NB LB a N c na l k W) (hb : Below W.heap.size W W') : TrJ w0 Bc PB Pb NB LB a N c na l k W' :=
  h.but (But.of_below hb)
/-- What is asked of Tree's arguments. -/
def TrPost (w : World) (n : Int) (names : List ByteArray) (l : List Mg) (e : Ending) (w' : World) : Prop :=
  ∃ v, e = .returned (.tuple #[v, .int .i64 (treeE n names l)]) ∧ w'.ownsRow w.heap.size 66 2 v (treeL n names l).length (fl encNd (treeL n names l)) ∧ Below w.heap.size w w'
theorem TrPost.err {w w' : World} {n x : Int} {names : List ByteArray} {l : List Mg} (hx : treeE n names l = x) (h0 : x ≠ 0) (hb : Below w.heap.size w w') : TrPost w n names l (.returned (.tuple #[.slice none 0 0, .int .i64 x])) w' := by
  refine ⟨.slice none 0 0, by rw [hx], ?_, hb⟩
  rw [treeL, if_neg (by rw [hx]; exact h0)]
  exact World.ownsRow_nil _ _ _ _
theorem RdN.of_below {w w6 : World} {g : Nat} {a : Option Addr} {cs : List Value} (h : Rd w a cs) (hb : Below w.heap.size w w6) (hg : w.heap.size ≤ g) : RdN g w6 a cs := by
  intro h0
  obtain ⟨b, off, rfl, hlt, hc⟩ := h h0
  exact ⟨b, off, rfl, by omega, Rd.below (fun _ => ⟨b, off, rfl, hlt, hc⟩) hb (Nat.le_refl _)⟩
theorem RdN.of_owns {w : World} {g base e k n cap : Nat} {a : Option Addr} {cs : List Value} (h : w.ownsRow base e k (.slice a n cap) n cs) (hne : (Value.slice a n cap).ownBlock ≠ some g) : RdN g w a cs := by
  intro h0
  obtain ⟨b, off, rfl, hlt, hc⟩ := rd_of_owns h h0
  exact ⟨b, off, rfl, fun e => hne (by simp [Value.ownBlock, e]), fun _ => ⟨b, off, rfl, hlt, hc⟩⟩
theorem wf64 {x : Int} (h1 : -9223372036854775808 ≤ x) (h2 : x ≤ 9223372036854775807) : (Lit.int .i64 x).wf = true := by
  simp only [Lit.wf, Bool.and_eq_true, decide_eq_true_eq]
  exact ⟨h1, h2⟩
theorem check_one (B : Nat) (s : ByteArray) (w : World) (hs : s.size ≤ 9223372036854775807) (h : Blk w B #[.int .i64 (-1), .string s] 66) : Calls Tryd.prog 32 #[.slice (some ⟨B, 0, none⟩) 1 1] w fun e w' => e = .returned (.int .i64 (if nmB s then 0 else 16)) ∧ Below w.heap.size w w' := by
  rw [← chkE_one]
  refine check_any _ 1 1 [(-1, s)] w rfl (by omega) (fun _ => ⟨B, 0, rfl, h.lt, fun i hi => ?_⟩) (fun v hv => ?_)
  · have h2 := h.cell i
    rw [Nat.zero_add]
    refine h2.trans ?_
    have : i = 0 ∨ i = 1 := by have : i < 2 := hi; omega
    rcases this with rfl | rfl <;> rfl
  · obtain rfl : v = 0 := by omega
    exact hs
/-- What is made before the steps; the first i numbers of 'now' are laid. -/
def TrS0 (w : World) (m c1 N c2 : Nat) (na la : Option Addr) (i : Nat) (wr : World) : Prop :=
  Blk wr w.heap.size #[.slice la N c2] 36 ∧ Blk wr (w.heap.size + 1) #[.slice na m c1, .slice none 0 0, .slice none 0 0] 118 ∧ Blk wr (w.heap.size + 1 + 1) #[.pointer (some ⟨w.heap.size + 1, 0, none⟩)] 115 ∧
    Blk wr (w.heap.size + 1 + 1 + 1) (ofF 24 (nowC fun a => if a < i then -1 - (a : Int) else 0)) 98 ∧ Below w.heap.size w wr ∧ wr.heap.size = w.heap.size + 1 + 1 + 1 + 1
theorem TrS0.start (w : World) (m c1 N c2 : Nat) (na la : Option Addr) : TrS0 w m c1 N c2 na la 0 ((((w.alloc (.cells #[.slice la N c2] 36)).alloc (.cells #[.slice na m c1, .slice none 0 0, .slice none 0 0] 118)).alloc (.cells #[.pointer (some ⟨w.heap.size + 1, 0, none⟩)] 115)).alloc (.cells #[.int .i64 0, .int .i64 0, .int .i64 0, .int .i64 0, .int .i64 0, .int .i64 0, .int .i64 0, .int .i64 0, .int .i64 0, .int .i64 0, .int .i64 0, .int .i64 0, .int .i64 0, .int .i64 0, .int .i64 0, .int .i64 0, .int .i64 0, .int .i64 0, .int .i64 0, .int .i64 0, .int .i64 0, .int .i64 0, .int .i64 0, .int .i64 0] 98)) := by
  refine ⟨((Blk.new w _ _).alloc _).alloc _ |>.alloc _, ((Blk.new2 w _ _ _).alloc _).alloc _, ?_, ?_, ((((Below.refl w.heap.size w).alloc (by simp) _).alloc (by simp) _).alloc (by simp; omega) _).alloc (by simp; omega) _, by simp⟩
  · have := (Blk.new2 (w.alloc (.cells #[.slice la N c2] 36)) (.cells #[.slice na m c1, .slice none 0 0, .slice none 0 0] 118) #[.pointer (some ⟨w.heap.size + 1, 0, none⟩)] 115).alloc (.cells #[.int .i64 0, .int .i64 0, .int .i64 0, .int .i64 0, .int .i64 0, .int .i64 0, .int .i64 0, .int .i64 0, .int .i64 0, .int .i64 0, .int .i64 0, .int .i64 0, .int .i64 0, .int .i64 0, .int .i64 0, .int .i64 0, .int .i64 0, .int .i64 0, .int .i64 0, .int .i64 0, .int .i64 0, .int .i64 0, .int .i64 0, .int .i64 0] 98)
    simpa using this
  · have e : (#[.int .i64 0, .int .i64 0, .int .i64 0, .int .i64 0, .int .i64 0, .int .i64 0, .int .i64 0, .int .i64 0, .int .i64 0, .int .i64 0, .int .i64 0, .int .i64 0, .int .i64 0, .int .i64 0, .int .i64 0, .int .i64 0, .int .i64 0, .int .i64 0, .int .i64 0, .int .i64 0, .int .i64 0, .int .i64 0, .int .i64 0, .int .i64 0] : Array Value) = ofF 24 (nowC fun a => if a < 0 then -1 - (a : Int) else 0) := by rfl
    rw [e]
    have := Blk.new2 ((w.alloc (.cells #[.slice la N c2] 36)).alloc (.cells #[.slice na m c1, .slice none 0 0, .slice none 0 0] 118)) (.cells #[.pointer (some ⟨w.heap.size + 1, 0, none⟩)] 115) (ofF 24 (nowC fun a => if a < 0 then -1 - (a : Int) else 0)) 98
    simpa using this
theorem TrS0.next {w wr : World} {m c1 N c2 : Nat} {na la : Option Addr} {i : Nat} (h : TrS0 w m c1 N c2 na la i wr) (hi : i < 24) : TrS0 w m c1 N c2 na la (i + 1) (wr.setCell ⟨w.heap.size + 1 + 1 + 1, i, none⟩ (.int .i64 (-1 - (i : Int)))) := by
  obtain ⟨h1, h2, h3, h4, h5, h6⟩ := h
  refine ⟨h1.other (by omega) _ _, h2.other (by omega) _ _, h3.other (by omega) _ _, ?_, h5.setCell (p := ⟨w.heap.size + 1 + 1 + 1, i, none⟩) (by simp only; omega) _, by simpa [World.setCell] using h6⟩
  have := h4.setF i (.int .i64 (-1 - (i : Int)))
  rw [ofF_congr (g' := nowC fun a => if a < i + 1 then -1 - (a : Int) else 0)] at this
  · exact this
  · intro j _
    simp only [nowC]
    by_cases e : j = i
    · subst e; rw [if_pos rfl, if_pos (by omega)]
    · rw [if_neg e]
      by_cases e2 : j < i
      · rw [if_pos e2, if_pos (by omega)]
      · rw [if_neg e2, if_neg (by omega)]
theorem TrS0.trj {w wr : World} {m c1 N c2 : Nat} {na la : Option Addr} (h : TrS0 w m c1 N c2 na la 24 wr) (l : List Mg) (hl : Rd w la (fl encMg l)) : TrJ w wr.heap.size (w.heap.size + 1) (w.heap.size + 1 + 1) (w.heap.size + 1 + 1 + 1) w.heap.size la N c2 (.slice na m c1) l 0 wr := by
  obtain ⟨h1, h2, h3, h4, h5, h6⟩ := h
  refine ⟨h3, h1, ⟨98, ?_, by decide, by decide⟩, ⟨.slice none 0 0, h2, World.ownsRow_nil _ _ _ _, by simp [Value.ownBlock], by simp [Value.ownBlock], by simp [Value.ownBlock], by simp [Value.ownBlock], by simp [Value.ownBlock]⟩, hl, h5, by omega⟩
  rw [ofF_congr (g' := nowC fun a => if a < 24 then -1 - (a : Int) else 0)]
  · exact h4
  · intro j hj
    simp only [nowC, nowK]
    rw [if_pos hj]
set_option maxRecDepth 100000 in
set_option maxHeartbeats 4000000 in
theorem tree_any (n : Int) (m c1 N c2 : Nat) (na la : Option Addr) (names : List ByteArray) (l : List Mg) (w : World) (hm : names.length = m) (hN : l.length = N) (hn : Rd w na (fl encS names)) (hl : Rd w la (fl encMg l)) (hmx : m ≤ 1152921504606846976) (hNx : N ≤ 1152921504606846976) (hsz : ∀ i, i < m → (sA names i).size ≤ 9223372036854775807) :
    Calls Tryd.prog 31 #[.int .i64 n, .slice na m c1, .slice la N c2] w (TrPost w n names l) := by
  have HH := Lib.hid (And.intro hm (And.intro hN (And.intro hn (And.intro hl hsz))))
  clear hm hN hn hl hsz
  have hb0 := bl_alloc (Below.refl _ w) (.cells #[.slice la N c2] 36)
  by_cases h1 : n < 1
  · have he := Lib.hid (show treeE n names l = 3 from if_pos (.inl h1))
    have d1 : decide (n < 1) = true := by simpa using h1
    go_enter Tryd.func31, Tryd.ntmps31
    go_wp2_with fail
    go_ret2
    exact TrPost.err he.out (by decide) hb0
  · have d1 : decide (n < 1) = false := by simpa using h1
    by_cases h2 : 24 < n
    · have he := Lib.hid (show treeE n names l = 3 from if_pos (.inr h2))
      have d2 : decide (24 < n) = true := by simpa using h2
      go_enter Tryd.func31, Tryd.ntmps31
      go_wp2_with fail
      go_ret2
      exact TrPost.err he.out (by decide) hb0
    · have d2 : decide (24 < n) = false := by simpa using h2
      obtain ⟨n, rfl⟩ : ∃ k : Nat, n = k := ⟨n.toNat, by omega⟩
      go_enter Tryd.func31, Tryd.ntmps31
      go_wp2_with fail
      have hs0 := TrS0.start w m c1 N c2 na la
      go_loopw [26, 10] (fun x _ wr => ∃ i : Nat, i ≤ 24 ∧ x = .int .i64 i ∧ TrS0 w m c1 N c2 na la i wr) (fun x _ _ => 24 - (intOf x).toNat)
      case atStart => exact ⟨0, by omega, rfl, hs0⟩
      case round =>
        obtain ⟨i, hi, rfl, hs⟩ := hrel
        clear hs0 hb0
        by_cases hlt : i < 24
        · have hnx := Lib.hid (hs.next hlt)
          obtain ⟨v, hv⟩ : ∃ v, wr.cell? ⟨w.heap.size + 1 + 1 + 1, i, none⟩ = some v := ⟨_, hs.2.2.2.1.getF i hlt⟩
          have hf := hs.2.2.2.1.free i
          clear hs
          go_wp2_with fail
          go_roundw
          case rel => exact ⟨i + 1, by omega, by go_num, hnx.out⟩
          case measure => simp [intOf]; omega
        · obtain rfl : i = 24 := by omega
          obtain ⟨wo, rfl⟩ : ∃ wo : World, wo = wr := ⟨_, rfl⟩
          have hj := Lib.hid (hs.trj l HH.out.2.2.2.1)
          have hb1 := hs.2.2.2.2.1
          have l0 : wo.cell? ⟨w.heap.size, 0, none⟩ = some (.slice la N c2) := hs.1.cell 0
          clear hs
          by_cases hmn : m = n
          · have hq : ((m : Int) != (n : Int)) = false := by simp; omega
            have HMN := Lib.hid hmn
            clear hmn
            go_wp2_with fail
            refine (steps_any 68 (enters_of Tryd.func68 (by kernel_rfl) rfl) la n N c2 l #[.pointer (some ⟨w.heap.size + 1 + 1, 0, none⟩), .pointer (some ⟨w.heap.size + 1 + 1 + 1, 0, none⟩), .pointer (some ⟨w.heap.size, 0, none⟩)] wo (TrJ w wo.heap.size (w.heap.size + 1) (w.heap.size + 1 + 1) (w.heap.size + 1 + 1 + 1) w.heap.size la N c2 (.slice na m c1) l) (by omega) (by omega) HH.out.2.1 hNx (fun k W h => h.rd.below h.bl (Nat.le_refl _)) (fun k W W' h hb => h.but hb) hj.out ?_).mono ?_
            · intro k W hk hok hJ hsz2 hNn
              exact tree1_any w wo.heap.size (w.heap.size + 1) (w.heap.size + 1 + 1) (w.heap.size + 1 + 1 + 1) w.heap.size la n N c2 (.slice na m c1) l k W HH.out.2.1 hk (by omega) (by omega) (hok k (by omega)) hsz2 hJ
            · rintro e w3 (⟨hok, rfl, hJ⟩ | ⟨hok, rfl, k, hJ⟩)
              · have HOK := Lib.hid hok
                clear hok hq hj hb1 l0
                have HT := Lib.hid (show TrJ w wo.heap.size (w.heap.size + 1) (w.heap.size + 1 + 1) (w.heap.size + 1 + 1 + 1) w.heap.size la N c2 (.slice na m c1) l N w3 from hJ)
                have HE3 : Hid (∀ i, i < m → nmB (sA names i) = false → treeE (n : Int) names l = 15) := fun i hi h => by
                  rw [treeE, if_neg (by omega), if_neg (fun h => h ⟨by rw [HH.out.1, HMN.out], by simpa using HOK.out⟩), if_pos (fun h2 => by have := h2 i (by rw [HH.out.1]; exact hi); rw [h] at this; cases this)]
                clear hJ
                go_wp2_with fail
                go_loopw [47, 12] (fun x _ wr => ∃ i : Nat, i ≤ m ∧ x = .int .i64 i ∧ Hid (∀ j, j < i → nmB (sA names j) = true) ∧ TrJ w wo.heap.size (w.heap.size + 1) (w.heap.size + 1 + 1) (w.heap.size + 1 + 1 + 1) w.heap.size la N c2 (.slice na m c1) l N wr) (fun x _ _ => m - (intOf x).toNat)
                case atStart => exact ⟨0, by omega, rfl, fun j h => absurd h (by omega), HT.out⟩
                case round =>
                  obtain ⟨i, hi, rfl, hal, hJ⟩ := hrel
                  by_cases hlt : i < m
                  · obtain ⟨b, o, rfl, _, hc⟩ := rdS (HH.out.2.2.1.below hJ.bl (Nat.le_refl _)) (by rw [HH.out.1]; omega)
                    have g0 := hc i (by rw [HH.out.1]; omega)
                    have hsz := HH.out.2.2.2.2 i hlt
                    have hno := Lib.hid (HE3.out i hlt)
                    have hJa := Lib.hid (hJ.below (bl_alloc (Below.refl _ wr) (.cells #[.int .i64 (-1), .string (sA names i)] 66)))
                    have HB := Lib.hid hJ.bl
                    have HJ := Lib.hid hJ
                    clear hc hJ
                    by_cases hbig : 24 < (sA names i).size
                    · have hd : decide (24 < (sA names i).size) = true := by simpa using hbig
                      have hx := Lib.hid (hno.out (nmB_size hbig))
                      go_wp2_with fail
                      go_ret2
                      exact TrPost.err hx.out (by decide) HB.out
                    · have hd : decide (24 < (sA names i).size) = false := by simpa using hbig
                      have HC := Lib.hid (check_one wr.heap.size (sA names i) _ hsz (Blk.new wr _ _))
                      go_wp2_with fail
                      refine HC.out.mono ?_
                      rintro e w7 ⟨rfl, hb7⟩
                      have HJ7 := Lib.hid (hJa.out.below hb7)
                      rcases Bool.eq_false_or_eq_true (nmB (sA names i)) with hp | hp
                      · have hal2 : Hid (∀ j, j < i + 1 → nmB (sA names j) = true) := fun j hj => by
                          by_cases e : j = i
                          · rw [e]; exact hp
                          · exact hal.out j (by omega)
                        rw [if_pos hp]
                        clear hp hb7 HC hJa
                        go_wp2_with fail
                        go_roundw
                        case rel => exact ⟨i + 1, by omega, by go_num, hal2, HJ7.out⟩
                        case measure => simp [intOf]; omega
                      · have hx := Lib.hid (hno.out hp)
                        have hb8 := HJ7.out.bl
                        rw [if_neg (by rw [hp]; simp)]
                        clear hp hb7 HC hJa
                        go_wp2_with fail
                        go_ret2
                        exact TrPost.err hx.out (by decide) hb8
                  · have e : i = m := by omega
                    have HAL : Hid (∀ j, j < m → nmB (sA names j) = true) := fun j hj => hal.out j (by omega)
                    have HJ := Lib.hid hJ
                    have l0 : (wr.alloc (.map #[] 0)).cell? ⟨w.heap.size, 0, none⟩ = some (.slice la N c2) := (hJ.lbox.alloc _).cell 0
                    obtain ⟨w5, rfl⟩ : ∃ w5 : World, w5 = wr := ⟨_, rfl⟩
                    have hm0 : MI (w5.alloc (.map #[] 0)) w5.heap.size 0 (hvI 0) := MI.made w5
                    have hb0 := bl_alloc (Below.refl _ w5) (.map #[] 0)
                    have hlw := hJ.lbox.lt
                    have HN1 : Hid (N + 1 = n) := by
                      have h1 := HOK.out.1
                      rw [HH.out.2.1] at h1
                      exact h1
                    clear e hal hJ HT
                    have hmm := @run_makeMap Tryd.prog
                    go_wp2_with fail
                    clear hmm
                    go_loopw [65, 14] (fun x _ wr => ∃ k : Nat, k ≤ N ∧ x = .int .i64 k ∧ MI wr w5.heap.size k (hvI k) ∧ Below w5.heap.size w5 wr) (fun x _ _ => N - (intOf x).toNat)
                    case atStart => exact ⟨0, by omega, rfl, hm0, hb0⟩
                    case round =>
                      obtain ⟨k, hk, rfl, hmi, hbl⟩ := hrel
                      clear hm0 hb0 l0
                      have hN24 := HN1.out
                      by_cases hlt : k < N
                      · have hnx : Hid (updS (hvI k) (innS k) (hvI k (innS k) + 1) = hvI (k + 1)) := rfl
                        have hin := Lib.hid (fun w' => inner_any k w' (by omega))
                        obtain ⟨hbd1, hbd2⟩ := hvI_bd k (innS k)
                        have hsi : (innS k).size ≤ 9223372036854775807 := by have := decDigits_len k (by omega); simp [innS, ByteArray.size]; omega
                        have HLK : Hid (∀ w', MI w' w5.heap.size k (hvI k) → (Instr.lookup 64 (.map (some w5.heap.size)) (.string (innS k)) false).run Tryd.prog w' = .ok (.int .i64 (hvI k (innS k))) w') := fun w' h => h.look Tryd.underlying64 _ (by unfold maxLen; omega)
                        generalize hvI k (innS k) = v at *
                        generalize innS k = s at *
                        have hlk := HLK.out _ hmi
                        go_wp2_with (first | (go_at_call 69; refine (hin.out _).mono ?_; rintro e w' ⟨rfl, rfl⟩) | (refine wpList_putI rfl (.tmp 68) (.tmp 70) (.tmp 72) 64 rfl Tryd.underlying64 rfl hmi (by omega) s rfl (v + 1) rfl (by unfold maxLen; omega) (wf64 (by omega) (by omega)) ?_; intro w8 hm8 hg8))
                        rw [hnx.out] at hm8
                        have hbl8 := Below.grown hbl hg8 (by have := hbl.size; omega) (fun r hr => by rw [← Option.some.inj hr]; exact Nat.le_refl _)
                        clear hg8 hmi hbl hlk HLK
                        go_wp2_with fail
                        go_roundw
                        case rel => exact ⟨k + 1, by omega, by go_num, hm8, hbl8⟩
                        case measure => simp [intOf]; omega
                      · have e : k = N := by omega
                        have hmi2 : MI wr w5.heap.size (N + 0) (hvN names N 0) := by rw [e] at hmi; exact hmi
                        clear e hmi
                        have hal0 : Hid (∀ j, j < 0 → hvN names N (j + 1) (sA names j) ≤ 1) := fun j h => absurd h (by omega)
                        have HE4 : Hid (∀ i, i < m → 1 < hvN names N (i + 1) (sA names i) → treeE (n : Int) names l = 6) := fun i hi h => by
                          rw [treeE, if_neg (by omega), if_neg (fun h => h ⟨by rw [HH.out.1, HMN.out], by simpa using HOK.out⟩), if_neg (fun h => h fun j hj => HAL.out j (by rw [← HH.out.1]; exact hj)), if_pos (fun h2 => by have := h2 i (by rw [HH.out.1]; exact hi); rw [HH.out.2.1] at this; omega)]
                        go_wp2_with fail
                        go_loopw [76, 16] (fun x _ wr => ∃ i : Nat, i ≤ m ∧ x = .int .i64 i ∧ Hid (∀ j, j < i → hvN names N (j + 1) (sA names j) ≤ 1) ∧ MI wr w5.heap.size (N + i) (hvN names N i) ∧ Below w5.heap.size w5 wr) (fun x _ _ => m - (intOf x).toNat)
                        case atStart => exact ⟨0, by omega, rfl, hal0, hmi2, hbl⟩
                        case round =>
                          obtain ⟨i, hi, rfl, hal, hmi, hbl⟩ := hrel
                          clear hmi2 hal0
                          have hJ2 := Lib.hid (HJ.out.below hbl)
                          have hm24 : m ≤ 24 := by have := HMN.out; omega
                          by_cases hlt : i < m
                          · obtain ⟨b, o, rfl, _, hc⟩ := rdS (HH.out.2.2.1.below hJ2.out.bl (Nat.le_refl _)) (by rw [HH.out.1]; omega)
                            have g0 := hc i (by rw [HH.out.1]; omega)
                            have hsi := HH.out.2.2.2.2 i hlt
                            have hno := Lib.hid (HE4.out i hlt)
                            have hnx : Hid (updS (hvN names N i) (sA names i) (hvN names N i (sA names i) + 1) = hvN names N (i + 1)) := rfl
                            have hnv : Hid (hvN names N (i + 1) (sA names i) = hvN names N i (sA names i) + 1) := by show _ = _; simp [hvN, updS]
                            obtain ⟨hbd1, hbd2⟩ := hvN_bd names N i (sA names i)
                            have HLK : Hid (∀ w', MI w' w5.heap.size (N + i) (hvN names N i) → (Instr.lookup 64 (.map (some w5.heap.size)) (.string (sA names i)) false).run Tryd.prog w' = .ok (.int .i64 (hvN names N i (sA names i))) w') := fun w' h => h.look Tryd.underlying64 _ (by unfold maxLen; omega)
                            have HLK2 : Hid (∀ w', MI w' w5.heap.size (N + i + 1) (updS (hvN names N i) (sA names i) (hvN names N i (sA names i) + 1)) → (Instr.lookup 64 (.map (some w5.heap.size)) (.string (sA names i)) false).run Tryd.prog w' = .ok (.int .i64 (hvN names N i (sA names i) + 1)) w') := fun w' h => by
                              have := h.look Tryd.underlying64 (sA names i) (by unfold maxLen; omega)
                              simpa [updS] using this
                            clear hc
                            generalize hvN names N i (sA names i) = v at *
                            obtain ⟨s, hs⟩ : ∃ s, s = sA names i := ⟨_, rfl⟩
                            rw [← hs] at g0 hsi hno hnx hnv HLK HLK2
                            have HS := Lib.hid hs
                            clear hs
                            have hlk := HLK.out _ hmi
                            by_cases hv : 0 < v
                            · have hx := Lib.hid (hno.out (by rw [hnv.out]; omega))
                              go_wp2_with (refine wpList_putI rfl (.tmp 80) (.tmp 81) (.tmp 83) 64 rfl Tryd.underlying64 rfl hmi (by omega) s rfl (v + 1) rfl (by unfold maxLen; omega) (wf64 (by omega) (by omega)) ?_; intro w8 hm8 hg8; have hlk8 := HLK2.out _ hm8)
                              have hbl8 := Below.grown hbl hg8 (by have := hbl.size; omega) (fun r hr => by rw [← Option.some.inj hr]; exact Nat.le_refl _)
                              have hb9 := (HJ.out.below hbl8).bl
                              go_ret2
                              exact TrPost.err hx.out (by decide) hb9
                            · have hv2 : v ≤ 0 := by omega
                              have hal2 : Hid (∀ j, j < i + 1 → hvN names N (j + 1) (sA names j) ≤ 1) := fun j hj => by
                                by_cases e : j = i
                                · rw [e, ← HS.out, hnv.out]; omega
                                · exact hal.out j (by omega)
                              clear hv
                              go_wp2_with (refine wpList_putI rfl (.tmp 80) (.tmp 81) (.tmp 83) 64 rfl Tryd.underlying64 rfl hmi (by omega) s rfl (v + 1) rfl (by unfold maxLen; omega) (wf64 (by omega) (by omega)) ?_; intro w8 hm8 hg8; have hlk8 := HLK2.out _ hm8)
                              have hbl8 := Below.grown hbl hg8 (by have := hbl.size; omega) (fun r hr => by rw [← Option.some.inj hr]; exact Nat.le_refl _)
                              rw [hnx.out] at hm8
                              clear hg8 hlk8 hmi hbl hlk HLK HLK2
                              go_wp2_with fail
                              go_roundw
                              case rel => exact ⟨i + 1, by omega, by go_num, hal2, by rw [← Nat.add_assoc]; exact hm8, hbl8⟩
                              case measure => simp [intOf]; omega
                          · have e : i = m := by omega
                            have hHV : Hid (HaveOk names N) := fun j hj => hal.out j (by rw [HH.out.1] at hj; omega)
                            have he := Lib.hid (show treeE (n : Int) names l = 0 by
                              rw [treeE, if_neg (by omega), if_neg (fun h => h ⟨by rw [HH.out.1, HMN.out], by simpa using HOK.out⟩), if_neg (fun h => h fun j hj => HAL.out j (by rw [← HH.out.1]; exact hj)), if_neg (fun h => h (by rw [HH.out.2.1]; exact hHV.out))])
                            clear e hal hmi hbl
                            obtain ⟨w6, rfl⟩ : ∃ w6 : World, w6 = wr := ⟨_, rfl⟩
                            obtain ⟨pbox, lbox, ⟨tn, now, tn1, tn2⟩, ⟨vb, prow, own, o1, o2, o3, o4, o5⟩, rd, bl, ne⟩ := hJ2.out
                            have p0 : w6.cell? ⟨w.heap.size + 1 + 1, 0, none⟩ = some (.pointer (some ⟨w.heap.size + 1, 0, none⟩)) := pbox.cell 0
                            have z0 : w6.cell? ⟨w.heap.size + 1 + 1 + 1, 0, none⟩ = some (.int .i64 (nowK l N 0)) := now.getF 0 (by omega)
                            obtain ⟨va, vcap, rfl, hva⟩ := owns_slice own
                            obtain ⟨hnb1, hnb2⟩ := nowK_bd (n := n) (l := l) N 0 (by omega)
                            have hmn3 : (n : Int) ≤ m := by have := HMN.out; omega
                            have hTL : treeL n names l = plantL (nmOf names) (belK l N) 25 (-1) (nowK l N 0) 0 := by rw [treeL, if_pos he.out, HH.out.2.1]
                            have hpl := Lib.hid (plant_root w6 (w.heap.size + 1) m c1 N vcap na va names (belK l N) HH.out.1 (belK_len l N) (RdN.of_below HH.out.2.2.1 bl (by omega)) (RdN.of_owns own o2) (by rw [HMN.out]; exact belK_ok N (fun i hi => HOK.out.2 i (by rw [HH.out.2.1]; exact hi))) (by omega) (by omega) (nowK l N 0) (treeL n names l) (by omega) (by omega) hTL prow)
                            clear hTL
                            have HX := Lib.hid (And.intro pbox bl)
                            clear pbox lbox now prow own rd bl ne hnb1 hnb2 hmn3
                            go_wp2_with fail
                            refine hpl.out.mono ?_
                            rintro e w7 ⟨rfl, hP7⟩
                            obtain ⟨ov, hbut, r7, own⟩ := hP7
                            have p7 : w7.cell? ⟨w.heap.size + 1 + 1, 0, none⟩ = some (.pointer (some ⟨w.heap.size + 1, 0, none⟩)) := (hbut.blk HX.out.1 (by omega)).cell 0
                            have HF := Lib.hid (And.intro hbut own)
                            clear hbut own p0 z0 hpl
                            go_wp2_with fail
                            go_ret2
                            obtain ⟨hbut, own⟩ := HF.out
                            exact ⟨ov, by rw [he.out]; rfl, owns_mono own HX.out.2.size, HX.out.2.trans (hbut.below HX.out.2.size (by omega))⟩
              · have he := Lib.hid (show treeE (n : Int) names l = 2 by rw [treeE, if_neg (by omega), if_pos (fun h => hok (by have := h.2; simpa using this))])
                have hb3 := hJ.bl
                clear hok hJ
                go_wp2_with fail
                go_ret2
                exact TrPost.err he.out (by decide) hb3
          · have hq : ((m : Int) != (n : Int)) = true := by simp; omega
            have he := Lib.hid (show treeE (n : Int) names l = 2 by rw [treeE, if_neg (by omega), if_pos (fun h => hmn (by have := h.1; rw [HH.out.1] at this; omega))])
            clear hmn
            go_wp2_with fail
            go_ret2
            exact TrPost.err he.out (by decide) hb1
end Go.Proofs.YtahgffjkkdbjeaaDoor
namespace Go.Proofs.YtahgffjkkdbjeaaDoor
open Go.RowKit
theorem Rd.of_blk {W : World} {B : Nat} {t : TypeId} {cs : List Value} (h : Blk W B cs.toArray t) : Rd W (some ⟨B, 0, none⟩) cs := by
  intro _
  refine ⟨B, 0, rfl, h.lt, fun i hi => ?_⟩
  rw [Nat.zero_add]
  refine (h.cell i).trans ?_
  simp only [List.getElem?_toArray]
  rw [List.getElem?_eq_getElem hi, List.getD_eq_getElem?_getD, List.getElem?_eq_getElem hi]
  rfl
theorem fit_three : FitFr threeL := by
  have : ∀ i, i < 9 → fN threeL i ≤ 100 ∧ fD threeL i ≤ 100 := by decide
  intro i hi
  have := this i hi
  omega
theorem w_merges (a : Option Addr) (w : World) (h : Rd w a (fl encFr threeL)) : Calls Tryd.prog 23 #[.int .i64 3, .slice a 9 9] w fun e w' => ∃ b cap, e = .returned (.tuple #[.slice b 2 cap, .int .i64 0]) ∧ Rd w' b (fl encMg threeM) ∧ Below w.heap.size w w' := by
  refine (merges_any a 3 9 9 threeL w (by omega) (by omega) rfl (by omega) h fit_three).mono ?_
  rintro e w' ⟨hb, ⟨k, hk, _⟩ | ⟨m, c, v, g, hm, _, _, hc, rfl, hown, hg, _⟩⟩
  · rw [three_scaled] at hk; cases hk
  · obtain rfl : m = 3 := by omega
    rw [three_scaled] at hc
    obtain rfl : c = 1 := by injection hc with hc; exact hc.symm
    rw [three_run g hg] at hown
    obtain ⟨b, cap, rfl, _⟩ := owns_slice hown
    exact ⟨b, cap, rfl, rd_of_owns hown, hb⟩
theorem w_tree (na la : Option Addr) (c1 c2 : Nat) (w : World) (h1 : Rd w na (fl encS threeN)) (h2 : Rd w la (fl encMg threeM)) : Calls Tryd.prog 31 #[.int .i64 3, .slice na 3 c1, .slice la 2 c2] w fun e w' => ∃ b cap, e = .returned (.tuple #[.slice b 5 cap, .int .i64 0]) ∧ Rd w' b (fl encNd threeT) ∧ Below w.heap.size w w' := by
  refine (tree_any 3 3 c1 2 c2 na la threeN threeM w rfl rfl h1 h2 (by omega) (by omega) ?_).mono ?_
  · have : ∀ i, i < 3 → (sA threeN i).size ≤ 1 := by decide
    intro i hi
    have := this i hi
    omega
  · rintro e w' ⟨v, rfl, hown, hb⟩
    rw [three_treeE]
    rw [three_tree] at hown
    obtain ⟨b, cap, rfl, _⟩ := owns_slice hown
    exact ⟨b, cap, rfl, rd_of_owns hown, hb⟩
theorem w_near (a : Option Addr) (w : World) (h : Rd w a (fl encFr threeL)) : Calls Tryd.prog 17 #[.int .i64 3, .slice a 9 9, .int .i64 2] w fun e w' => e = .returned (.tuple #[.int .i64 0, .int .i64 0]) ∧ Below w.heap.size w w' := by
  refine (near_any a 3 2 9 9 threeL w (by omega) (by omega) (by omega) (by omega) rfl (by omega) h fit_three).mono ?_
  rintro e w' ⟨hb, ⟨k, hk, _⟩ | ⟨m, c, y, f, hm, hy, _, hc, rfl, hr⟩⟩
  · rw [three_rank] at hk; cases hk
  · obtain rfl : m = 3 := by omega
    obtain rfl : y = 2 := by omega
    rw [three_rank] at hc
    obtain rfl : c = 1 := by injection hc with hc; exact hc.symm
    rw [three_near f hr]
    exact ⟨rfl, hb⟩
theorem w_shares (a : Option Addr) (rs : List Rw) (w : World) (h : Rows w a rs threeR) : Calls Tryd.prog 26 #[.slice a 3 3] w fun e w' => ∃ b cap, e = .returned (.tuple #[.slice (some ⟨b, 0, none⟩) 9 cap, .int .i64 0]) ∧ w'.cell? ⟨b, 4, none⟩ = some (.int .i64 2) ∧ w'.cell? ⟨b, 5, none⟩ = some (.int .i64 3) ∧ Below w.heap.size w w' := by
  refine (shares_any a 3 3 rs threeR w rfl (by omega) h).mono ?_
  rintro e w' ⟨hb, ⟨k, hk, _⟩ | ⟨n, v, hn, _, rfl, _, hown⟩⟩
  · rw [three_sharesE] at hk; cases hk
  · rw [three_sharesE] at hn
    obtain rfl : n = 3 := by injection hn with hn; exact hn.symm
    obtain ⟨b, cap, rfl, hb2⟩ := owns_slice hown
    obtain ⟨g, _, _, rfl⟩ := hb2.resolve_left (by omega)
    obtain ⟨b, o, e, _, hc⟩ := rdFr (rd_of_owns hown) (by rw [three_shares.1]; omega)
    simp only [Option.some.injEq, Addr.mk.injEq, and_true] at e
    obtain ⟨rfl, rfl⟩ := e
    obtain ⟨c1, c2⟩ := hc 2 (by rw [three_shares.1]; omega)
    rw [three_shares.2.1] at c1
    rw [three_shares.2.2] at c2
    exact ⟨g, cap, rfl, by simpa using c1, by simpa using c2, hb⟩
theorem three_rows (w : World) : Rows ((((w.alloc (.cells #[.int .i64 0, .int .i64 0, .int .i64 1] 3)).alloc (.cells #[.int .i64 0, .int .i64 (-1), .int .i64 0] 3)).alloc (.cells #[.int .i64 2, .int .i64 2, .int .i64 2] 3)).alloc (.cells #[.slice (some ⟨w.heap.size, 0, none⟩) 3 3, .slice (some ⟨w.heap.size + 1, 0, none⟩) 3 3, .slice (some ⟨w.heap.size + 1 + 1, 0, none⟩) 3 3] 29)) (some ⟨w.heap.size + 1 + 1 + 1, 0, none⟩) [(some ⟨w.heap.size, 0, none⟩, 3, 3), (some ⟨w.heap.size + 1, 0, none⟩, 3, 3), (some ⟨w.heap.size + 1 + 1, 0, none⟩, 3, 3)] threeR := by
  refine ⟨?_, rfl, fun i hi => ?_⟩
  · have := Blk.new2 ((w.alloc (.cells #[.int .i64 0, .int .i64 0, .int .i64 1] 3)).alloc (.cells #[.int .i64 0, .int .i64 (-1), .int .i64 0] 3)) (.cells #[.int .i64 2, .int .i64 2, .int .i64 2] 3) #[.slice (some ⟨w.heap.size, 0, none⟩) 3 3, .slice (some ⟨w.heap.size + 1, 0, none⟩) 3 3, .slice (some ⟨w.heap.size + 1 + 1, 0, none⟩) 3 3] 29
    exact Rd.of_blk (cs := [.slice (some ⟨w.heap.size, 0, none⟩) 3 3, .slice (some ⟨w.heap.size + 1, 0, none⟩) 3 3, .slice (some ⟨w.heap.size + 1 + 1, 0, none⟩) 3 3]) (t := 29) (by simpa using this)
  · have : i = 0 ∨ i = 1 ∨ i = 2 := by have : i < 3 := hi; omega
    rcases this with rfl | rfl | rfl
    · exact ⟨Rd.of_blk (cs := [.int .i64 0, .int .i64 0, .int .i64 1]) (t := 3) ((((Blk.new w _ _).alloc _).alloc _).alloc _), rfl, by simp [rN]⟩
    · exact ⟨Rd.of_blk (cs := [.int .i64 0, .int .i64 (-1), .int .i64 0]) (t := 3) (((Blk.new2 w _ _ _).alloc _).alloc _), rfl, by simp [rN]⟩
    · have := (Blk.new2 (w.alloc (.cells #[.int .i64 0, .int .i64 0, .int .i64 1] 3)) (.cells #[.int .i64 0, .int .i64 (-1), .int .i64 0] 3) #[.int .i64 2, .int .i64 2, .int .i64 2] 3).alloc (.cells #[.slice (some ⟨w.heap.size, 0, none⟩) 3 3, .slice (some ⟨w.heap.size + 1, 0, none⟩) 3 3, .slice (some ⟨w.heap.size + 1 + 1, 0, none⟩) 3 3] 29)
      exact ⟨Rd.of_blk (cs := [.int .i64 2, .int .i64 2, .int .i64 2]) (t := 3) (by simpa [rA] using this), rfl, by simp [rN]⟩
theorem rd_threeM {W : World} {B : Nat} (h : Blk W B #[.int .i64 0, .int .i64 1, .int .i64 2, .int .i64 1, .int .i64 2, .int .i64 0, .int .i64 2, .int .i64 7, .int .i64 1, .int .i64 3] 42) : Rd W (some ⟨B, 0, none⟩) (fl encMg threeM) := Rd.of_blk (t := 42) h
theorem rd_threeT {W : World} {B : Nat} (h : Blk W B #[.int .i64 (-1), .string ⟨#[109, 49]⟩, .int .i64 0, .string ⟨#[109, 48]⟩, .int .i64 1, .string ⟨#[120]⟩, .int .i64 1, .string ⟨#[121]⟩, .int .i64 0, .string ⟨#[122]⟩] 66) : Rd W (some ⟨B, 0, none⟩) (fl encNd threeT) := Rd.of_blk (t := 66) h
theorem w_eqM (a1 a2 : Option Addr) (c1 c2 : Nat) (w : World) (hA : Rd w a1 (fl encMg threeM)) (hB : Rd w a2 (fl encMg threeM)) : Calls Tryd.prog 30 #[.slice a1 2 c1, .slice a2 2 c2] w fun e w' => e = .returned (.bool true) ∧ ∃ n, w' = w.drewN n :=
  (eqMg_any a1 a2 2 2 c1 c2 threeM threeM w rfl rfl (by omega) (by omega) hA hB).mono fun e w' ⟨he, hn⟩ => ⟨by rw [he, decide_eq_true rfl], hn⟩
theorem w_eqT (a1 a2 : Option Addr) (c1 c2 : Nat) (w : World) (hA : Rd w a1 (fl encNd threeT)) (hB : Rd w a2 (fl encNd threeT)) : Calls Tryd.prog 42 #[.slice a1 5 c1, .slice a2 5 c2] w fun e w' => e = .returned (.bool true) ∧ ∃ n, w' = w.drewN n :=
  (eqNd_any a1 a2 5 5 c1 c2 threeT threeT w rfl rfl (by omega) (by omega) hA hB).mono fun e w' ⟨he, hn⟩ => ⟨by rw [he, decide_eq_true rfl], hn⟩
set_option maxRecDepth 100000 in
set_option maxHeartbeats 4000000 in
theorem works_any (w : World) : Calls Tryd.prog 14 #[] w fun e w' => e = .returned (.bool true) ∧ Below w.heap.size w w' := by
  go_enter Tryd.func14, Tryd.ntmps14
  go_wp2_with fail
  refine (three_any _).mono ?_
  rintro e w1 ⟨B, rfl, hd1, hb1⟩
  have HD1 := Lib.hid hd1
  clear hd1
  go_wp2_with fail
  refine (w_merges _ _ HD1.out).mono ?_
  rintro e w2 ⟨mb, mc, rfl, hm2, hb2⟩
  have HD2 := Lib.hid (HD1.out.bl hb2)
  have HM2 := Lib.hid hm2
  have HB2 := Lib.hid (bl_trans hb1 hb2)
  clear HD1 hm2 hb1 hb2
  go_wp2_with fail
  refine (w_tree _ _ _ _ _ (Rd.of_blk (Blk.new w2 (fl encS threeN).toArray 9)) (HM2.out.bl (bl_alloc (Below.refl _ _) _))).mono ?_
  rintro e w3 ⟨nb, nc, rfl, hn3, hb3⟩
  have hc3 := bl_trans (bl_alloc (Below.refl w2.heap.size w2) _) hb3
  have HD3 := Lib.hid (HD2.out.bl hc3)
  have HM3 := Lib.hid (HM2.out.bl hc3)
  have HN3 := Lib.hid hn3
  have HB3 := Lib.hid (bl_trans HB2.out hc3)
  clear HD2 HM2 HB2 hn3 hb3 hc3
  go_wp2_with fail
  refine (w_near _ _ HD3.out).mono ?_
  rintro e w4 ⟨rfl, hb4⟩
  have HD4 := Lib.hid (HD3.out.bl hb4)
  have HM4 := Lib.hid (HM3.out.bl hb4)
  have HN4 := Lib.hid (HN3.out.bl hb4)
  have HB4 := Lib.hid (bl_trans HB3.out hb4)
  clear HD3 HM3 HN3 HB3 hb4
  go_wp2_with fail
  refine (ultra_any _ 3 9 9 threeL _ (by omega) (by omega) rfl (by omega) HD4.out fit_three).mono ?_
  rintro e w5 ⟨rfl, hb5⟩
  rw [three_ultra]
  have HM5 := Lib.hid (HM4.out.bl hb5)
  have HN5 := Lib.hid (HN4.out.bl hb5)
  have HB5 := Lib.hid (bl_trans HB4.out hb5)
  clear HD4 HM4 HN4 HB4 hb5
  go_wp2_with fail
  refine (w_shares _ _ _ (three_rows w5)).mono ?_
  rintro e w6 ⟨sb, sc, rfl, hs1, hs2, hb6⟩
  have hc6 := bl_trans (bl_alloc (bl_alloc (bl_alloc (bl_alloc (Below.refl w5.heap.size w5) _) _) _) _) hb6
  have HM6 := Lib.hid (HM5.out.bl hc6)
  have HN6 := Lib.hid (HN5.out.bl hc6)
  have HB6 := Lib.hid (bl_trans HB5.out hc6)
  clear HM5 HN5 HB5 hb6 hc6
  have k1 := keep_cell (keep_cell hs1 (.cells #[.int .i64 0, .int .i64 1, .int .i64 2, .int .i64 1, .int .i64 2, .int .i64 0, .int .i64 2, .int .i64 7, .int .i64 1, .int .i64 3] 42)) (.cells #[.int .i64 (-1), .string ⟨#[109, 49]⟩, .int .i64 0, .string ⟨#[109, 48]⟩, .int .i64 1, .string ⟨#[120]⟩, .int .i64 1, .string ⟨#[121]⟩, .int .i64 0, .string ⟨#[122]⟩] 66)
  have k2 := keep_cell (keep_cell hs2 (.cells #[.int .i64 0, .int .i64 1, .int .i64 2, .int .i64 1, .int .i64 2, .int .i64 0, .int .i64 2, .int .i64 7, .int .i64 1, .int .i64 3] 42)) (.cells #[.int .i64 (-1), .string ⟨#[109, 49]⟩, .int .i64 0, .string ⟨#[109, 48]⟩, .int .i64 1, .string ⟨#[120]⟩, .int .i64 1, .string ⟨#[121]⟩, .int .i64 0, .string ⟨#[122]⟩] 66)
  have HK := Lib.hid (And.intro k1 k2)
  clear k1 k2 hs1 hs2
  go_wp2_with fail
  have hwm := Blk.new w6 #[.int .i64 0, .int .i64 1, .int .i64 2, .int .i64 1, .int .i64 2, .int .i64 0, .int .i64 2, .int .i64 7, .int .i64 1, .int .i64 3] 42
  have hwn := Blk.new2 w6 (.cells #[.int .i64 0, .int .i64 1, .int .i64 2, .int .i64 1, .int .i64 2, .int .i64 0, .int .i64 2, .int .i64 7, .int .i64 1, .int .i64 3] 42) #[.int .i64 (-1), .string ⟨#[109, 49]⟩, .int .i64 0, .string ⟨#[109, 48]⟩, .int .i64 1, .string ⟨#[120]⟩, .int .i64 1, .string ⟨#[121]⟩, .int .i64 0, .string ⟨#[122]⟩] 66
  have hbb := bl_alloc (bl_alloc (Below.refl w6.heap.size w6) (.cells #[.int .i64 0, .int .i64 1, .int .i64 2, .int .i64 1, .int .i64 2, .int .i64 0, .int .i64 2, .int .i64 7, .int .i64 1, .int .i64 3] 42)) (.cells #[.int .i64 (-1), .string ⟨#[109, 49]⟩, .int .i64 0, .string ⟨#[109, 48]⟩, .int .i64 1, .string ⟨#[120]⟩, .int .i64 1, .string ⟨#[121]⟩, .int .i64 0, .string ⟨#[122]⟩] 66)
  have HE := Lib.hid (w_eqM _ _ mc 2 ((w6.alloc (.cells #[.int .i64 0, .int .i64 1, .int .i64 2, .int .i64 1, .int .i64 2, .int .i64 0, .int .i64 2, .int .i64 7, .int .i64 1, .int .i64 3] 42)).alloc (.cells #[.int .i64 (-1), .string ⟨#[109, 49]⟩, .int .i64 0, .string ⟨#[109, 48]⟩, .int .i64 1, .string ⟨#[120]⟩, .int .i64 1, .string ⟨#[121]⟩, .int .i64 0, .string ⟨#[122]⟩] 66)) (HM6.out.bl hbb) (rd_threeM (hwm.alloc _)))
  have HF := Lib.hid (fun n => w_eqT _ _ nc 5 (((w6.alloc (.cells #[.int .i64 0, .int .i64 1, .int .i64 2, .int .i64 1, .int .i64 2, .int .i64 0, .int .i64 2, .int .i64 7, .int .i64 1, .int .i64 3] 42)).alloc (.cells #[.int .i64 (-1), .string ⟨#[109, 49]⟩, .int .i64 0, .string ⟨#[109, 48]⟩, .int .i64 1, .string ⟨#[120]⟩, .int .i64 1, .string ⟨#[121]⟩, .int .i64 0, .string ⟨#[122]⟩] 66)).drewN n) (HN6.out.bl (bl_drewN hbb n)) ((rd_threeT hwn).drewN n))
  have HBB := Lib.hid (bl_trans HB6.out hbb)
  clear hwm hwn hbb
  have hql : ∀ w, (binOp .eql 40 (.agg #[.int .i64 2, .int .i64 3]) (.agg #[.int .i64 2, .int .i64 3])).run Tryd.prog w = .ok (.bool true) w := fun _ => by kernel_rfl
  have hg := guardFr
  have k1 := HK.out.1
  have k2 := HK.out.2
  refine HE.out.mono ?_
  rintro e w7 ⟨rfl, n7, rfl⟩
  go_wp2_with fail
  refine (HF.out n7).mono ?_
  rintro e w8 ⟨rfl, n8, rfl⟩
  go_wp2_with fail
  go_ret
  exact ⟨rfl, bl_drewN HBB.out _⟩
end Go.Proofs.YtahgffjkkdbjeaaDoor
