/- glotto.Tree's closure: a merge is noted. -/
import Derived.Test.YtahgffjkkdbjeaaDoorQH
import Derived.Test.YtahgffjkkdbjeaaDoorPW
import Derived.Test.YtahgffjkkdbjeaaDoorP8
import Derived.Test.YtahgffjkkdbjeaaDoorW6
namespace Go.Proofs.YtahgffjkkdbjeaaDoor
open Go.RowKit
/-- What each language's cluster is after k merges: a merge, or language a as -1-a. -/
def nowK (l : List Mg) : Nat → Nat → Int
  | 0 => fun a => -1 - (a : Int)
  | k + 1 => fun a => if a = (mA l k).toNat then (k : Int) else nowK l k a
/-- The two parts of each of the first k merges. -/
def belK (l : List Mg) : Nat → List Fr
  | 0 => []
  | k + 1 => belK l k ++ [(nowK l k (mA l k).toNat, nowK l k (mB l k).toNat)]
theorem belK_len (l : List Mg) : ∀ k, (belK l k).length = k
  | 0 => rfl
  | k + 1 => by rw [belK]; simp [belK_len l k]
theorem cell_of_blockEq2 {W W' : World} {B : Nat} (h : W'.heap[B]? = W.heap[B]?) (o : Nat) : W'.cell? ⟨B, o, none⟩ = W.cell? ⟨B, o, none⟩ := by
  simp only [World.cell?]
  rw [h]
theorem far_cell {W w7 : World} {ob : Obj} {r : Option Nat} (h : (W.alloc ob).grownBy w7 r) {b i : Nat} {v : Value} (hv : W.cell? ⟨b, i, none⟩ = some v) (hne : r ≠ some b) : w7.cell? ⟨b, i, none⟩ = some v := by
  have hlt : b < W.heap.size := World.block_lt_of_cell? W _ hv
  have e : w7.heap[b]? = W.heap[b]? := (h.block b (by simp; omega) (fun e => hne e.symm)).trans (Below.heap_alloc W ob b hlt)
  exact (cell_of_blockEq2 e i).trans hv
theorem far_free {W w7 : World} {ob : Obj} {r : Option Nat} (h : (W.alloc ob).grownBy w7 r) {b i : Nat} (hlt : b < W.heap.size) (hf : W.frozen? ⟨b, i, none⟩ = false) (hne : r ≠ some b) : w7.frozen? ⟨b, i, none⟩ = false := by
  have e : w7.heap[b]? = W.heap[b]? := (h.block b (by simp; omega) (fun e => hne e.symm)).trans (Below.heap_alloc W ob b hlt)
  exact (World.frozen?_of_block e).trans hf
theorem keep_cell {W : World} {b i : Nat} {v : Value} (h : W.cell? ⟨b, i, none⟩ = some v) (o : Obj) : (W.alloc o).cell? ⟨b, i, none⟩ = some v :=
  (World.cell?_alloc_lt W o _ (World.block_lt_of_cell? W _ h)).trans h
theorem owns_other {w : World} {base e k : Nat} {v : Value} {n : Nat} {cs : List Value} (h : w.ownsRow base e k v n cs) (b o : Nat) (u : Value) (hne : v.ownBlock ≠ some b) : (w.setCell ⟨b, o, none⟩ u).ownsRow base e k v n cs := by
  refine ⟨h.1, ?_⟩
  rcases h.2 with h2 | ⟨g, cap, cur, hv, hg, hh, r⟩
  · exact .inl h2
  · refine .inr ⟨g, cap, cur, hv, hg, (Below.heap_setCell w ⟨b, o, none⟩ u g (fun e => hne ?_)).trans hh, r⟩
    rw [hv]; simp [Value.ownBlock, e]
theorem owns_kind {w : World} {base e k : Nat} {v : Value} {n : Nat} {cs : List Value} (h : w.ownsRow base e k v n cs) {b : Nat} (hb : v.ownBlock = some b) : ∃ cur fr, w.heap[b]? = some (.cells cur e fr) := by
  rcases h.2 with ⟨hv, _⟩ | ⟨g, cap, cur, hv, hg, hh, r⟩
  · rw [hv] at hb; simp [Value.ownBlock] at hb
  · rw [hv] at hb
    have e : g = b := by simpa [Value.ownBlock] using hb
    subst e
    exact ⟨_, _, hh⟩
def nowC (f : Nat → Int) (i : Nat) : Value := .int .i64 (f i)
/-- The planter, what each cluster is, the merges: their blocks. -/
structure TrJ (w0 : World) (Bc PB Pb NB LB : Nat) (a : Option Addr) (N c : Nat) (na : Value) (l : List Mg) (k : Nat) (W : World) : Prop where
  pbox : Blk W Pb #[.pointer (some ⟨PB, 0, none⟩)] 115
  lbox : Blk W LB #[.slice a N c] 36
  now : ∃ t, Blk W NB (ofF 24 (nowC (nowK l k))) t ∧ t ≠ 42 ∧ t ≠ 100
  row : ∃ vb, Blk W PB #[na, vb, .slice none 0 0] 118 ∧ W.ownsRow w0.heap.size 120 2 vb k (fl encFr (belK l k)) ∧ vb.ownBlock ≠ some Bc ∧ vb.ownBlock ≠ some PB ∧ vb.ownBlock ≠ some Pb ∧ vb.ownBlock ≠ some NB ∧ vb.ownBlock ≠ some LB
  rd : Rd w0 a (fl encMg l)
  bl : Below w0.heap.size w0 W
  ne : Bc ≠ PB ∧ Bc ≠ Pb ∧ Bc ≠ NB ∧ Bc ≠ LB ∧ PB ≠ Pb ∧ PB ≠ NB ∧ PB ≠ LB ∧ Pb ≠ NB ∧ Pb ≠ LB ∧ NB ≠ LB ∧ w0.heap.size ≤ PB ∧ w0.heap.size ≤ NB ∧ w0.heap.size ≤ Bc ∧ w0.heap.size ≤ Pb ∧ w0.heap.size ≤ LB
set_option maxRecDepth 100000 in
set_option maxHeartbeats 2000000 in
theorem tree1_any (w0 : World) (Bc PB Pb NB LB : Nat) (a : Option Addr) (n N c : Nat) (na : Value) (l : List Mg) (k : Nat) (W : World) (hl : l.length = N) (hk : k < N) (hn : n ≤ 24) (hN : N ≤ 23) (hok : StepOk n l k) (hBc : Bc < W.heap.size) (hJ : TrJ w0 Bc PB Pb NB LB a N c na l k W) :
    Calls Tryd.prog 68 #[.pointer (some ⟨Bc, 0, none⟩), .int .i64 k, .pointer (some ⟨Pb, 0, none⟩), .pointer (some ⟨NB, 0, none⟩), .pointer (some ⟨LB, 0, none⟩)] W fun e W' => e = .returned (.tuple #[]) ∧ TrJ w0 Bc PB Pb NB LB a N c na l (k + 1) W' ∧ ∀ b cs t, t = 42 ∨ t = 100 → Blk W b cs t → Blk W' b cs t := by
  obtain ⟨pbox, lbox, ⟨tn, now, tn1, tn2⟩, ⟨vb, prow, own, o1, o2, o3, o4, o5⟩, rd, bl, ne⟩ := hJ
  obtain ⟨h1, h2, h3, _⟩ := hok
  obtain ⟨b, o, rfl, hbl, hcm⟩ := rdMg rd (by omega)
  obtain ⟨g0, g1, _, _, _⟩ := hcm k (by omega)
  replace g0 := (bl.cell (p := ⟨b, o + k * 5, none⟩) hbl).trans g0
  replace g1 := (bl.cell (p := ⟨b, o + k * 5 + 1, none⟩) hbl).trans g1
  obtain ⟨A, hA⟩ : ∃ A : Nat, mA l k = A := ⟨(mA l k).toNat, by omega⟩
  obtain ⟨B, hB⟩ : ∃ B : Nat, mB l k = B := ⟨(mB l k).toNat, by omega⟩
  rw [hA] at g0 h1 h2
  rw [hB] at g1 h2 h3
  have e1 : W.cell? ⟨NB, A, none⟩ = some (.int .i64 (nowK l k A)) := now.getF A (by omega)
  have e2 : W.cell? ⟨NB, B, none⟩ = some (.int .i64 (nowK l k B)) := now.getF B (by omega)
  have p0 : W.cell? ⟨Pb, 0, none⟩ = some (.pointer (some ⟨PB, 0, none⟩)) := pbox.cell 0
  have p1 : W.cell? ⟨PB, 1, none⟩ = some vb := prow.cell 1
  have l0 : W.cell? ⟨LB, 0, none⟩ = some (.slice (some ⟨b, o, none⟩) N c) := lbox.cell 0
  have i1 : (0 : Int) ≤ A := by omega
  have i2 : (A : Int) < 24 := by omega
  have i3 : (0 : Int) ≤ B := by omega
  have i4 : (B : Int) < 24 := by omega
  have i5 : (0 : Int) ≤ k := by omega
  have i6 : (k : Int) < N := by omega
  obtain ⟨X, hX⟩ : ∃ X, X = nowK l k A := ⟨_, rfl⟩
  obtain ⟨Y, hY⟩ : ∃ Y, Y = nowK l k B := ⟨_, rfl⟩
  rw [← hX] at e1
  rw [← hY] at e2
  have HK : Hid (mA l k = A ∧ mB l k = B ∧ X = nowK l k A ∧ Y = nowK l k B ∧ l.length = N) := ⟨hA, hB, hX, hY, hl⟩
  clear hA hB hX hY hl hcm
  obtain ⟨va, vcap, rfl, hva⟩ := owns_slice own
  have hrow : (Value.slice va k vcap).ownBlock ≠ some b := fun e => by
    have := (own.lt b e).1
    omega
  have pf1 := prow.free 1
  go_enter Tryd.func68, Tryd.ntmps68
  go_wp2_with fail
  refine wp_region_order (S := fun w' => w'.cell? ⟨Pb, 0, none⟩ = some (.pointer (some ⟨PB, 0, none⟩)) ∧ w'.cell? ⟨PB, 1, none⟩ = some (.slice va k vcap) ∧ w'.cell? ⟨LB, 0, none⟩ = some (.slice (some ⟨b, o, none⟩) N c) ∧ w'.cell? ⟨b, o + k * 5, none⟩ = some (.int .i64 A) ∧ w'.cell? ⟨b, o + k * 5 + 1, none⟩ = some (.int .i64 B) ∧ w'.cell? ⟨NB, A, none⟩ = some (.int .i64 X) ∧ w'.cell? ⟨NB, B, none⟩ = some (.int .i64 Y)) 22 [0,1,2,3,4,5,6,7,8,9,10,11,12,13,14,15,16,17,18,19] [20,21] (by kernel_rfl) (by kernel_rfl) ⟨p0, p1, l0, g0, g1, e1, e2⟩ ?_
  iterate 20 (refine headT_cons (by rfl) (by rfl) (by intro w hSw; obtain ⟨s0, s1, s2, s3, s4, s5, s6⟩ := hSw; go_simp; try rfl) ?_; simp only [Act.put, List.setIfInBounds_toArray, List.set_cons_zero, List.set_cons_succ])
  refine headT_nil ?_
  have QQ := Lib.hid (And.intro (keep_cell p0 (.cells #[.int .i64 X, .int .i64 Y] 120)) (And.intro (keep_cell p1 (.cells #[.int .i64 X, .int .i64 Y] 120)) (And.intro (keep_cell l0 (.cells #[.int .i64 X, .int .i64 Y] 120)) (And.intro (keep_cell g0 (.cells #[.int .i64 X, .int .i64 Y] 120)) (And.intro (keep_cell g1 (.cells #[.int .i64 X, .int .i64 Y] 120)) (And.intro (keep_cell e1 (.cells #[.int .i64 X, .int .i64 Y] 120)) (keep_cell e2 (.cells #[.int .i64 X, .int .i64 Y] 120))))))))
  refine midT_cons (by rfl) (fun K hK => ?_)
  rw [if_pos (by rfl)]
  go_simp
  refine hK.out _ _ QQ.out (fun _ => ?_)
  clear hK K
  try simp only [Act.put, List.setIfInBounds_toArray, List.set_cons_zero, List.set_cons_succ]
  refine midT_cons (by rfl) (fun K hK => ?_)
  refine spush_Pr (by rfl) (.tmp 11) (.tmp 27) (by rfl) w0.heap.size (.slice va k vcap) (belK l k) k (by rw [belK_len]) (by rfl) (by exact own.alloc _) W.heap.size 1 (X, Y) (by rfl) (by exact Blk.new W _ _) (by omega) (by have := bl.size; simp; omega) ?_
  intro g8 cap8 w8 h8 hg8 h8c h8d
  have hg9 : (W.alloc (.cells #[.int .i64 X, .int .i64 Y] 120)).grownBy w8 (Value.slice va k vcap).ownBlock := ⟨hg8.os, hg8.tape, hg8.output, hg8.size, hg8.block⟩
  have k0 := far_cell hg9 p0 o3
  have k1 := far_cell hg9 p1 o2
  have k2 := far_cell hg9 l0 o5
  have k3 := far_cell hg9 g0 hrow
  have k4 := far_cell hg9 g1 hrow
  have k5 := far_cell hg9 e1 o4
  have k6 := far_cell hg9 e2 o4
  have kf := far_free hg9 prow.lt pf1 o2
  have kn := far_free hg9 now.lt (now.free A) o4
  have hgb : ∀ i, (Value.slice va k vcap).ownBlock ≠ some i → i < W.heap.size → some i ≠ some g8 := fun i hi hlt e => by
    rcases h8c with h | h
    · exact hi (h.trans e.symm)
    · have := Option.some.inj e
      simp at h
      omega
  have hnew := Lib.hid hgb
  have hw0 := bl.size
  have HG := Lib.hid (And.intro hg9 (And.intro h8 (And.intro h8c h8d)))
  clear hgb hg9 hg8 h8 h8c h8d
  refine hK.out _ _ ⟨k0, k1, k2, k3, k4, k5, k6⟩ (fun _ => ?_)
  clear hK K
  try simp only [Act.put, List.setIfInBounds_toArray, List.set_cons_zero, List.set_cons_succ]
  refine midT_nil ?_
  simp only [List.drop_succ_cons, List.drop_zero]
  clear p0 p1 l0 g0 g1 e1 e2 QQ pf1
  have HB := Lib.hid bl
  clear bl
  go_wp2_with fail
  refine NoPanic.normal ?_
  go_wp2_with fail
  go_end0
  obtain ⟨hg9, h8, h8c, h8d⟩ := HG.out
  obtain ⟨n1, n2, n3, n4, n5, n6, n7, n8, n9, n10, n11, n12, n13, n14, n15⟩ := ne
  obtain ⟨hA, hB, hX, hY, _⟩ := HK.out
  have B8 : ∀ b cs t, some b ≠ (Value.slice va k vcap).ownBlock → Blk W b cs t → Blk w8 b cs t := fun b cs t hne h => (h.alloc _).grown hg9 hne
  have hng : ∀ i, (Value.slice va k vcap).ownBlock ≠ some i → i < W.heap.size → (Value.slice (some ⟨g8, 0, none⟩) (k + 1) cap8).ownBlock ≠ some i := fun i hi hlt e => hnew.out i hi hlt (by simpa [Value.ownBlock] using e.symm)
  have hPB := hng PB o2 prow.lt
  have hNB := hng NB o4 now.lt
  have hb8 : Below w0.heap.size w0 w8 := ⟨hg9.os.trans HB.out.os, hg9.tape.trans HB.out.tape, hg9.output.trans HB.out.output, Nat.le_trans HB.out.size (by have := hg9.size; simp at this; omega), fun i hi => (hg9.block i (by simp; omega) (fun e => by have := (own.lt i e.symm).1; omega)).trans ((Below.heap_alloc W _ i (by omega)).trans (HB.out.block i hi))⟩
  refine ⟨rfl, ⟨((B8 _ _ _ (Ne.symm o3) pbox).other n5.symm _ _).other n8 _ _, ((B8 _ _ _ (Ne.symm o5) lbox).other n7.symm _ _).other n10.symm _ _, ⟨tn, ?_, tn1, tn2⟩, ⟨.slice (some ⟨g8, 0, none⟩) (k + 1) cap8, ?_, ?_, hng Bc o1 hBc, hPB, hng Pb o3 pbox.lt, hNB, hng LB o5 lbox.lt⟩, rd, ?_, ⟨n1, n2, n3, n4, n5, n6, n7, n8, n9, n10, n11, n12, n13, n14, n15⟩⟩, ?_⟩
  · have := ((B8 _ _ _ (Ne.symm o4) now).other n6.symm 1 (.slice (some ⟨g8, 0, none⟩) (k + 1) cap8)).setF A (.int .i64 k)
    have e : ofF 24 (nowC (nowK l (k + 1))) = ofF 24 fun j => if j = A then .int .i64 k else nowC (nowK l k) j := ofF_congr fun i _ => by
      simp only [nowC, nowK]
      rw [hA]
      by_cases e : i = A
      · rw [if_pos (by omega), if_pos e]
      · rw [if_neg (by omega), if_neg e]
    rw [e]
    exact this
  · have := ((B8 _ _ _ (Ne.symm o2) prow).set 1 (.slice (some ⟨g8, 0, none⟩) (k + 1) cap8)).other n6 A (.int .i64 k)
    simpa using this
  · have e : belK l (k + 1) = belK l k ++ [(X, Y)] := by
      rw [belK, hX, hY, hA, hB]; simp
    rw [e]
    exact owns_other (owns_other h8 _ _ _ hPB) _ _ _ hNB
  · exact (hb8.setCell (p := ⟨PB, 1, none⟩) n11 _).setCell (p := ⟨NB, A, none⟩) n12 _
  · intro b' cs t ht h
    have hb1 : b' ≠ NB := fun e => by
      subst e
      have := h.symm.trans now
      simp only [Option.some.injEq, Obj.cells.injEq] at this
      rcases ht with ht | ht
      · exact tn1 (this.2.1.symm.trans ht)
      · exact tn2 (this.2.1.symm.trans ht)
    have hb2 : b' ≠ PB := fun e => by
      subst e
      have := h.symm.trans prow
      simp only [Option.some.injEq, Obj.cells.injEq] at this
      rcases ht with ht | ht
      · exact absurd (this.2.1.symm.trans ht) (by decide)
      · exact absurd (this.2.1.symm.trans ht) (by decide)
    refine ((B8 _ _ _ ?_ h).other hb2 _ _).other hb1 _ _
    intro e
    obtain ⟨cur, fr, hc⟩ := owns_kind own e.symm
    have := h.symm.trans hc
    simp only [Option.some.injEq, Obj.cells.injEq] at this
    rcases ht with ht | ht
    · exact absurd (this.2.1.symm.trans ht) (by decide)
    · exact absurd (this.2.1.symm.trans ht) (by decide)
end Go.Proofs.YtahgffjkkdbjeaaDoor
