/- The tree of a table: plain; the closure that adds a node. phylo.Build at every table. slices.IndexFunc and ContainsFunc of ints; phylo.Largest's test and its recursive closure. An append onto a row that its owner still reads: the row stays. -/
import Derived.Test.YtnabbmdhhddfbaaDoorU2
namespace Go.Proofs.YtnabbmdhhddfbaaDoor
open Go.RowKit Go.Shelf
/-- The last of the first k sets that has all of s, or -1. -/
def parZ (S : List Nat) (s : Nat) : Nat → Int
  | 0 => -1
  | k + 1 => if vA S k &&& s = s then (k : Int) else parZ S s k
theorem parZ_le (S : List Nat) (s : Nat) : ∀ k, parZ S s k < k ∧ -1 ≤ parZ S s k := by
  intro k
  induction k with
  | zero => simp [parZ]
  | succ k ih => unfold parZ; split <;> omega
/-- The sets and the nodes while the tree is built, each behind a pointer. -/
structure BldW (w : World) (base X2 X3 : Nat) (S : List Nat) (T : List Nd) (g2 c2 g3 c3 : Nat) : Prop where
  b2 : Blk w X2 #[.slice (some ⟨g2, 0, none⟩) S.length c2] 62
  b3 : Blk w X3 #[.slice (some ⟨g3, 0, none⟩) T.length c3] 27
  r2 : w.ownsRow base 61 1 (.slice (some ⟨g2, 0, none⟩) S.length c2) S.length (fl encV S)
  r3 : w.ownsRow base 60 2 (.slice (some ⟨g3, 0, none⟩) T.length c3) T.length (fl encNd T)
  d1 : g2 ≠ X2
  d2 : g2 ≠ X3
  d3 : g3 ≠ X2
  d4 : g3 ≠ X3
  d5 : g2 ≠ g3
  d6 : X2 ≠ X3
  h2 : base ≤ X2
  h3 : base ≤ X3
theorem gr_blk {w w' : World} {g : Nat} (h : w.grownBy w' (some g)) {B : Nat} {cs : Array Value} {t : TypeId} (hb : Blk w B cs t) (hne : B ≠ g) : Blk w' B cs t := hb.grown h (fun e => hne (Option.some.inj e))
theorem bld_end {w : World} {base X2 X3 : Nat} {S : List Nat} {T : List Nd} {n2 n3 g2 c2 g3 c3 : Nat} {u2 u3 : Value} (e2 : n2 = S.length) (e3 : n3 = T.length)
    (b2 : Blk w X2 #[u2] 62) (b3 : Blk w X3 #[u3] 27)
    (r2 : w.ownsRow base 61 1 (.slice (some ⟨g2, 0, none⟩) n2 c2) n2 (fl encV S)) (r3 : w.ownsRow base 60 2 (.slice (some ⟨g3, 0, none⟩) n3 c3) n3 (fl encNd T))
    (d1 : g2 ≠ X2) (d2 : g2 ≠ X3) (d3 : g3 ≠ X2) (d4 : g3 ≠ X3) (d5 : g2 ≠ g3) (d6 : X2 ≠ X3) (h2 : base ≤ X2) (h3 : base ≤ X3) :
    BldW ((w.setCell ⟨X2, 0, none⟩ (.slice (some ⟨g2, 0, none⟩) n2 c2)).setCell ⟨X3, 0, none⟩ (.slice (some ⟨g3, 0, none⟩) n3 c3)) base X2 X3 S T g2 c2 g3 c3 := by
  subst e2 e3
  have q2 := (b2.set 0 (.slice (some ⟨g2, 0, none⟩) S.length c2)).other d6 0 (.slice (some ⟨g3, 0, none⟩) T.length c3)
  have q3 := (b3.other (Ne.symm d6) 0 (.slice (some ⟨g2, 0, none⟩) S.length c2)).set 0 (.slice (some ⟨g3, 0, none⟩) T.length c3)
  refine ⟨q2, q3, ?_, ?_, d1, d2, d3, d4, d5, d6, h2, h3⟩
  · exact ownsRow_setCell_other (ownsRow_setCell_other r2 (own_ne d1) _) (own_ne d2) _
  · exact ownsRow_setCell_other (ownsRow_setCell_other r3 (own_ne d3) _) (own_ne d4) _
set_option maxRecDepth 100000 in
set_option maxHeartbeats 2000000 in
theorem bld1_any (X2 X3 base : Nat) (S : List Nat) (T : List Nd) (g2 c2 g3 c3 s : Nat) (nm : ByteArray) (w : World) (h : BldW w base X2 X3 S T g2 c2 g3 c3) (hs : s < 18446744073709551616) (hF : FitV S) (h0 : vA S 0 &&& s = s) (hl : 0 < S.length) (hS : S.length ≤ 1000) (hT : T.length ≤ 1000) :
    Calls Tryd.prog 35 #[.int .u64 s, .string nm, .pointer (some ⟨X2, 0, none⟩), .pointer (some ⟨X3, 0, none⟩)] w fun e w' => e = .returned (.tuple #[]) ∧
      (∃ g2' c2' g3' c3', BldW w' base X2 X3 (S ++ [s]) (T ++ [(parZ S s S.length, nm)]) g2' c2' g3' c3' ∧ (g2' = g2 ∨ w.heap.size ≤ g2') ∧ (g3' = g3 ∨ w.heap.size ≤ g3')) ∧ (∀ B, B < w.heap.size → B ≠ g2 → B ≠ g3 → B ≠ X2 → B ≠ X3 → w'.heap[B]? = w.heap[B]?) ∧ w.heap.size ≤ w'.heap.size ∧ (∀ a : World, Below a.heap.size a w → a.heap.size ≤ base → Below a.heap.size a w') := by
  obtain ⟨B2, B3, r2, r3, d1, d2, d3, d4, d5, d6, h2, h3⟩ := h
  have l2 := B2.lt
  have l3 := B3.lt
  have lg2 := (r2.lt g2 rfl)
  have lg3 := (r3.lt g3 rfl)
  have e2 : w.cell? ⟨X2, 0, none⟩ = some (.slice (some ⟨g2, 0, none⟩) S.length c2) := B2.cell 0
  have e3 : w.cell? ⟨X3, 0, none⟩ = some (.slice (some ⟨g3, 0, none⟩) T.length c3) := B3.cell 0
  have HR := Lib.hid (rd_of_owns r2)
  have HR2 := Lib.hid r2
  have HR3 := Lib.hid r3
  have HB2 := Lib.hid B2
  have HB3 := Lib.hid B3
  have HF := Lib.hid hF
  have H0 := Lib.hid h0
  clear r2 r3 B2 B3 hF h0
  obtain ⟨n2, hn2⟩ : ∃ n, n = S.length := ⟨_, rfl⟩
  obtain ⟨n3, hn3⟩ : ∃ n, n = T.length := ⟨_, rfl⟩
  rw [← hn2] at e2 hl hS HR2 HB2 ⊢
  rw [← hn3] at e3 hT HR3 HB3
  have HN2 := Lib.hid hn2
  have HN3 := Lib.hid hn3
  clear hn2 hn3
  go_enter Tryd.func35, Tryd.ntmps35
  go_upto_region 1 with fail
  go_loopw [6] (fun x wr => ∃ k : Nat, k < n2 ∧ x = .int .i64 k ∧ Hid (parZ S s n2 = parZ S s (k + 1)) ∧ wr = w) (fun x _ => (intOf x).toNat)
  case atStart => exact ⟨n2 - 1, by omega, by go_num, by show _ = _; rw [Nat.sub_add_cancel hl], rfl⟩
  case round =>
    obtain ⟨k, hk, rfl, hp, rfl⟩ := hrel
    obtain ⟨b, o, hbo, hb, hc⟩ := rdV HR.out (by rw [← HN2.out]; omega)
    simp only [Option.some.injEq, Addr.mk.injEq, and_true] at hbo
    obtain ⟨rfl, rfl⟩ := hbo
    have G := hc k (by rw [← HN2.out]; exact hk)
    have hx := HF.out k (by rw [← HN2.out]; exact hk)
    have hba := bits_and hx hs
    have HST : Hid (parZ S s (k + 1) = if vA S k &&& s = s then (k : Int) else parZ S s k) := rfl
    have HZ : Hid (k = 0 → vA S k &&& s = s) := fun e => by rw [e]; exact H0.out
    clear hc
    rw [Nat.zero_add] at G
    generalize vA S k = z at *
    obtain ⟨y, hy⟩ : ∃ y, z &&& s = y := ⟨_, rfl⟩
    rw [hy] at hba HST HZ
    clear hy
    by_cases q : y = s
    · have HP : Hid (parZ S s n2 = (k : Int)) := by show _ = _; rw [hp.out, HST.out, if_pos q]
      have t1 : ((y : Int) != (s : Int)) = false := by simp [q]
      have t2 : ((y : Int) == (s : Int)) = true := by simp [q]
      have t3 : decide ((y : Int) = (s : Int)) = true := by simp [q]
      clear HST HZ hp q
      go_upto_region 3 with fail
      refine wp_region_tree (S := fun w' => w'.cell? ⟨X2, 0, none⟩ = some (.slice (some ⟨g2, 0, none⟩) n2 c2) ∧ w'.cell? ⟨X3, 0, none⟩ = some (.slice (some ⟨g3, 0, none⟩) n3 c3)) 10 [0,4,1,5,6,7] (.two 2 (.two 3 (.one 8 (.one 9 .leaf)) 8 (.one 3 (.one 9 .leaf))) 8 (.one 2 (.one 3 (.one 9 .leaf)))) (by kernel_rfl) (by kernel_rfl) ⟨e2, e3⟩ ?_
      iterate 6 (refine headT_cons (by rfl) (by rfl) (by intro w hSw; obtain ⟨s0, s1⟩ := hSw; go_simp; try rfl) ?_; simp only [Act.put, List.setIfInBounds_toArray, List.set_cons_zero, List.set_cons_succ])
      refine headT_nil ?_
      obtain ⟨W0, hW0⟩ : ∃ x, x = wr.drew := ⟨_, rfl⟩
      rw [← hW0]
      have HB2_0 : Hid (Blk W0 X2 #[.slice (some ⟨g2, 0, none⟩) n2 c2] 62) := by show Blk W0 _ _ _; rw [hW0]; exact HB2.out
      have HB3_0 : Hid (Blk W0 X3 #[.slice (some ⟨g3, 0, none⟩) n3 c3] 27) := by show Blk W0 _ _ _; rw [hW0]; exact HB3.out
      have R2_0 : Hid (W0.ownsRow base 61 1 (.slice (some ⟨g2, 0, none⟩) n2 c2) n2 (fl encV S)) := by show World.ownsRow W0 _ _ _ _ _ _; rw [hW0]; exact HR2.out
      have R3_0 : Hid (W0.ownsRow base 60 2 (.slice (some ⟨g3, 0, none⟩) n3 c3) n3 (fl encNd T)) := by show World.ownsRow W0 _ _ _ _ _ _; rw [hW0]; exact HR3.out
      have HA_0 : Hid (∀ a : World, Below a.heap.size a wr → a.heap.size ≤ base → Below a.heap.size a W0) := fun a h1 _ => by rw [hW0]; exact bl_drewN h1 1
      have HO_0 : Hid (∀ B, B < wr.heap.size → B ≠ g2 → B ≠ g3 → W0.heap[B]? = wr.heap[B]?) := fun B _ _ _ => by rw [hW0]; rfl
      have s0 : wr.heap.size ≤ W0.heap.size := by rw [hW0]; exact Nat.le_refl _
      have FIN : Hid (∀ (W4 : World) (g2n c2n g3n c3n : Nat), Blk W4 X2 #[.slice (some ⟨g2, 0, none⟩) n2 c2] 62 → Blk W4 X3 #[.slice (some ⟨g3, 0, none⟩) n3 c3] 27 →
          W4.ownsRow base 61 1 (.slice (some ⟨g2n, 0, none⟩) (n2 + 1) c2n) (n2 + 1) (fl encV (S ++ [s])) → W4.ownsRow base 60 2 (.slice (some ⟨g3n, 0, none⟩) (n3 + 1) c3n) (n3 + 1) (fl encNd (T ++ [((k : Int), nm)])) →
          g2n ≠ X2 → g2n ≠ X3 → g3n ≠ X2 → g3n ≠ X3 → g2n ≠ g3n → (g2n = g2 ∨ wr.heap.size ≤ g2n) → (g3n = g3 ∨ wr.heap.size ≤ g3n) → wr.heap.size ≤ W4.heap.size → (∀ a : World, Below a.heap.size a wr → a.heap.size ≤ base → Below a.heap.size a W4) → (∀ B, B < wr.heap.size → B ≠ g2 → B ≠ g3 → W4.heap[B]? = wr.heap[B]?) →
          (∃ g2' c2' g3' c3', BldW ((W4.setCell ⟨X2, 0, none⟩ (.slice (some ⟨g2n, 0, none⟩) (n2 + 1) c2n)).setCell ⟨X3, 0, none⟩ (.slice (some ⟨g3n, 0, none⟩) (n3 + 1) c3n)) base X2 X3 (S ++ [s]) (T ++ [(parZ S s n2, nm)]) g2' c2' g3' c3' ∧ (g2' = g2 ∨ wr.heap.size ≤ g2') ∧ (g3' = g3 ∨ wr.heap.size ≤ g3')) ∧
            (∀ B, B < wr.heap.size → B ≠ g2 → B ≠ g3 → B ≠ X2 → B ≠ X3 → ((W4.setCell ⟨X2, 0, none⟩ (.slice (some ⟨g2n, 0, none⟩) (n2 + 1) c2n)).setCell ⟨X3, 0, none⟩ (.slice (some ⟨g3n, 0, none⟩) (n3 + 1) c3n)).heap[B]? = wr.heap[B]?) ∧ wr.heap.size ≤ ((W4.setCell ⟨X2, 0, none⟩ (.slice (some ⟨g2n, 0, none⟩) (n2 + 1) c2n)).setCell ⟨X3, 0, none⟩ (.slice (some ⟨g3n, 0, none⟩) (n3 + 1) c3n)).heap.size ∧
            (∀ a : World, Below a.heap.size a wr → a.heap.size ≤ base → Below a.heap.size a ((W4.setCell ⟨X2, 0, none⟩ (.slice (some ⟨g2n, 0, none⟩) (n2 + 1) c2n)).setCell ⟨X3, 0, none⟩ (.slice (some ⟨g3n, 0, none⟩) (n3 + 1) c3n)))) := by
        intro W4 g2n c2n g3n c3n b1 b2 o1 o2 x1 x2 x3 x4 x5 y2 y3 zs ha ho
        refine ⟨⟨g2n, c2n, g3n, c3n, ?_, y2, y3⟩, fun B q1 q2 q3 q4 q5 => ((Below.heap_setCell _ _ _ B q5).trans (Below.heap_setCell _ _ _ B q4)).trans (ho B q1 q2 q3), by simp [World.setCell]; exact zs, fun a q1 q2 => bl_set (bl_set (ha a q1 q2) _ _ _ _ (by omega)) _ _ _ _ (by omega)⟩
        rw [HP.out]
        exact bld_end (by rw [HN2.out]; simp) (by rw [HN3.out]; simp) b1 b2 o1 o2 x1 x2 x3 x4 x5 d6 h2 h3
      clear hW0 HB2 HB3 HR2 HR3
      refine midG_two ?_ ?_
      · refine midG_one (by rfl) (fun K hK => ?_)
        rw [if_pos (by rfl)]
        go_simp
        have s1 : W0.heap.size + 1 = (W0.alloc (.cells #[.int .u64 s] 61)).heap.size := by simp
        have HB2_1 := Lib.hid (HB2_0.out.alloc (.cells #[.int .u64 s] 61))
        have HB3_1 := Lib.hid (HB3_0.out.alloc (.cells #[.int .u64 s] 61))
        have R2_1 := Lib.hid (R2_0.out.alloc (.cells #[.int .u64 s] 61))
        have R3_1 := Lib.hid (R3_0.out.alloc (.cells #[.int .u64 s] 61))
        have N2_1 := Lib.hid (Blk.new W0 #[.int .u64 s] 61)
        have HA_1 : Hid (∀ a : World, Below a.heap.size a wr → a.heap.size ≤ base → Below a.heap.size a (W0.alloc (.cells #[.int .u64 s] 61))) := fun a h1 h2 => bl_alloc (HA_0.out a h1 h2) _
        have HO_1 : Hid (∀ B, B < wr.heap.size → B ≠ g2 → B ≠ g3 → (W0.alloc (.cells #[.int .u64 s] 61)).heap[B]? = wr.heap[B]?) := fun B q1 q2 q3 => (Below.heap_alloc W0 _ B (by omega)).trans (HO_0.out B q1 q2 q3)
        obtain ⟨W1, hW1⟩ : ∃ x, x = W0.alloc (.cells #[.int .u64 s] 61) := ⟨_, rfl⟩
        obtain ⟨M2, hM2⟩ : ∃ x, x = W0.heap.size := ⟨_, rfl⟩
        rw [← hW1] at s1 HB2_1 HB3_1 R2_1 R3_1 N2_1 HA_1 HO_1 ⊢
        rw [← hM2] at N2_1 ⊢
        have HM2 := Lib.hid hM2
        clear hW1 hM2
        refine hK.out _ _ ⟨HB2_1.out.cell 0, HB3_1.out.cell 0⟩ (fun _ => ?_)
        clear hK K
        try simp only [Act.put, List.setIfInBounds_toArray, List.set_cons_zero, List.set_cons_succ]
        refine midG_two ?_ ?_
        · refine midG_one (by rfl) (fun K hK => ?_)
          refine spush_G rfl (.tmp 20) (.tmp 22) rfl base (.slice (some ⟨g2, 0, none⟩) n2 c2) S n2 HN2.out rfl R2_1.out _ _ s rfl N2_1.out (by omega) (by omega) ?_
          intro g2n c2n W2 h1 h2 h3 h4
          have s2 := h2.size
          have HB2_2 := Lib.hid (gr_blk h2 HB2_1.out (Ne.symm d1))
          have HB3_2 := Lib.hid (gr_blk h2 HB3_1.out (Ne.symm d2))
          have R3_2 := Lib.hid (R3_1.out.kept h2 (.inr (own_ne (Ne.symm d5))))
          have R2_2 := Lib.hid h1
          have HA_2 : Hid (∀ a : World, Below a.heap.size a wr → a.heap.size ≤ base → Below a.heap.size a W2) := fun a q1 q2 => bl_grown (HA_1.out a q1 q2) h2 (fun r hr => by have := Option.some.inj (show some g2 = some r from hr); omega)
          have HO_2 : Hid (∀ B, B < wr.heap.size → B ≠ g2 → B ≠ g3 → W2.heap[B]? = wr.heap[B]?) := fun B q1 q2 q3 => (h2.block B (by omega) (fun e => q2 (Option.some.inj (show some B = some g2 from e)))).trans (HO_1.out B q1 q2 q3)
          have D2 : (g2n = g2 ∨ g2n = W1.heap.size) ∧ g2n < W2.heap.size := ⟨h3.imp (fun e => (Option.some.inj (show some g2 = some g2n from e)).symm) id, h4⟩
          clear h1 h2 h3 h4
          refine hK.out _ _ ⟨HB2_2.out.cell 0, HB3_2.out.cell 0⟩ (fun _ => ?_)
          clear hK K
          try simp only [Act.put, List.setIfInBounds_toArray, List.set_cons_zero, List.set_cons_succ]
          refine midG_one (by rfl) (fun K hK => ?_)
          rw [if_pos (by rfl)]
          go_simp
          have s3 : W2.heap.size + 1 = (W2.alloc (.cells #[.int .i64 k, .string nm] 60)).heap.size := by simp
          have HB2_3 := Lib.hid (HB2_2.out.alloc (.cells #[.int .i64 k, .string nm] 60))
          have HB3_3 := Lib.hid (HB3_2.out.alloc (.cells #[.int .i64 k, .string nm] 60))
          have R2_3 := Lib.hid (R2_2.out.alloc (.cells #[.int .i64 k, .string nm] 60))
          have R3_3 := Lib.hid (R3_2.out.alloc (.cells #[.int .i64 k, .string nm] 60))
          have N3_3 := Lib.hid (Blk.new W2 #[.int .i64 k, .string nm] 60)
          have HA_3 : Hid (∀ a : World, Below a.heap.size a wr → a.heap.size ≤ base → Below a.heap.size a (W2.alloc (.cells #[.int .i64 k, .string nm] 60))) := fun a h1 h2 => bl_alloc (HA_2.out a h1 h2) _
          have HO_3 : Hid (∀ B, B < wr.heap.size → B ≠ g2 → B ≠ g3 → (W2.alloc (.cells #[.int .i64 k, .string nm] 60)).heap[B]? = wr.heap[B]?) := fun B q1 q2 q3 => (Below.heap_alloc W2 _ B (by omega)).trans (HO_2.out B q1 q2 q3)
          obtain ⟨W3, hW3⟩ : ∃ x, x = W2.alloc (.cells #[.int .i64 k, .string nm] 60) := ⟨_, rfl⟩
          obtain ⟨M3, hM3⟩ : ∃ x, x = W2.heap.size := ⟨_, rfl⟩
          rw [← hW3] at s3 HB2_3 HB3_3 R2_3 R3_3 N3_3 HA_3 HO_3 ⊢
          rw [← hM3] at N3_3 ⊢
          have HM3 := Lib.hid hM3
          clear hW3 hM3
          refine hK.out _ _ ⟨HB2_3.out.cell 0, HB3_3.out.cell 0⟩ (fun _ => ?_)
          clear hK K
          try simp only [Act.put, List.setIfInBounds_toArray, List.set_cons_zero, List.set_cons_succ]
          refine midG_one (by rfl) (fun K hK => ?_)
          refine spush_Nd rfl (.tmp 24) (.tmp 28) rfl base (.slice (some ⟨g3, 0, none⟩) n3 c3) T n3 HN3.out rfl R3_3.out _ _ ((k : Int), nm) rfl N3_3.out (by omega) (by omega) ?_
          intro g3n c3n W4 h1 h2 h3 h4
          have HB2_4 := Lib.hid (gr_blk h2 HB2_3.out (Ne.symm d3))
          have HB3_4 := Lib.hid (gr_blk h2 HB3_3.out (Ne.symm d4))
          have E2n : g2n ≠ g3 := by omega
          have R2_4 := Lib.hid (R2_3.out.kept h2 (.inr (own_ne E2n)))
          have R3_4 := Lib.hid h1
          have HA_4 : Hid (∀ a : World, Below a.heap.size a wr → a.heap.size ≤ base → Below a.heap.size a W4) := fun a q1 q2 => bl_grown (HA_3.out a q1 q2) h2 (fun r hr => by have := Option.some.inj (show some g3 = some r from hr); omega)
          have HO_4 : Hid (∀ B, B < wr.heap.size → B ≠ g2 → B ≠ g3 → W4.heap[B]? = wr.heap[B]?) := fun B q1 q2 q3 => (h2.block B (by omega) (fun e => q3 (Option.some.inj (show some B = some g3 from e)))).trans (HO_3.out B q1 q2 q3)
          have s4 := h2.size
          have D3 : g3n = g3 ∨ g3n = W3.heap.size := h3.imp (fun e => (Option.some.inj (show some g3 = some g3n from e)).symm) id
          clear h1 h2 h3 h4
          refine hK.out _ _ ⟨HB2_4.out.cell 0, HB3_4.out.cell 0⟩ (fun _ => ?_)
          clear hK K
          try simp only [Act.put, List.setIfInBounds_toArray, List.set_cons_zero, List.set_cons_succ]
          refine midG_leaf ?_
          have q2 : W4.cell? ⟨X2, 0, none⟩ = some (.slice (some ⟨g2, 0, none⟩) n2 c2) := HB2_4.out.cell 0
          have q3 : W4.cell? ⟨X3, 0, none⟩ = some (.slice (some ⟨g3, 0, none⟩) n3 c3) := HB3_4.out.cell 0
          have f2 : W4.frozen? ⟨X2, 0, none⟩ = false := HB2_4.out.free 0
          have f3 : W4.frozen? ⟨X3, 0, none⟩ = false := HB3_4.out.free 0
          clear e2 e3 G
          simp only [List.drop_succ_cons, List.drop_zero]
          go_wp2_with fail
          refine NoPanic.normal ?_
          go_wp2_with fail
          go_end0
          exact ⟨rfl, FIN.out W4 g2n c2n g3n c3n HB2_4.out HB3_4.out R2_4.out R3_4.out (by omega) (by omega) (by omega) (by omega) (by omega) (by omega) (by omega) (by omega) HA_4.out HO_4.out⟩
        · refine midG_one (by rfl) (fun K hK => ?_)
          rw [if_pos (by rfl)]
          go_simp
          have s2 : W1.heap.size + 1 = (W1.alloc (.cells #[.int .i64 k, .string nm] 60)).heap.size := by simp
          have HB2_2 := Lib.hid (HB2_1.out.alloc (.cells #[.int .i64 k, .string nm] 60))
          have HB3_2 := Lib.hid (HB3_1.out.alloc (.cells #[.int .i64 k, .string nm] 60))
          have R2_2 := Lib.hid (R2_1.out.alloc (.cells #[.int .i64 k, .string nm] 60))
          have R3_2 := Lib.hid (R3_1.out.alloc (.cells #[.int .i64 k, .string nm] 60))
          have N2_2 := Lib.hid (N2_1.out.alloc (.cells #[.int .i64 k, .string nm] 60))
          have N3_2 := Lib.hid (Blk.new W1 #[.int .i64 k, .string nm] 60)
          have HA_2 : Hid (∀ a : World, Below a.heap.size a wr → a.heap.size ≤ base → Below a.heap.size a (W1.alloc (.cells #[.int .i64 k, .string nm] 60))) := fun a h1 h2 => bl_alloc (HA_1.out a h1 h2) _
          have HO_2 : Hid (∀ B, B < wr.heap.size → B ≠ g2 → B ≠ g3 → (W1.alloc (.cells #[.int .i64 k, .string nm] 60)).heap[B]? = wr.heap[B]?) := fun B q1 q2 q3 => (Below.heap_alloc W1 _ B (by omega)).trans (HO_1.out B q1 q2 q3)
          obtain ⟨W2, hW2⟩ : ∃ x, x = W1.alloc (.cells #[.int .i64 k, .string nm] 60) := ⟨_, rfl⟩
          obtain ⟨M3, hM3⟩ : ∃ x, x = W1.heap.size := ⟨_, rfl⟩
          rw [← hW2] at s2 HB2_2 HB3_2 R2_2 R3_2 N3_2 HA_2 HO_2 N2_2 ⊢
          rw [← hM3] at N3_2 ⊢
          have HM3 := Lib.hid hM3
          clear hW2 hM3
          refine hK.out _ _ ⟨HB2_2.out.cell 0, HB3_2.out.cell 0⟩ (fun _ => ?_)
          clear hK K
          try simp only [Act.put, List.setIfInBounds_toArray, List.set_cons_zero, List.set_cons_succ]
          refine midG_one (by rfl) (fun K hK => ?_)
          refine spush_G rfl (.tmp 20) (.tmp 22) rfl base (.slice (some ⟨g2, 0, none⟩) n2 c2) S n2 HN2.out rfl R2_2.out _ _ s rfl N2_2.out (by omega) (by omega) ?_
          intro g2n c2n W3 h1 h2 h3 h4
          have s3 := h2.size
          have HB2_3 := Lib.hid (gr_blk h2 HB2_2.out (Ne.symm d1))
          have HB3_3 := Lib.hid (gr_blk h2 HB3_2.out (Ne.symm d2))
          have R3_3 := Lib.hid (R3_2.out.kept h2 (.inr (own_ne (Ne.symm d5))))
          have N3_3 := Lib.hid (gr_blk (g := g2) h2 N3_2.out (by have := HM3.out; omega))
          have R2_3 := Lib.hid h1
          have HA_3 : Hid (∀ a : World, Below a.heap.size a wr → a.heap.size ≤ base → Below a.heap.size a W3) := fun a q1 q2 => bl_grown (HA_2.out a q1 q2) h2 (fun r hr => by have := Option.some.inj (show some g2 = some r from hr); omega)
          have HO_3 : Hid (∀ B, B < wr.heap.size → B ≠ g2 → B ≠ g3 → W3.heap[B]? = wr.heap[B]?) := fun B q1 q2 q3 => (h2.block B (by omega) (fun e => q2 (Option.some.inj (show some B = some g2 from e)))).trans (HO_2.out B q1 q2 q3)
          have D2 : (g2n = g2 ∨ g2n = W2.heap.size) ∧ g2n < W3.heap.size := ⟨h3.imp (fun e => (Option.some.inj (show some g2 = some g2n from e)).symm) id, h4⟩
          clear h1 h2 h3 h4
          refine hK.out _ _ ⟨HB2_3.out.cell 0, HB3_3.out.cell 0⟩ (fun _ => ?_)
          clear hK K
          try simp only [Act.put, List.setIfInBounds_toArray, List.set_cons_zero, List.set_cons_succ]
          refine midG_one (by rfl) (fun K hK => ?_)
          refine spush_Nd rfl (.tmp 24) (.tmp 28) rfl base (.slice (some ⟨g3, 0, none⟩) n3 c3) T n3 HN3.out rfl R3_3.out _ _ ((k : Int), nm) rfl N3_3.out (by omega) (by omega) ?_
          intro g3n c3n W4 h1 h2 h3 h4
          have HB2_4 := Lib.hid (gr_blk h2 HB2_3.out (Ne.symm d3))
          have HB3_4 := Lib.hid (gr_blk h2 HB3_3.out (Ne.symm d4))
          have E2n : g2n ≠ g3 := by omega
          have R2_4 := Lib.hid (R2_3.out.kept h2 (.inr (own_ne E2n)))
          have R3_4 := Lib.hid h1
          have HA_4 : Hid (∀ a : World, Below a.heap.size a wr → a.heap.size ≤ base → Below a.heap.size a W4) := fun a q1 q2 => bl_grown (HA_3.out a q1 q2) h2 (fun r hr => by have := Option.some.inj (show some g3 = some r from hr); omega)
          have HO_4 : Hid (∀ B, B < wr.heap.size → B ≠ g2 → B ≠ g3 → W4.heap[B]? = wr.heap[B]?) := fun B q1 q2 q3 => (h2.block B (by omega) (fun e => q3 (Option.some.inj (show some B = some g3 from e)))).trans (HO_3.out B q1 q2 q3)
          have s4 := h2.size
          have D3 : g3n = g3 ∨ g3n = W3.heap.size := h3.imp (fun e => (Option.some.inj (show some g3 = some g3n from e)).symm) id
          clear h1 h2 h3 h4
          refine hK.out _ _ ⟨HB2_4.out.cell 0, HB3_4.out.cell 0⟩ (fun _ => ?_)
          clear hK K
          try simp only [Act.put, List.setIfInBounds_toArray, List.set_cons_zero, List.set_cons_succ]
          refine midG_leaf ?_
          have q2 : W4.cell? ⟨X2, 0, none⟩ = some (.slice (some ⟨g2, 0, none⟩) n2 c2) := HB2_4.out.cell 0
          have q3 : W4.cell? ⟨X3, 0, none⟩ = some (.slice (some ⟨g3, 0, none⟩) n3 c3) := HB3_4.out.cell 0
          have f2 : W4.frozen? ⟨X2, 0, none⟩ = false := HB2_4.out.free 0
          have f3 : W4.frozen? ⟨X3, 0, none⟩ = false := HB3_4.out.free 0
          clear e2 e3 G
          simp only [List.drop_succ_cons, List.drop_zero]
          go_wp2_with fail
          refine NoPanic.normal ?_
          go_wp2_with fail
          go_end0
          exact ⟨rfl, FIN.out W4 g2n c2n g3n c3n HB2_4.out HB3_4.out R2_4.out R3_4.out (by omega) (by omega) (by omega) (by omega) (by omega) (by omega) (by omega) (by omega) HA_4.out HO_4.out⟩
      · refine midG_one (by rfl) (fun K hK => ?_)
        rw [if_pos (by rfl)]
        go_simp
        have s1 : W0.heap.size + 1 = (W0.alloc (.cells #[.int .i64 k, .string nm] 60)).heap.size := by simp
        have HB2_1 := Lib.hid (HB2_0.out.alloc (.cells #[.int .i64 k, .string nm] 60))
        have HB3_1 := Lib.hid (HB3_0.out.alloc (.cells #[.int .i64 k, .string nm] 60))
        have R2_1 := Lib.hid (R2_0.out.alloc (.cells #[.int .i64 k, .string nm] 60))
        have R3_1 := Lib.hid (R3_0.out.alloc (.cells #[.int .i64 k, .string nm] 60))
        have N3_1 := Lib.hid (Blk.new W0 #[.int .i64 k, .string nm] 60)
        have HA_1 : Hid (∀ a : World, Below a.heap.size a wr → a.heap.size ≤ base → Below a.heap.size a (W0.alloc (.cells #[.int .i64 k, .string nm] 60))) := fun a h1 h2 => bl_alloc (HA_0.out a h1 h2) _
        have HO_1 : Hid (∀ B, B < wr.heap.size → B ≠ g2 → B ≠ g3 → (W0.alloc (.cells #[.int .i64 k, .string nm] 60)).heap[B]? = wr.heap[B]?) := fun B q1 q2 q3 => (Below.heap_alloc W0 _ B (by omega)).trans (HO_0.out B q1 q2 q3)
        obtain ⟨W1, hW1⟩ : ∃ x, x = W0.alloc (.cells #[.int .i64 k, .string nm] 60) := ⟨_, rfl⟩
        obtain ⟨M3, hM3⟩ : ∃ x, x = W0.heap.size := ⟨_, rfl⟩
        rw [← hW1] at s1 HB2_1 HB3_1 R2_1 R3_1 N3_1 HA_1 HO_1 ⊢
        rw [← hM3] at N3_1 ⊢
        have HM3 := Lib.hid hM3
        clear hW1 hM3
        refine hK.out _ _ ⟨HB2_1.out.cell 0, HB3_1.out.cell 0⟩ (fun _ => ?_)
        clear hK K
        try simp only [Act.put, List.setIfInBounds_toArray, List.set_cons_zero, List.set_cons_succ]
        refine midG_one (by rfl) (fun K hK => ?_)
        rw [if_pos (by rfl)]
        go_simp
        have s2 : W1.heap.size + 1 = (W1.alloc (.cells #[.int .u64 s] 61)).heap.size := by simp
        have HB2_2 := Lib.hid (HB2_1.out.alloc (.cells #[.int .u64 s] 61))
        have HB3_2 := Lib.hid (HB3_1.out.alloc (.cells #[.int .u64 s] 61))
        have R2_2 := Lib.hid (R2_1.out.alloc (.cells #[.int .u64 s] 61))
        have R3_2 := Lib.hid (R3_1.out.alloc (.cells #[.int .u64 s] 61))
        have N3_2 := Lib.hid (N3_1.out.alloc (.cells #[.int .u64 s] 61))
        have N2_2 := Lib.hid (Blk.new W1 #[.int .u64 s] 61)
        have HA_2 : Hid (∀ a : World, Below a.heap.size a wr → a.heap.size ≤ base → Below a.heap.size a (W1.alloc (.cells #[.int .u64 s] 61))) := fun a h1 h2 => bl_alloc (HA_1.out a h1 h2) _
        have HO_2 : Hid (∀ B, B < wr.heap.size → B ≠ g2 → B ≠ g3 → (W1.alloc (.cells #[.int .u64 s] 61)).heap[B]? = wr.heap[B]?) := fun B q1 q2 q3 => (Below.heap_alloc W1 _ B (by omega)).trans (HO_1.out B q1 q2 q3)
        obtain ⟨W2, hW2⟩ : ∃ x, x = W1.alloc (.cells #[.int .u64 s] 61) := ⟨_, rfl⟩
        obtain ⟨M2, hM2⟩ : ∃ x, x = W1.heap.size := ⟨_, rfl⟩
        rw [← hW2] at s2 HB2_2 HB3_2 R2_2 R3_2 N2_2 HA_2 HO_2 N3_2 ⊢
        rw [← hM2] at N2_2 ⊢
        have HM2 := Lib.hid hM2
        clear hW2 hM2
        refine hK.out _ _ ⟨HB2_2.out.cell 0, HB3_2.out.cell 0⟩ (fun _ => ?_)
        clear hK K
        try simp only [Act.put, List.setIfInBounds_toArray, List.set_cons_zero, List.set_cons_succ]
        refine midG_one (by rfl) (fun K hK => ?_)
        refine spush_G rfl (.tmp 20) (.tmp 22) rfl base (.slice (some ⟨g2, 0, none⟩) n2 c2) S n2 HN2.out rfl R2_2.out _ _ s rfl N2_2.out (by omega) (by omega) ?_
        intro g2n c2n W3 h1 h2 h3 h4
        have s3 := h2.size
        have HB2_3 := Lib.hid (gr_blk h2 HB2_2.out (Ne.symm d1))
        have HB3_3 := Lib.hid (gr_blk h2 HB3_2.out (Ne.symm d2))
        have R3_3 := Lib.hid (R3_2.out.kept h2 (.inr (own_ne (Ne.symm d5))))
        have N3_3 := Lib.hid (gr_blk (g := g2) h2 N3_2.out (by have := HM3.out; omega))
        have R2_3 := Lib.hid h1
        have HA_3 : Hid (∀ a : World, Below a.heap.size a wr → a.heap.size ≤ base → Below a.heap.size a W3) := fun a q1 q2 => bl_grown (HA_2.out a q1 q2) h2 (fun r hr => by have := Option.some.inj (show some g2 = some r from hr); omega)
        have HO_3 : Hid (∀ B, B < wr.heap.size → B ≠ g2 → B ≠ g3 → W3.heap[B]? = wr.heap[B]?) := fun B q1 q2 q3 => (h2.block B (by omega) (fun e => q2 (Option.some.inj (show some B = some g2 from e)))).trans (HO_2.out B q1 q2 q3)
        have D2 : (g2n = g2 ∨ g2n = W2.heap.size) ∧ g2n < W3.heap.size := ⟨h3.imp (fun e => (Option.some.inj (show some g2 = some g2n from e)).symm) id, h4⟩
        clear h1 h2 h3 h4
        refine hK.out _ _ ⟨HB2_3.out.cell 0, HB3_3.out.cell 0⟩ (fun _ => ?_)
        clear hK K
        try simp only [Act.put, List.setIfInBounds_toArray, List.set_cons_zero, List.set_cons_succ]
        refine midG_one (by rfl) (fun K hK => ?_)
        refine spush_Nd rfl (.tmp 24) (.tmp 28) rfl base (.slice (some ⟨g3, 0, none⟩) n3 c3) T n3 HN3.out rfl R3_3.out _ _ ((k : Int), nm) rfl N3_3.out (by omega) (by omega) ?_
        intro g3n c3n W4 h1 h2 h3 h4
        have HB2_4 := Lib.hid (gr_blk h2 HB2_3.out (Ne.symm d3))
        have HB3_4 := Lib.hid (gr_blk h2 HB3_3.out (Ne.symm d4))
        have E2n : g2n ≠ g3 := by omega
        have R2_4 := Lib.hid (R2_3.out.kept h2 (.inr (own_ne E2n)))
        have R3_4 := Lib.hid h1
        have HA_4 : Hid (∀ a : World, Below a.heap.size a wr → a.heap.size ≤ base → Below a.heap.size a W4) := fun a q1 q2 => bl_grown (HA_3.out a q1 q2) h2 (fun r hr => by have := Option.some.inj (show some g3 = some r from hr); omega)
        have HO_4 : Hid (∀ B, B < wr.heap.size → B ≠ g2 → B ≠ g3 → W4.heap[B]? = wr.heap[B]?) := fun B q1 q2 q3 => (h2.block B (by omega) (fun e => q3 (Option.some.inj (show some B = some g3 from e)))).trans (HO_3.out B q1 q2 q3)
        have s4 := h2.size
        have D3 : g3n = g3 ∨ g3n = W3.heap.size := h3.imp (fun e => (Option.some.inj (show some g3 = some g3n from e)).symm) id
        clear h1 h2 h3 h4
        refine hK.out _ _ ⟨HB2_4.out.cell 0, HB3_4.out.cell 0⟩ (fun _ => ?_)
        clear hK K
        try simp only [Act.put, List.setIfInBounds_toArray, List.set_cons_zero, List.set_cons_succ]
        refine midG_leaf ?_
        have q2 : W4.cell? ⟨X2, 0, none⟩ = some (.slice (some ⟨g2, 0, none⟩) n2 c2) := HB2_4.out.cell 0
        have q3 : W4.cell? ⟨X3, 0, none⟩ = some (.slice (some ⟨g3, 0, none⟩) n3 c3) := HB3_4.out.cell 0
        have f2 : W4.frozen? ⟨X2, 0, none⟩ = false := HB2_4.out.free 0
        have f3 : W4.frozen? ⟨X3, 0, none⟩ = false := HB3_4.out.free 0
        clear e2 e3 G
        simp only [List.drop_succ_cons, List.drop_zero]
        go_wp2_with fail
        refine NoPanic.normal ?_
        go_wp2_with fail
        go_end0
        exact ⟨rfl, FIN.out W4 g2n c2n g3n c3n HB2_4.out HB3_4.out R2_4.out R3_4.out (by omega) (by omega) (by omega) (by omega) (by omega) (by omega) (by omega) (by omega) HA_4.out HO_4.out⟩
    · have HP : Hid (parZ S s n2 = parZ S s k) := by show _ = _; rw [hp.out, HST.out, if_neg q]
      have hk0 : 0 < k := by
        by_cases e : k = 0
        · exact absurd (HZ.out e) q
        · omega
      have t1 : ((y : Int) != (s : Int)) = true := by simp; omega
      have t2 : ((y : Int) == (s : Int)) = false := by simp; omega
      have t3 : decide ((y : Int) = (s : Int)) = false := by simp; omega
      clear HST HZ hp q
      go_wp2_with fail
      go_roundw
      case rel => exact ⟨k - 1, by omega, by go_num, by rw [Nat.sub_add_cancel hk0]; exact HP, by trivial⟩
      case measure => simp [intOf]; omega
end Go.Proofs.YtnabbmdhhddfbaaDoor
namespace Go.Proofs.YtnabbmdhhddfbaaDoor
open Go.RowKit Go.Shelf
theorem parZ_congr {S S' : List Nat} (s : Nat) : ∀ k, (∀ i, i < k → vA S i = vA S' i) → parZ S s k = parZ S' s k := by
  intro k
  induction k with
  | zero => intro _; rfl
  | succ k ih =>
    intro h
    unfold parZ
    rw [ih (fun i hi => h i (by omega)), h k (by omega)]
def itoaB (i : Nat) : ByteArray := ⟨(Go.Lib.decDigits i).toArray⟩
theorem itoaB_size (i : Nat) (h : i < 100) : (itoaB i).size ≤ 2 := by
  have : (Go.Lib.decDigits i).length ≤ 2 := by
    rw [Go.Lib.decDigits]
    split
    · simp
    · rw [Go.Lib.decDigits, dif_pos (by omega)]; simp
  simp only [itoaB, ByteArray.size, List.size_toArray]
  exact this
/-- The sets of the nodes: all, the groups, each language. -/
def setsB (L : Nat) (l : List Nat) : List Nat := (2 ^ L - 1) :: (grpsN L l ++ (List.range L).map fun k => 2 ^ k)
/-- The nodes' names. -/
def namB (G : Nat) (i : Nat) : ByteArray := if i = 0 then ⟨#[114, 111, 111, 116]⟩ else if i ≤ G then ⟨#[78]⟩ ++ itoaB i else ⟨#[76]⟩ ++ itoaB (i - G - 1)
def treeN (S : List Nat) (nm : Nat → ByteArray) (k : Nat) : List Nd := (List.range k).map fun i => (parZ S (vA S i) i, nm i)
theorem treeN_len (S : List Nat) (nm : Nat → ByteArray) (k : Nat) : (treeN S nm k).length = k := by simp [treeN]
theorem treeN_snoc (S : List Nat) (nm : Nat → ByteArray) (k : Nat) : treeN S nm (k + 1) = treeN S nm k ++ [(parZ S (vA S k) k, nm k)] := by
  simp [treeN, List.range_succ]
theorem setsB_len (L : Nat) (l : List Nat) : (setsB L l).length = (grpsN L l).length + L + 1 := by simp [setsB]
theorem setsB_zero (L : Nat) (l : List Nat) : vA (setsB L l) 0 = 2 ^ L - 1 := rfl
theorem setsB_grp {L : Nat} {l : List Nat} {j : Nat} (h : j < (grpsN L l).length) : vA (setsB L l) (j + 1) = vA (grpsN L l) j := by
  simp only [vA, setsB, List.getD_cons_succ]
  rw [List.getD_eq_getElem?_getD, List.getElem?_append_left h]
  simp [h]
theorem setsB_one {L : Nat} {l : List Nat} {k : Nat} (h : k < L) : vA (setsB L l) ((grpsN L l).length + k + 1) = 2 ^ k := by
  simp only [vA, setsB, List.getD_cons_succ]
  rw [List.getD_eq_getElem?_getD, List.getElem?_append_right (by omega)]
  simp [h]
theorem namB_grp {G j : Nat} (h : j < G) : namB G (j + 1) = ⟨#[78]⟩ ++ itoaB (j + 1) := by
  unfold namB; rw [if_neg (by omega), if_pos (by omega)]
theorem namB_one (G k : Nat) : namB G (G + k + 1) = ⟨#[76]⟩ ++ itoaB k := by
  unfold namB; rw [if_neg (by omega), if_neg (by omega), show G + k + 1 - G - 1 = k by omega]
/-- No set of a valid table has a language from L on. -/
theorem chk_lt {L : Nat} {l : List Nat} (h : chkT (L : Int) l = 0) : L ≤ 32 ∧ l.length ≤ 64 ∧ ∀ x, x ∈ l → x < 2 ^ L := by
  unfold chkT at h
  by_cases q : (L : Int) < 0 ∨ 32 < (L : Int)
  · rw [if_pos q] at h; omega
  · rw [if_neg q] at h
    by_cases q2 : 64 < l.length
    · rw [if_pos q2] at h; omega
    · rw [if_neg q2] at h
      by_cases q3 : l.any (wide (L : Int).toNat) = true
      · rw [if_pos q3] at h; omega
      · refine ⟨by omega, by omega, fun x hx => ?_⟩
        rw [Int.toNat_natCast] at q3
        have := List.any_eq_false.1 (Bool.eq_false_iff.2 q3) x hx
        unfold wide at this
        simpa using this
theorem grpsN_lt {L : Nat} {l : List Nat} (hF : FitV l) (h : ∀ x, x ∈ l → x < 2 ^ L) : ∀ x, x ∈ grpsN L l → x < 2 ^ L := by
  intro x hx
  rw [grpsN_mem hF] at hx
  exact h x (List.mem_of_mem_take (List.mem_filter.1 hx).1)
theorem setsB_lt {L : Nat} {l : List Nat} (hF : FitV l) (h : ∀ x, x ∈ l → x < 2 ^ L) : ∀ x, x ∈ setsB L l → x < 2 ^ L := by
  intro x hx
  unfold setsB at hx
  have hp := Nat.two_pow_pos L
  rcases List.mem_cons.1 hx with rfl | hx
  · omega
  · rcases List.mem_append.1 hx with hx | hx
    · exact grpsN_lt hF h x hx
    · obtain ⟨k, hk, rfl⟩ := List.mem_map.1 hx
      exact Nat.pow_lt_pow_right (by omega) (List.mem_range.1 hk)
/-- One more node. -/
theorem tree_step {S : List Nat} {nm : Nat → ByteArray} {k s : Nat} (hk : k < S.length) (hs : vA S k = s) :
    S.take k ++ [s] = S.take (k + 1) ∧ treeN S nm k ++ [(parZ (S.take k) s (S.take k).length, nm k)] = treeN S nm (k + 1) := by
  have e : (S.take k).length = k := by rw [List.length_take]; omega
  refine ⟨?_, ?_⟩
  · rw [List.take_succ_eq_append_getElem hk, ← vA_get hk, hs]
  · rw [treeN_snoc, e, hs]
    congr 3
    refine parZ_congr s k fun i hi => ?_
    simp [vA, List.getElem?_take, hi]
theorem fitV_take {S : List Nat} (h : ∀ x, x ∈ S → x < 18446744073709551616) (k : Nat) : FitV (S.take k) := by
  intro i hi
  rw [vA_get hi]
  exact h _ (List.mem_of_mem_take (List.getElem_mem hi))
/-- Does Build answer a tree? -/
def bdB (L : Int) (l : List Nat) : Bool := decide (chkT L l = 0) && !decide (L = 0) && (confE l).isNone
def bdE (L : Int) (l : List Nat) : Int := if chkT L l ≠ 0 then chkT L l else if L = 0 then 5 else 0
def bdN (L : Nat) (l : List Nat) : List Nd := if L = 1 then [(-1, ⟨#[76, 48]⟩)] else treeN (setsB L l) (namB (grpsN L l).length) ((grpsN L l).length + L + 1)
def bdT (L : Int) (l : List Nat) : List Nd := if bdB L l then bdN L.toNat l else []
/-- What Build answers. -/
def BdPost (w : World) (L : Int) (l : List Nat) (e : Ending) (w' : World) : Prop :=
  ∃ v, e = .returned (.tuple #[v, .bool (bdB L l), .int .i64 (bdE L l)]) ∧ w'.ownsRow w.heap.size 60 2 v (bdT L l).length (fl encNd (bdT L l)) ∧ Below w.heap.size w w'
theorem BldW.bl {w w' : World} {base X2 X3 : Nat} {S : List Nat} {T : List Nd} {g2 c2 g3 c3 : Nat} (h : BldW w base X2 X3 S T g2 c2 g3 c3) (hb : Below w.heap.size w w') : BldW w' base X2 X3 S T g2 c2 g3 c3 :=
  ⟨h.b2.below hb, h.b3.below hb, owns_below h.r2 hb, owns_below h.r3 hb, h.d1, h.d2, h.d3, h.d4, h.d5, h.d6, h.h2, h.h3⟩
/-- What is laid before the first group. -/
theorem bld_first (w w2 : World) (A : Nat) (hw : w.heap.size ≤ w2.heap.size) :
    BldW ((((w2.alloc (.cells #[.int .u64 A] 61)).alloc (.cells #[.slice (some ⟨w2.heap.size, 0, none⟩) 1 1] 62)).alloc (.cells #[.int .i64 (-1), .string ⟨#[114, 111, 111, 116]⟩] 60)).alloc (.cells #[.slice (some ⟨w2.heap.size + 1 + 1, 0, none⟩) 1 1] 27))
      w.heap.size (w2.heap.size + 1) (w2.heap.size + 1 + 1 + 1) [A] [(-1, ⟨#[114, 111, 111, 116]⟩)] w2.heap.size 1 (w2.heap.size + 1 + 1) 1 := by
  have z1 : (w2.alloc (.cells #[.int .u64 A] 61)).heap.size = w2.heap.size + 1 := by simp
  have z2 : ((w2.alloc (.cells #[.int .u64 A] 61)).alloc (.cells #[.slice (some ⟨w2.heap.size, 0, none⟩) 1 1] 62)).heap.size = w2.heap.size + 1 + 1 := by simp
  have z3 : (((w2.alloc (.cells #[.int .u64 A] 61)).alloc (.cells #[.slice (some ⟨w2.heap.size, 0, none⟩) 1 1] 62)).alloc (.cells #[.int .i64 (-1), .string ⟨#[114, 111, 111, 116]⟩] 60)).heap.size = w2.heap.size + 1 + 1 + 1 := by simp
  refine ⟨?_, ?_, ?_, ?_, by omega, by omega, by omega, by omega, by omega, by omega, by omega, by omega⟩
  · exact ((Blk.new2 w2 _ _ _).alloc _).alloc _
  · have := Blk.new ((((w2.alloc (.cells #[.int .u64 A] 61)).alloc (.cells #[.slice (some ⟨w2.heap.size, 0, none⟩) 1 1] 62))).alloc (.cells #[.int .i64 (-1), .string ⟨#[114, 111, 111, 116]⟩] 60)) #[.slice (some ⟨w2.heap.size + 1 + 1, 0, none⟩) 1 1] 27
    rw [z3] at this
    exact this
  · exact (((owns_made (k := 1) (cs := #[.int .u64 A]) hw rfl (by unfold maxLen; omega)).alloc _).alloc _).alloc _
  · have := (owns_made (w := (w2.alloc (.cells #[.int .u64 A] 61)).alloc (.cells #[.slice (some ⟨w2.heap.size, 0, none⟩) 1 1] 62)) (base := w.heap.size) (e := 60) (n := 1) (k := 2) (cs := #[.int .i64 (-1), .string ⟨#[114, 111, 111, 116]⟩]) (by rw [z2]; omega) rfl (by unfold maxLen; omega)).alloc (.cells #[.slice (some ⟨w2.heap.size + 1 + 1, 0, none⟩) 1 1] 27)
    rw [z2] at this
    exact this
theorem bdPost_nil {w w' : World} {L : Int} {l : List Nat} {b : Bool} {E : Int} (hb : bdB L l = false) (hE : bdE L l = E) (hbl : Below w.heap.size w w') : BdPost w L l (.returned (.tuple #[.slice none 0 0, .bool false, .int .i64 E])) w' := by
  refine ⟨_, by rw [hb, hE], ?_, hbl⟩
  unfold bdT
  rw [hb]
  exact World.ownsRow_nil _ _ _ _
set_option maxRecDepth 100000 in
set_option maxHeartbeats 4000000 in
theorem build_any (L : Int) (a : Option Addr) (N c : Nat) (l : List Nat) (w : World) (hl : l.length = N) (hN : N ≤ 1152921504606846976) (hNc : N ≤ c) (hc : c ≤ 9223372036854775807) (hA : Rd w a (fl encV l)) (hF : FitV l) :
    Calls Tryd.prog 15 #[.agg #[.int .i64 L, .slice a N c]] w (BdPost w L l) := by
  have hb0 := bl_alloc (Below.refl _ w) (.cells #[.int .i64 L, .slice a N c] 24)
  have hB := Blk.new w #[.int .i64 L, .slice a N c] 24
  have HL := Lib.hid hl
  have HF := Lib.hid hF
  have HC := Lib.hid (conf_any L a N c l (w.alloc (.cells #[.int .i64 L, .slice a N c] 24)) hl hN hNc hc (hA.bl hb0) hF)
  have HA := Lib.hid (hA.bl hb0)
  clear hl hA hF
  obtain ⟨X, hX⟩ : ∃ X, X = w.heap.size := ⟨_, rfl⟩
  go_enter Tryd.func15, Tryd.ntmps15
  go_wp2_with fail
  refine HC.out.mono ?_
  rintro e w2 ⟨rfl, hb2⟩
  have hb3 := bl_trans hb0 hb2
  have hB2 := hB.below hb2
  have HA2 := Lib.hid (HA.out.bl hb2)
  rw [← hX] at hB2 ⊢
  have HB3 := Lib.hid hb3
  have e0 : w2.cell? ⟨X, 0, none⟩ = some (.int .i64 L) := hB2.cell 0
  have e1 : w2.cell? ⟨X, 1, none⟩ = some (.slice a N c) := hB2.cell 1
  have HBX := Lib.hid hB2
  have HX := Lib.hid hX
  clear hX hB2 hb3 hB hb0 hb2 HA HC
  by_cases h0 : chkT L l = 0
  · obtain ⟨M, rfl⟩ : ∃ M : Nat, L = M := by
      refine ⟨L.toNat, ?_⟩
      unfold chkT at h0
      by_cases q : L < 0 ∨ 32 < L
      · rw [if_pos q] at h0; omega
      · omega
    obtain ⟨hM, hl64, hlt⟩ := chk_lt h0
    have HLT := Lib.hid hlt
    have HE : Hid (∀ E : Nat, bdE (M : Int) l = (if (M : Int) = 0 then 5 else 0)) := fun _ => by unfold bdE; rw [if_neg (fun h => h h0)]
    have HBD : Hid (bdB (M : Int) l = (!decide ((M : Int) = 0) && (confE l).isNone)) := by show _ = _; unfold bdB; rw [decide_eq_true h0]; rfl
    have H0 := Lib.hid h0
    clear hlt
    cases hcf : confE l with
    | some ij =>
      obtain ⟨i, j⟩ := ij
      have hcv := Lib.hid (cfV_yes h0 hcf)
      rw [hcf] at HBD
      have hbb : Hid (bdB (M : Int) l = false) := by show _ = _; rw [HBD.out]; simp
      rw [hcv.out]
      clear h0 hcf hcv HBD hl64
      by_cases hz : M = 0
      · subst hz
        have hE : Hid (bdE ((0 : Nat) : Int) l = 5) := HE.out 0
        clear HE
        go_wp2_with fail
        exact bodyPost_ret (v := .tuple #[.slice none 0 0, .bool false, .int .i64 5]) (by simp [results, Tryd.results15, go_sem]) rfl (bdPost_nil (b := false) hbb.out hE.out HB3.out)
      · have hE : Hid (bdE (M : Int) l = 0) := by show _ = _; rw [HE.out 0, if_neg (by omega)]
        have t0 : ((M : Int) == 0) = false := by simp; omega
        have t1 : decide ((M : Int) = 0) = false := by simp; omega
        clear HE
        go_wp2_with fail
        exact bodyPost_ret (v := .tuple #[.slice none 0 0, .bool false, .int .i64 0]) (by simp [results, Tryd.results15, go_sem]) rfl (bdPost_nil (b := false) hbb.out hE.out HB3.out)
    | none =>
      have hcv := Lib.hid (cfV_no h0 hcf)
      rw [hcf] at HBD
      rw [hcv.out]
      clear h0 hcf hcv
      by_cases hz : M = 0
      · subst hz
        have hE : Hid (bdE ((0 : Nat) : Int) l = 5) := HE.out 0
        have hbb : Hid (bdB ((0 : Nat) : Int) l = false) := by show _ = _; rw [HBD.out]; simp
        clear HE HBD hl64
        go_wp2_with fail
        exact bodyPost_ret (v := .tuple #[.slice none 0 0, .bool false, .int .i64 5]) (by simp [results, Tryd.results15, go_sem]) rfl (bdPost_nil (b := false) hbb.out hE.out HB3.out)
      · have hE : Hid (bdE (M : Int) l = 0) := by show _ = _; rw [HE.out 0, if_neg (by omega)]
        have t0 : ((M : Int) == 0) = false := by simp; omega
        have t1 : decide ((M : Int) = 0) = false := by simp; omega
        have hbb : Hid (bdB (M : Int) l = true) := by show _ = _; rw [HBD.out, t1]; rfl
        have hT : Hid (bdT (M : Int) l = bdN M l) := by show _ = _; unfold bdT; rw [hbb.out, Int.toNat_natCast]; rfl
        clear HE HBD
        by_cases h1 : M = 1
        · subst h1
          have hT1 : Hid (bdT ((1 : Nat) : Int) l = [(-1, ⟨#[76, 48]⟩)]) := by show _ = _; rw [hT.out]; unfold bdN; rw [if_pos rfl]
          clear hl64 hT
          go_wp2_with fail
          have ho : (w2.alloc (.cells #[.int .i64 (-1), .string ⟨#[76, 48]⟩] 60)).ownsRow w.heap.size 60 2 (.slice (some ⟨w2.heap.size, 0, none⟩) 1 1) 1 (fl encNd [(-1, ⟨#[76, 48]⟩)]) :=
            owns_made (k := 2) (cs := #[.int .i64 (-1), .string ⟨#[76, 48]⟩]) HB3.out.size rfl (by unfold maxLen; omega)
          exact bodyPost_ret (v := .tuple #[.slice (some ⟨w2.heap.size, 0, none⟩) 1 1, .bool true, .int .i64 0]) (by simp [results, Tryd.results15, go_sem]) rfl ⟨_, by rw [hbb.out, hE.out], by rw [hT1.out]; exact ho, bl_alloc HB3.out _⟩
        · have t2 : ((M : Int) == 1) = false := by simp; omega
          have t3 : decide ((M : Int) = 1) = false := by simp; omega
          have hT2 : Hid (bdT (M : Int) l = treeN (setsB M l) (namB (grpsN M l).length) ((grpsN M l).length + M + 1)) := by show _ = _; rw [hT.out]; unfold bdN; rw [if_neg h1]
          have hw : IntKind.u64.wrap (IntKind.u64.wrap (2 ^ M) - 1) = ((2 ^ M - 1 : Nat) : Int) := wrap_all hM
          have HW := Lib.hid hw
          clear hT hw h1
          go_upto_region 10 with fail
          go_upto_region 11 with fail
          rw [HW.out]
          go_upto_region 13 with fail
          have hbl3 : Below w.heap.size w ((((w2.alloc (.cells #[.int .u64 ((2 ^ M - 1 : Nat) : Int)] 61)).alloc (.cells #[.slice (some ⟨w2.heap.size, 0, none⟩) 1 1] 62)).alloc (.cells #[.int .i64 (-1), .string ⟨#[114, 111, 111, 116]⟩] 60)).alloc (.cells #[.slice (some ⟨w2.heap.size + 1 + 1, 0, none⟩) 1 1] 27)) := bl_alloc (bl_alloc (bl_alloc (bl_alloc HB3.out _) _) _) _
          have hb23 : Below w2.heap.size w2 ((((w2.alloc (.cells #[.int .u64 ((2 ^ M - 1 : Nat) : Int)] 61)).alloc (.cells #[.slice (some ⟨w2.heap.size, 0, none⟩) 1 1] 62)).alloc (.cells #[.int .i64 (-1), .string ⟨#[114, 111, 111, 116]⟩] 60)).alloc (.cells #[.slice (some ⟨w2.heap.size + 1 + 1, 0, none⟩) 1 1] 27)) := bl_alloc (bl_alloc (bl_alloc (bl_alloc (Below.refl _ _) _) _) _) _
          have hbw := bld_first w w2 (2 ^ M - 1) HB3.out.size
          obtain ⟨w3, hw3⟩ : ∃ x, x = ((((w2.alloc (.cells #[.int .u64 ((2 ^ M - 1 : Nat) : Int)] 61)).alloc (.cells #[.slice (some ⟨w2.heap.size, 0, none⟩) 1 1] 62)).alloc (.cells #[.int .i64 (-1), .string ⟨#[114, 111, 111, 116]⟩] 60)).alloc (.cells #[.slice (some ⟨w2.heap.size + 1 + 1, 0, none⟩) 1 1] 27)) := ⟨_, rfl⟩
          rw [← hw3] at hbl3 hb23 hbw ⊢
          obtain ⟨H, hH⟩ : ∃ x, x = w2.heap.size := ⟨_, rfl⟩
          have hBX3 := HBX.out.below hb23
          have f0 : w3.cell? ⟨X, 0, none⟩ = some (.int .i64 M) := hBX3.cell 0
          have f1 : w3.cell? ⟨X, 1, none⟩ = some (.slice a N c) := hBX3.cell 1
          have HG := Lib.hid (groups_any M a N c l w3 HL.out (by have := HL.out; omega) hM (HA2.out.bl hb23) HF.out)
          have hgl := grpsU_le M l
          have hgl2 : (grpsN M l).length ≤ 64 := by rw [grpsN_len]; omega
          have HZL := Lib.hid (grpsN_lt HF.out HLT.out)
          have HSL := Lib.hid (setsB_lt HF.out HLT.out)
          have HS0 := Lib.hid (setsB_zero M l)
          have HSG : Hid (∀ j, j < (grpsN M l).length → vA (setsB M l) (j + 1) = vA (grpsN M l) j) := fun j hj => setsB_grp hj
          have HS1 : Hid (∀ k, k < M → vA (setsB M l) ((grpsN M l).length + k + 1) = 2 ^ k) := fun k hk => setsB_one hk
          have HSN := Lib.hid (setsB_len M l)
          have hbw2 : BldW w3 w.heap.size (w2.heap.size + 1) (w2.heap.size + 1 + 1 + 1) ((setsB M l).take 1) (treeN (setsB M l) (namB (grpsN M l).length) 1) w2.heap.size 1 (w2.heap.size + 1 + 1) 1 := hbw
          rw [grpsN_enc, ← grpsN_len] at HG
          obtain ⟨zs, hzs⟩ : ∃ zs, grpsN M l = zs := ⟨_, rfl⟩
          obtain ⟨SS, hSS⟩ : ∃ x, setsB M l = x := ⟨_, rfl⟩
          rw [hSS, hzs] at hbw2 HSG HS1 hT2
          rw [hzs] at HG hgl2 HZL HSN
          rw [hSS] at HSL HS0 HSN
          rw [← hH] at hbw2 ⊢
          have hHX : X < H := by rw [hH]; exact HBX.out.lt
          have HBL3 := Lib.hid hbl3
          have HBW2 := Lib.hid hbw2
          have HBX3 := Lib.hid hBX3
          clear hzs hSS hH hw3 hb23 hbw hbw2 hBX3 hgl hbl3 HBX HA2 e0 e1 HB3 HW
          go_wp2_with fail
          refine HG.out.mono ?_
          rintro e w4 ⟨v, rfl, ho, hb⟩
          obtain ⟨A, cap, rfl, hAg⟩ := owns_slice ho
          have HR := Lib.hid (rd_of_owns ho)
          have HB4 := Lib.hid (bl_trans HBL3.out hb)
          have HBW4 := Lib.hid (HBW2.out.bl hb)
          have HBX4 := Lib.hid (HBX3.out.below hb)
          have hg4 : ∀ b off, A = some ⟨b, off, none⟩ → zs.length ≠ 0 → H + 1 + 1 + 1 < b := by
            intro b off e hn
            rcases hAg with h | ⟨g, h1, h2, h3⟩
            · exact absurd h hn
            · rw [h3] at e
              have := (Addr.mk.inj (Option.some.inj e)).1
              have := HBW2.out.b3.lt
              omega
          have HG4 := Lib.hid hg4
          obtain ⟨G, hG⟩ : ∃ K, K = zs.length := ⟨_, rfl⟩
          rw [← hG] at hgl2 HSG HS1 HSN HG4 hT2 HBW4 ⊢
          have HGL := Lib.hid hG
          clear ho hb hAg hG HG HBL3 HBW2 f0 f1 hg4
          obtain ⟨nm, hnm⟩ : ∃ nm, nm = namB G := ⟨_, rfl⟩
          rw [← hnm] at hT2 HBW4
          have HNG : Hid (∀ j, j < G → nm (j + 1) = ⟨#[78]⟩ ++ itoaB (j + 1)) := fun j hj => by rw [hnm]; exact namB_grp hj
          have HN1 : Hid (∀ k, nm (G + k + 1) = ⟨#[76]⟩ ++ itoaB k) := fun k => by rw [hnm]; exact namB_one G k
          clear hnm
          have hMp : 2 ^ M ≤ 4294967296 := Nat.pow_le_pow_right (n := 2) (by omega) (show M ≤ 32 by omega)
          have HSV : Hid (∀ x, x ∈ SS → x < 18446744073709551616) := fun x hx => by have := HSL.out x hx; omega
          have HSA : Hid (∀ i, i < SS.length → 0 < i → vA (SS.take i) 0 &&& vA SS i = vA SS i) := fun i hi h0 => by
            have e : vA (SS.take i) 0 = 2 ^ M - 1 := by rw [← HS0.out]; simp [vA, List.getElem?_take, h0]
            rw [e, Nat.and_comm, Nat.and_two_pow_sub_one_eq_mod]
            exact Nat.mod_eq_of_lt (HSL.out _ (by rw [vA_get hi]; exact List.getElem_mem hi))
          clear hMp
          go_wp2_with fail
          go_loopw [49] (fun x wr => ∃ j : Nat, j ≤ G ∧ x = .int .i64 j ∧ (∃ g2 c2 g3 c3, BldW wr w.heap.size (H + 1) (H + 1 + 1 + 1) (SS.take (j + 1)) (treeN SS nm (j + 1)) g2 c2 g3 c3 ∧ (∀ b off, A = some ⟨b, off, none⟩ → G ≠ 0 → b ≠ g2 ∧ b ≠ g3) ∧ X < g2 ∧ X < g3) ∧ Hid (Blk wr X #[.int .i64 M, .slice a N c] 24) ∧ Hid (Rd wr A (fl encV zs)) ∧ Hid (Below w.heap.size w wr) ∧ Hid (w4.heap.size ≤ wr.heap.size)) (fun x _ => G - (intOf x).toNat)
          case atStart => exact ⟨0, by omega, rfl, ⟨H, 1, H + 1 + 1, 1, HBW4.out, fun b off e hn => by have := HG4.out b off e hn; omega, hHX, by omega⟩, HBX4, HR, HB4, Nat.le_refl _⟩
          case round =>
            obtain ⟨j, hj, rfl, ⟨g2, c2, g3, c3, hbw, hbg, hxg2, hxg3⟩, hbx, hrd, hbl, hsz⟩ := hrel
            by_cases hlt : j < G
            · obtain ⟨b, o, rfl, hb, hc2⟩ := rdV hrd.out (by rw [← HGL.out]; omega)
              have G1 := hc2 j (by rw [← HGL.out]; exact hlt)
              have hsx := HSG.out j hlt
              have hjS : j + 1 < SS.length := by rw [HSN.out]; omega
              have hxb := HSV.out _ (by rw [← hsx, vA_get hjS]; exact List.getElem_mem hjS : vA zs j ∈ SS)
              have hst := tree_step (nm := nm) hjS hsx
              have h0 := HSA.out (j + 1) hjS (by omega)
              rw [hsx] at h0
              rw [HNG.out j hlt] at hst
              obtain ⟨hbg1, hbg2⟩ := hbg b o rfl (by omega)
              have hG4 := HG4.out b o rfl (by omega)
              have hI : ∀ W, Calls Tryd.prog 37 #[.int .i64 ((j : Int) + 1)] W fun e w' => e = .returned (.string (itoaB (j + 1))) ∧ w' = W := fun W => by
                have e : ((j : Int) + 1) = ((j + 1 : Nat) : Int) := by omega
                rw [e]; exact Tryd.strconv_Itoa_small (j + 1) (by omega) W
              have HI := Lib.hid hI
              have hlen1 : (SS.take (j + 1)).length = j + 1 := by rw [List.length_take]; omega
              have hlt1 : (treeN SS nm (j + 1)).length = j + 1 := treeN_len _ _ _
              have HBW := Lib.hid hbw
              have HC1 := Lib.hid (bld1_any (H + 1) (H + 1 + 1 + 1) w.heap.size (SS.take (j + 1)) (treeN SS nm (j + 1)) g2 c2 g3 c3 (vA zs j) (⟨#[78]⟩ ++ itoaB (j + 1)) wr hbw hxb (fitV_take HSV.out _) h0 (by omega) (by omega) (by omega))
              have HST := Lib.hid hst
              have hszr := Lib.hid (HB4.out.size)
              have hisz := itoaB_size (j + 1) (by omega)
              clear hst hc2 hsx h0 hlen1 hlt1 hI hbw hbg
              generalize vA zs j = z at *
              go_wp2_with fail
              refine (HI.out _).mono ?_
              rintro e w5 ⟨rfl, rfl⟩
              go_wp2_with fail
              refine HC1.out.mono ?_
              rintro e w6 ⟨rfl, ⟨g2', c2', g3', c3', hb6, hg2', hg3'⟩, ho6, hsz6, hbl6⟩
              rw [HST.out.1, HST.out.2] at hb6
              have HRD6 : Hid (Rd w6 (some ⟨b, o, none⟩) (fl encV zs)) := rd_block hrd.out hsz6 fun b' o' e' hlt' => by
                have e2 := (Addr.mk.inj (Option.some.inj e')).1
                exact ho6 b' hlt' (by omega) (by omega) (by omega) (by omega)
              have HBL6 := Lib.hid (hbl6 w hbl.out (Nat.le_refl _))
              have HB6 := Lib.hid hb6
              have HS6 : Hid (w4.heap.size ≤ w6.heap.size) := Nat.le_trans hsz.out hsz6
              have hxl := hbx.out.lt
              have HBX6 : Hid (Blk w6 X #[.int .i64 M, .slice a N c] 24) := (ho6 X hxl (by omega) (by omega) (by omega) (by omega)).trans hbx.out
              clear ho6 hbl6 hb6 G1
              go_wp2_with fail
              go_roundw
              case rel => exact ⟨j + 1, by omega, by go_num, ⟨g2', c2', g3', c3', HB6.out, fun b' o' e' _ => by
                have e2 := (Addr.mk.inj (Option.some.inj e')).1
                omega, by omega, by omega⟩, HBX6, HRD6, HBL6, HS6⟩
              case measure => simp [intOf]; omega
            · obtain rfl : j = G := by omega
              have f0 : wr.cell? ⟨X, 0, none⟩ = some (.int .i64 M) := hbx.out.cell 0
              have f1 : wr.cell? ⟨X, 1, none⟩ = some (.slice a N c) := hbx.out.cell 1
              have HBW := Lib.hid hbw
              clear hbw hbg hrd hsz hbx HG4 HR HB4 HBX4 HBW4
              go_wp2_with fail
              clear f0 f1
              obtain ⟨w7, rfl⟩ : ∃ x : World, x = wr := ⟨_, rfl⟩
              go_loopw [64] (fun x wr => ∃ k : Nat, k ≤ M ∧ x = .int .i64 k ∧ (∃ g2 c2 g3 c3, BldW wr w.heap.size (H + 1) (H + 1 + 1 + 1) (SS.take (j + k + 1)) (treeN SS nm (j + k + 1)) g2 c2 g3 c3) ∧ Hid (Below w.heap.size w wr)) (fun x _ => M - (intOf x).toNat)
              case atStart => exact ⟨0, by omega, rfl, ⟨g2, c2, g3, c3, HBW.out⟩, hbl⟩
              case round =>
                clear HBW hbl hxg2 hxg3 g2 c2 g3 c3
                obtain ⟨k, hk, rfl, ⟨g2, c2, g3, c3, hbw⟩, hbl⟩ := hrel
                by_cases hlt : k < M
                · have hjS : j + k + 1 < SS.length := by rw [HSN.out]; omega
                  have hsx := HS1.out k hlt
                  have hxb := HSV.out _ (by rw [← hsx, vA_get hjS]; exact List.getElem_mem hjS : 2 ^ k ∈ SS)
                  have hst := tree_step (nm := nm) hjS hsx
                  have h0 := HSA.out (j + k + 1) hjS (by omega)
                  rw [hsx] at h0
                  rw [HN1.out k] at hst
                  have HI : Hid (∀ W, Calls Tryd.prog 37 #[.int .i64 (k : Int)] W fun e w' => e = .returned (.string (itoaB k)) ∧ w' = W) := fun W => Tryd.strconv_Itoa_small k (by omega) W
                  have hlen1 : (SS.take (j + k + 1)).length = j + k + 1 := by rw [List.length_take]; omega
                  have hlt1 : (treeN SS nm (j + k + 1)).length = j + k + 1 := treeN_len _ _ _
                  have HC1 := Lib.hid (fun W (hW : BldW W w.heap.size (H + 1) (H + 1 + 1 + 1) (SS.take (j + k + 1)) (treeN SS nm (j + k + 1)) g2 c2 g3 c3) => bld1_any (H + 1) (H + 1 + 1 + 1) w.heap.size (SS.take (j + k + 1)) (treeN SS nm (j + k + 1)) g2 c2 g3 c3 (2 ^ k) (⟨#[76]⟩ ++ itoaB k) W hW hxb (fitV_take HSV.out _) h0 (by omega) (by omega) (by omega))
                  have HST := Lib.hid hst
                  have hisz := itoaB_size k (by omega)
                  have e : ((2 : Int) ^ k) = ((2 ^ k : Nat) : Int) := by simp
                  have HW : Hid (IntKind.u64.wrap (2 ^ k) = ((2 ^ k : Nat) : Int)) := by show _ = _; rw [e, w64 _ hxb]
                  have HBW := Lib.hid hbw
                  clear hst hsx h0 hlen1 hlt1 hbw e
                  go_upto_region 21 with fail
                  refine wp_quiet_tail_lit 6 (by kernel_rfl) (by kernel_rfl) ?_
                  simp only [List.take_succ_cons, List.take_zero, List.drop_succ_cons, List.drop_zero]
                  repeat (go_big_quiet_step ((exact Calls.quiet_of_same (HI.out _))))
                  refine wpQuiet_nil ?_
                  intro _ hw'
                  obtain ⟨nq, hw''⟩ := hw'
                  subst hw''
                  rw [HW.out]
                  try simp only [Act.put, List.setIfInBounds_toArray, List.set_cons_zero, List.set_cons_succ]
                  go_wp2_with fail
                  refine (HC1.out _ (HBW.out.bl (bl_drewN (Below.refl _ _) nq))).mono ?_
                  rintro e w6 ⟨rfl, ⟨g2', c2', g3', c3', hb6, hg2', hg3'⟩, ho6, hsz6, hbl6⟩
                  rw [HST.out.1, HST.out.2] at hb6
                  have HBL6 := Lib.hid (hbl6 w (bl_drewN hbl.out nq) (Nat.le_refl _))
                  have HB6 := Lib.hid hb6
                  clear ho6 hbl6 hb6 hg2' hg3' hsz6
                  go_wp2_with fail
                  go_roundw
                  case rel => exact ⟨k + 1, by omega, by go_num, ⟨g2', c2', g3', c3', HB6.out⟩, HBL6⟩
                  case measure => simp [intOf]; omega
                · obtain rfl : k = M := by omega
                  have e3 : wr.cell? ⟨H + 1 + 1 + 1, 0, none⟩ = some (.slice (some ⟨g3, 0, none⟩) (treeN SS nm (j + k + 1)).length c3) := hbw.b3.cell 0
                  have HR3 := Lib.hid hbw.r3
                  clear hbw
                  rw [treeN_len] at e3 HR3
                  go_wp2_with fail
                  exact bodyPost_ret (v := .tuple #[.slice (some ⟨g3, 0, none⟩) (j + k + 1) c3, .bool true, .int .i64 0]) (by simp [results, Tryd.results15, go_sem]) rfl ⟨_, by rw [hbb.out, hE.out], by rw [hT2.out, treeN_len]; exact HR3.out, hbl.out⟩
  · have hcf := Lib.hid (cfV_bad h0)
    have hE : Hid (bdE L l = chkT L l) := if_pos h0
    have hbb : Hid (bdB L l = false) := by show _ = _; unfold bdB; rw [decide_eq_false h0]; rfl
    rw [hcf.out]
    obtain ⟨E, hEE⟩ : ∃ E, chkT L l = E := ⟨_, rfl⟩
    rw [hEE] at hE h0 ⊢
    have d0 : (E == 0) = false := by simp [h0]
    have d1 : (E != 0) = true := by simp [h0]
    clear hEE hcf h0
    go_wp2_with fail
    exact bodyPost_ret (v := .tuple #[.slice none 0 0, .bool false, .int .i64 E]) (by simp [results, Tryd.results15, go_sem]) rfl (bdPost_nil (b := false) hbb.out hE.out HB3.out)
end Go.Proofs.YtnabbmdhhddfbaaDoor
namespace Go.Proofs.YtnabbmdhhddfbaaDoor
open Go.RowKit Go.Shelf
theorem iA_get {l : List Int} {k : Nat} (h : k < l.length) : iA l k = l[k] := by simp [iA, h]
set_option maxRecDepth 100000 in
set_option maxHeartbeats 1000000 in
theorem indexI_any (g : Nat) (hen : Enters Tryd.prog g) (env : Array Value) (p : Int → Bool) (a : Option Addr) (N c : Nat) (l : List Int) (w : World) (hl : l.length = N) (hN : N ≤ 1152921504606846976) (hA : Rd w a (fl encI l))
    (hp : ∀ i, i < N → ∀ W, Below w.heap.size w W → Calls Tryd.prog g (#[.int .i64 (iA l i)] ++ env) W fun e w' => e = .returned (.bool (p (iA l i))) ∧ Below W.heap.size W w') :
    Calls Tryd.prog 70 #[.slice a N c, .func (.func g) #[] env] w fun e w' => e = .returned (.int .i64 (idxF p l)) ∧ Below w.heap.size w w' := by
  have HL := Lib.hid hl
  have HA := Lib.hid hA
  have HP := Lib.hid hp
  clear hl hA hp
  have hbz := Below.refl w.heap.size w
  go_enter Tryd.func70, Tryd.ntmps70
  go_wp2_with fail
  go_loopw [8, 5] (fun x _ wr => ∃ k : Nat, k ≤ N ∧ x = .int .i64 k ∧ Hid (NoneBefore p l k) ∧ Below w.heap.size w wr) (fun x _ _ => N - (intOf x).toNat)
  case atStart => exact ⟨0, by omega, rfl, NoneBefore.zero _ _, hbz⟩
  case round =>
    obtain ⟨k, hk, rfl, hnb, hbl⟩ := hrel
    clear hbz
    by_cases hlt : k < N
    · obtain ⟨b, o, rfl, hb, hc⟩ := rdI HA.out (by rw [HL.out]; omega)
      have hkl : k < l.length := by rw [HL.out]; exact hlt
      have G := (hbl.cell (p := ⟨b, o + k, none⟩) hb).trans (hc k hkl)
      have HC := Lib.hid (HP.out k hlt wr hbl)
      have HY : Hid (p (iA l k) = true → idxF p l = k) := fun e => hnb.out.found hkl (by rw [← iA_get hkl]; exact e)
      have HNX : Hid (p (iA l k) = false → NoneBefore p l (k + 1)) := fun e => hnb.out.next hkl (by rw [← iA_get hkl]; exact e)
      clear hc hkl
      generalize iA l k = z at *
      have hcall := fun args W => hen args W
      go_wp2_with fail
      refine HC.out.mono ?_
      rintro e w1 ⟨rfl, hb1⟩
      clear hcall
      have hbl1 := hbl.trans (hb1.mono hbl.size)
      rcases Bool.eq_false_or_eq_true (p z) with q | q
      · have hy := Lib.hid (HY.out q)
        rw [q]
        clear q HY HNX
        go_wp2_with fail
        go_ret
        exact ⟨by rw [hy.out]; rfl, hbl1⟩
      · have hy := Lib.hid (HNX.out q)
        rw [q]
        clear q HY HNX
        go_wp2_with fail
        go_roundw
        case rel => exact ⟨k + 1, by omega, by go_num, hy, hbl1⟩
        case measure => simp [intOf]; omega
    · have hy : Hid (idxF p l = -1) := NoneBefore.none hnb.out (by rw [HL.out]; omega)
      go_wp2_with fail
      go_ret
      exact ⟨by rw [hy.out]; rfl, hbl⟩
set_option maxHeartbeats 1000000 in
theorem containsI_any (g : Nat) (hen : Enters Tryd.prog g) (env : Array Value) (p : Int → Bool) (a : Option Addr) (N c : Nat) (l : List Int) (w : World) (hl : l.length = N) (hN : N ≤ 1152921504606846976) (hA : Rd w a (fl encI l))
    (hp : ∀ i, i < N → ∀ W, Below w.heap.size w W → Calls Tryd.prog g (#[.int .i64 (iA l i)] ++ env) W fun e w' => e = .returned (.bool (p (iA l i))) ∧ Below W.heap.size W w') :
    Calls Tryd.prog 47 #[.slice a N c, .func (.func g) #[] env] w fun e w' => e = .returned (.bool (l.any p)) ∧ Below w.heap.size w w' := by
  have H := Lib.hid (indexI_any g hen env p a N c l w hl hN hA hp)
  have hb : Hid (decide (0 ≤ idxF p l) = l.any p) := idxF_ge _ _
  clear hl hA hp hen
  go_enter Tryd.func47, Tryd.ntmps47
  go_wp2_with fail
  refine H.out.mono ?_
  rintro e w' ⟨rfl, hb1⟩
  generalize idxF p l = z at *
  go_wp2_with fail
  go_ret
  exact ⟨by rw [← hb.out]; rfl, hb1⟩
def iN (l : List Nat) : List Int := l.map fun x : Nat => (x : Int)
theorem iN_len (l : List Nat) : (iN l).length = l.length := by simp [iN]
theorem iN_snoc (l : List Nat) (x : Nat) : iN (l ++ [x]) = iN l ++ [(x : Int)] := by simp [iN]
theorem iN_get (l : List Nat) (k : Nat) : iA (iN l) k = (vA l k : Int) := by
  unfold iA iN vA
  rw [List.getD_eq_getElem?_getD, List.getD_eq_getElem?_getD, List.getElem?_map]
  cases l[k]? <;> rfl
set_option maxRecDepth 100000 in
set_option maxHeartbeats 1000000 in
theorem lg2_any (k i XT I M : Nat) (a : Option Addr) (N c : Nat) (l : List Nat) (w : World) (hl : l.length = N) (hN : N ≤ 64) (hk : k < N) (hi : i < N) (hF : FitV l) (hA : Rd w a (fl encV l)) (hT : Blk w XT #[.int .i64 M, .slice a N c] 24) (hI : Blk w I #[.int .i64 i] 3) :
    Calls Tryd.prog 48 #[.int .i64 k, .pointer (some ⟨XT, 0, none⟩), .pointer (some ⟨I, 0, none⟩)] w fun e w' => e = .returned (.bool (!fitB (vA l k) (vA l i))) ∧ ∃ n, w' = w.drewN n := by
  obtain ⟨b, o, rfl, hb, hc⟩ := rdV hA (by omega)
  have g1 := hc k (by omega)
  have g2 := hc i (by omega)
  have x1 := hF k (by omega)
  have x2 := hF i (by omega)
  have e1 : w.cell? ⟨XT, 1, none⟩ = some (.slice (some ⟨b, o, none⟩) N c) := hT.cell 1
  have e2 : w.cell? ⟨I, 0, none⟩ = some (.int .i64 i) := hI.cell 0
  have HC := Lib.hid (fun W => fits_any (vA l k) (vA l i) W x1 x2)
  clear hl hF hA hT hI hc x1 x2
  generalize vA l k = x at *
  generalize vA l i = y at *
  obtain ⟨bt, hbt⟩ : ∃ b, fitB x y = b := ⟨_, rfl⟩
  rw [hbt] at HC ⊢
  clear hbt
  go_enter Tryd.func48, Tryd.ntmps48
  go_wp2_with fail
  go_quiet ((exact Calls.quiet_of_same (HC.out _)))
  go_wp2_with fail
  go_ret
  exact ⟨rfl, _, rfl⟩
end Go.Proofs.YtnabbmdhhddfbaaDoor
namespace Go.Proofs.YtnabbmdhhddfbaaDoor
open Go Go.RowKit
/-- Behind an append the row that was appended to reads as before. -/
theorem append_keeps {P : Program} {w : World} {t ty : TypeId} {base : Nat} {e : TypeId} {i : TypeInfo} {z : Value} {size bytes : Nat} (ht : P.underlying t = some (.slice e)) (hi : P.info? e = some i) (hz : i.zero = some z)
    (hsize : i.size = size) (hby : i.bytes = bytes)
    {v : Value} {n : Nat} {xs : List Value} (hown : w.ownsRow base e size v n xs)
    {ad : Addr} {m c : Nat} {news : List Value} (hl : news.length = m * size) (hnews : ∀ j u, news[j]? = some u → w.cell? (ad.add j) = some u) (h1 : ∀ u ∈ news, u.oneCell' = true)
    (hm : 0 < m) (h63 : n + m ≤ maxLen) (hbytes : (n + m) * bytes ≤ 140737488355328) {u : Value} {w' : World} (hr : (Builtin.append_ #[t, t] ty #[v, .slice (some ad) m c]).run P w = .ok u w') : w'.ownsRow base e size v n xs := by
  subst hsize
  subst hby
  have hs : n + m ≤ 9223372036854775807 := by simp only [maxLen] at h63; omega
  rcases hown.2 with ⟨rfl, rfl⟩ | ⟨g, cap, cur, rfl, hbg, hg, hnc, hcm, hcs, htk⟩
  · have hx : xs = [] := List.eq_nil_of_length_eq_zero (by simpa using hown.1)
    subst hx
    exact World.ownsRow_nil w' base e i.size
  · by_cases hroom : n + m ≤ cap
    · have hfit : n * i.size + news.length ≤ cur.size := by rw [hl, hcs, ← Nat.add_mul]; exact Nat.mul_le_mul_right _ hroom
      have h := run_append_room (P := P) w t ty e i ht hi g n cap cur hg ad m c news hl hnews h1 hroom hfit
      rw [h] at hr
      injection hr with _ hw
      subst hw
      refine ⟨hown.1, .inr ⟨g, cap, _, rfl, hbg, setRow_heap w g cur _ e _ hg, hnc, hcm, ?_, ?_⟩⟩
      · simp only [List.size_toArray, List.length_append, List.length_take, List.length_drop, Array.length_toList]
        omega
      · simp only [List.append_assoc]
        rw [htk, ← hown.1]
        exact List.take_left
    · have h := run_append_grow (P := P) w t ty e i z ht hi hz ⟨g, 0, none⟩ n cap xs hown.1 (hown.cells (g := g) rfl) ad m c news hl hnews (by omega) (by omega) (growslice_fits (by omega) hbytes)
      rw [h] at hr
      injection hr with _ hw
      subst hw
      exact hown.drew.alloc _
theorem spush_I2 {w : World} {ops : Array Oper} {o : Oper} {a : Act} {K : Act → World → Prop} {Q : Exit → Act → World → Prop} {E : Prop} (hgd : o.guard = none) (s x : Operand) (ho : o.op = .call { callee := .builtin .append, args := #[s, x], argTypes := #[38, 38] })
    (base : Nat) (v : Value) (l : List Int) (n : Nat) (hn : n = l.length) (hs : a.eval s = v) (hown : w.ownsRow base 3 1 v n (fl encI l)) (B c : Nat) (y : Int) (hx : a.eval x = .slice (some ⟨B, 0, none⟩) 1 c) (hB : Blk w B (encI y).toArray 3) (hl : n < 8796093022208) (hbase : base ≤ w.heap.size)
    (h : ∀ g cap w', w'.ownsRow base 3 1 (.slice (some ⟨g, 0, none⟩) (n + 1) cap) (n + 1) (fl encI (l ++ [y])) → w.grownBy w' v.ownBlock → (v.ownBlock = some g ∨ g = w.heap.size) → g < w'.heap.size → w'.ownsRow base 3 1 v n (fl encI l) → K (a.put o.dst (.slice (some ⟨g, 0, none⟩) (n + 1) cap)) w') : if Region.wanted o (yielded ops a.tmps) = true then Oper.wp Tryd.prog o a w K Q else E := by
  obtain ⟨i0, hi, hz0, hz1, hz2⟩ := info_parts info_I
  have hw : Region.wanted o (yielded ops a.tmps) = true := by simp [Region.wanted, hgd]
  rw [if_pos hw]
  have hne : ∀ j u, (encI y)[j]? = some u → w.cell? ((⟨B, 0, none⟩ : Addr).add j) = some u := World.news_of_block (cs := (encI y).toArray) (t := 3) (fr := (0, 0)) hB
  have ho1 : ∀ u ∈ encI y, u.oneCell' = true := by intro u hu; simp [encI] at hu; subst hu; rfl
  obtain ⟨g, cap, w', hr, h2, h3, h4, h5⟩ := run_append_lies (P := Tryd.prog) w 38 o.type base 3 i0 _ 1 8 Tryd.underlying38 hi hz0 hz1 hz2 rfl (by decide) v n (fl encI l) hown ⟨B, 0, none⟩ 1 c (encI y) (by simp [encI]) hne ho1 (by omega) (by unfold maxLen; omega) (by omega) hbase _ rfl
  have hk := append_keeps Tryd.underlying38 hi hz0 hz1 hz2 hown (by simp [encI]) hne ho1 (by omega) (by unfold maxLen; omega) (by omega) hr
  unfold Oper.wp execOp
  simp only [ho, resolve, invoke, builtin, Sem.run_bind, Sem.run_pure, Result.andThen_ok, List.map_toArray, List.map_cons, List.map_nil, hs, hx, hr]
  rw [← fl_snoc] at h2
  exact h g cap w' h2 h3 h4 h5 hk
end Go.Proofs.YtnabbmdhhddfbaaDoor
