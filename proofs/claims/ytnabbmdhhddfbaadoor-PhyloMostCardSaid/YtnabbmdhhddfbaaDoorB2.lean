/- The tree of a table: plain; the closure that adds a node. -/
import Derived.Test.YtnabbmdhhddfbaaDoorA16
import Derived.Test.YtnabbmdhhddfbaaDoorB0
namespace Go.Proofs.YtnabbmdhhddfbaaDoor
open Go.RowKit Go.Shelf
/-- The last of the first k sets that has all of s, or -1. -/
def parZ (S : List Nat) (s : Nat) : Nat → Int
  | 0 => -1
  | k + 1 => if vA S k &&& s = s then (k : Int) else parZ S s k
theorem parZ_le (S : List Nat) (s : Nat) : ∀ k, parZ S s k < k ∧ -1 ≤ parZ S s k := by
  intro k
  induction k with
  | zero => simp [parZ]
  | succ k ih => unfold parZ; split <;> omega
/-- The sets and the nodes while the tree is built, each behind a pointer. -/
structure BldW (w : World) (base X2 X3 : Nat) (S : List Nat) (T : List Nd) (g2 c2 g3 c3 : Nat) : Prop where
  b2 : Blk w X2 #[.slice (some ⟨g2, 0, none⟩) S.length c2] 62
  b3 : Blk w X3 #[.slice (some ⟨g3, 0, none⟩) T.length c3] 27
  r2 : w.ownsRow base 61 1 (.slice (some ⟨g2, 0, none⟩) S.length c2) S.length (fl encV S)
  r3 : w.ownsRow base 60 2 (.slice (some ⟨g3, 0, none⟩) T.length c3) T.length (fl encNd T)
  d1 : g2 ≠ X2
  d2 : g2 ≠ X3
  d3 : g3 ≠ X2
  d4 : g3 ≠ X3
  d5 : g2 ≠ g3
  d6 : X2 ≠ X3
  h2 : base ≤ X2
  h3 : base ≤ X3
theorem gr_blk {w w' : World} {g : Nat} (h : w.grownBy w' (some g)) {B : Nat} {cs : Array Value} {t : TypeId} (hb : Blk w B cs t) (hne : B ≠ g) : Blk w' B cs t := hb.grown h (fun e => hne (Option.some.inj e))
theorem bld_end {w : World} {base X2 X3 : Nat} {S : List Nat} {T : List Nd} {n2 n3 g2 c2 g3 c3 : Nat} {u2 u3 : Value} (e2 : n2 = S.length) (e3 : n3 = T.length)
    (b2 : Blk w X2 #[u2] 62) (b3 : Blk w X3 #[u3] 27)
    (r2 : w.ownsRow base 61 1 (.slice (some ⟨g2, 0, none⟩) n2 c2) n2 (fl encV S)) (r3 : w.ownsRow base 60 2 (.slice (some ⟨g3, 0, none⟩) n3 c3) n3 (fl encNd T))
    (d1 : g2 ≠ X2) (d2 : g2 ≠ X3) (d3 : g3 ≠ X2) (d4 : g3 ≠ X3) (d5 : g2 ≠ g3) (d6 : X2 ≠ X3) (h2 : base ≤ X2) (h3 : base ≤ X3) :
    BldW ((w.setCell ⟨X2, 0, none⟩ (.slice (some ⟨g2, 0, none⟩) n2 c2)).setCell ⟨X3, 0, none⟩ (.slice (some ⟨g3, 0, none⟩) n3 c3)) base X2 X3 S T g2 c2 g3 c3 := by
  subst e2 e3
  have q2 := (b2.set 0 (.slice (some ⟨g2, 0, none⟩) S.length c2)).other d6 0 (.slice (some ⟨g3, 0, none⟩) T.length c3)
  have q3 := (b3.other (Ne.symm d6) 0 (.slice (some ⟨g2, 0, none⟩) S.length c2)).set 0 (.slice (some ⟨g3, 0, none⟩) T.length c3)
  refine ⟨q2, q3, ?_, ?_, d1, d2, d3, d4, d5, d6, h2, h3⟩
  · exact ownsRow_setCell_other (ownsRow_setCell_other r2 (own_ne d1) _) (own_ne d2) _
  · exact ownsRow_setCell_other (ownsRow_setCell_other r3 (own_ne d3) _) (own_ne d4) _
set_option maxRecDepth 100000 in
set_option maxHeartbeats 2000000 in
theorem bld1_any (X2 X3 base : Nat) (S : List Nat) (T : List Nd) (g2 c2 g3 c3 s : Nat) (nm : ByteArray) (w : World) (h : BldW w base X2 X3 S T g2 c2 g3 c3) (hs : s < 18446744073709551616) (hF : FitV S) (h0 : vA S 0 &&& s = s) (hl : 0 < S.length) (hS : S.length ≤ 1000) (hT : T.length ≤ 1000) :
    Calls Tryd.prog 35 #[.int .u64 s, .string nm, .pointer (some ⟨X2, 0, none⟩), .pointer (some ⟨X3, 0, none⟩)] w fun e w' => e = .returned (.tuple #[]) ∧
      (∃ g2' c2' g3' c3', BldW w' base X2 X3 (S ++ [s]) (T ++ [(parZ S s S.length, nm)]) g2' c2' g3' c3' ∧ (g2' = g2 ∨ w.heap.size ≤ g2') ∧ (g3' = g3 ∨ w.heap.size ≤ g3')) ∧ (∀ B, B < w.heap.size → B ≠ g2 → B ≠ g3 → B ≠ X2 → B ≠ X3 → w'.heap[B]? = w.heap[B]?) ∧ w.heap.size ≤ w'.heap.size ∧ (∀ a : World, Below a.heap.size a w → a.heap.size ≤ base → Below a.heap.size a w') := by
  obtain ⟨B2, B3, r2, r3, d1, d2, d3, d4, d5, d6, h2, h3⟩ := h
  have l2 := B2.lt
  have l3 := B3.lt
  have lg2 := (r2.lt g2 rfl)
  have lg3 := (r3.lt g3 rfl)
  have e2 : w.cell? ⟨X2, 0, none⟩ = some (.slice (some ⟨g2, 0, none⟩) S.length c2) := B2.cell 0
  have e3 : w.cell? ⟨X3, 0, none⟩ = some (.slice (some ⟨g3, 0, none⟩) T.length c3) := B3.cell 0
  have HR := Lib.hid (rd_of_owns r2)
  have HR2 := Lib.hid r2
  have HR3 := Lib.hid r3
  have HB2 := Lib.hid B2
  have HB3 := Lib.hid B3
  have HF := Lib.hid hF
  have H0 := Lib.hid h0
  clear r2 r3 B2 B3 hF h0
  obtain ⟨n2, hn2⟩ : ∃ n, n = S.length := ⟨_, rfl⟩
  obtain ⟨n3, hn3⟩ : ∃ n, n = T.length := ⟨_, rfl⟩
  rw [← hn2] at e2 hl hS HR2 HB2 ⊢
  rw [← hn3] at e3 hT HR3 HB3
  have HN2 := Lib.hid hn2
  have HN3 := Lib.hid hn3
  clear hn2 hn3
  go_enter Tryd.func35, Tryd.ntmps35
  go_upto_region 1 with fail
  go_loopw [6] (fun x wr => ∃ k : Nat, k < n2 ∧ x = .int .i64 k ∧ Hid (parZ S s n2 = parZ S s (k + 1)) ∧ wr = w) (fun x _ => (intOf x).toNat)
  case atStart => exact ⟨n2 - 1, by omega, by go_num, by show _ = _; rw [Nat.sub_add_cancel hl], rfl⟩
  case round =>
    obtain ⟨k, hk, rfl, hp, rfl⟩ := hrel
    obtain ⟨b, o, hbo, hb, hc⟩ := rdV HR.out (by rw [← HN2.out]; omega)
    simp only [Option.some.injEq, Addr.mk.injEq, and_true] at hbo
    obtain ⟨rfl, rfl⟩ := hbo
    have G := hc k (by rw [← HN2.out]; exact hk)
    have hx := HF.out k (by rw [← HN2.out]; exact hk)
    have hba := bits_and hx hs
    have HST : Hid (parZ S s (k + 1) = if vA S k &&& s = s then (k : Int) else parZ S s k) := rfl
    have HZ : Hid (k = 0 → vA S k &&& s = s) := fun e => by rw [e]; exact H0.out
    clear hc
    rw [Nat.zero_add] at G
    generalize vA S k = z at *
    obtain ⟨y, hy⟩ : ∃ y, z &&& s = y := ⟨_, rfl⟩
    rw [hy] at hba HST HZ
    clear hy
    by_cases q : y = s
    · have HP : Hid (parZ S s n2 = (k : Int)) := by show _ = _; rw [hp.out, HST.out, if_pos q]
      have t1 : ((y : Int) != (s : Int)) = false := by simp [q]
      have t2 : ((y : Int) == (s : Int)) = true := by simp [q]
      have t3 : decide ((y : Int) = (s : Int)) = true := by simp [q]
      clear HST HZ hp q
      go_upto_region 3 with fail
      refine wp_region_tree (S := fun w' => w'.cell? ⟨X2, 0, none⟩ = some (.slice (some ⟨g2, 0, none⟩) n2 c2) ∧ w'.cell? ⟨X3, 0, none⟩ = some (.slice (some ⟨g3, 0, none⟩) n3 c3)) 10 [0,4,1,5,6,7] (.two 2 (.two 3 (.one 8 (.one 9 .leaf)) 8 (.one 3 (.one 9 .leaf))) 8 (.one 2 (.one 3 (.one 9 .leaf)))) (by kernel_rfl) (by kernel_rfl) ⟨e2, e3⟩ ?_
      iterate 6 (refine headT_cons (by rfl) (by rfl) (by intro w hSw; obtain ⟨s0, s1⟩ := hSw; go_simp; try rfl) ?_; simp only [Act.put, List.setIfInBounds_toArray, List.set_cons_zero, List.set_cons_succ])
      refine headT_nil ?_
      obtain ⟨W0, hW0⟩ : ∃ x, x = wr.drew := ⟨_, rfl⟩
      rw [← hW0]
      have HB2_0 : Hid (Blk W0 X2 #[.slice (some ⟨g2, 0, none⟩) n2 c2] 62) := by show Blk W0 _ _ _; rw [hW0]; exact HB2.out
      have HB3_0 : Hid (Blk W0 X3 #[.slice (some ⟨g3, 0, none⟩) n3 c3] 27) := by show Blk W0 _ _ _; rw [hW0]; exact HB3.out
      have R2_0 : Hid (W0.ownsRow base 61 1 (.slice (some ⟨g2, 0, none⟩) n2 c2) n2 (fl encV S)) := by show World.ownsRow W0 _ _ _ _ _ _; rw [hW0]; exact HR2.out
      have R3_0 : Hid (W0.ownsRow base 60 2 (.slice (some ⟨g3, 0, none⟩) n3 c3) n3 (fl encNd T)) := by show World.ownsRow W0 _ _ _ _ _ _; rw [hW0]; exact HR3.out
      have HA_0 : Hid (∀ a : World, Below a.heap.size a wr → a.heap.size ≤ base → Below a.heap.size a W0) := fun a h1 _ => by rw [hW0]; exact bl_drewN h1 1
      have HO_0 : Hid (∀ B, B < wr.heap.size → B ≠ g2 → B ≠ g3 → W0.heap[B]? = wr.heap[B]?) := fun B _ _ _ => by rw [hW0]; rfl
      have s0 : wr.heap.size ≤ W0.heap.size := by rw [hW0]; exact Nat.le_refl _
      have FIN : Hid (∀ (W4 : World) (g2n c2n g3n c3n : Nat), Blk W4 X2 #[.slice (some ⟨g2, 0, none⟩) n2 c2] 62 → Blk W4 X3 #[.slice (some ⟨g3, 0, none⟩) n3 c3] 27 →
          W4.ownsRow base 61 1 (.slice (some ⟨g2n, 0, none⟩) (n2 + 1) c2n) (n2 + 1) (fl encV (S ++ [s])) → W4.ownsRow base 60 2 (.slice (some ⟨g3n, 0, none⟩) (n3 + 1) c3n) (n3 + 1) (fl encNd (T ++ [((k : Int), nm)])) →
          g2n ≠ X2 → g2n ≠ X3 → g3n ≠ X2 → g3n ≠ X3 → g2n ≠ g3n → (g2n = g2 ∨ wr.heap.size ≤ g2n) → (g3n = g3 ∨ wr.heap.size ≤ g3n) → wr.heap.size ≤ W4.heap.size → (∀ a : World, Below a.heap.size a wr → a.heap.size ≤ base → Below a.heap.size a W4) → (∀ B, B < wr.heap.size → B ≠ g2 → B ≠ g3 → W4.heap[B]? = wr.heap[B]?) →
          (∃ g2' c2' g3' c3', BldW ((W4.setCell ⟨X2, 0, none⟩ (.slice (some ⟨g2n, 0, none⟩) (n2 + 1) c2n)).setCell ⟨X3, 0, none⟩ (.slice (some ⟨g3n, 0, none⟩) (n3 + 1) c3n)) base X2 X3 (S ++ [s]) (T ++ [(parZ S s n2, nm)]) g2' c2' g3' c3' ∧ (g2' = g2 ∨ wr.heap.size ≤ g2') ∧ (g3' = g3 ∨ wr.heap.size ≤ g3')) ∧
            (∀ B, B < wr.heap.size → B ≠ g2 → B ≠ g3 → B ≠ X2 → B ≠ X3 → ((W4.setCell ⟨X2, 0, none⟩ (.slice (some ⟨g2n, 0, none⟩) (n2 + 1) c2n)).setCell ⟨X3, 0, none⟩ (.slice (some ⟨g3n, 0, none⟩) (n3 + 1) c3n)).heap[B]? = wr.heap[B]?) ∧ wr.heap.size ≤ ((W4.setCell ⟨X2, 0, none⟩ (.slice (some ⟨g2n, 0, none⟩) (n2 + 1) c2n)).setCell ⟨X3, 0, none⟩ (.slice (some ⟨g3n, 0, none⟩) (n3 + 1) c3n)).heap.size ∧
            (∀ a : World, Below a.heap.size a wr → a.heap.size ≤ base → Below a.heap.size a ((W4.setCell ⟨X2, 0, none⟩ (.slice (some ⟨g2n, 0, none⟩) (n2 + 1) c2n)).setCell ⟨X3, 0, none⟩ (.slice (some ⟨g3n, 0, none⟩) (n3 + 1) c3n)))) := by
        intro W4 g2n c2n g3n c3n b1 b2 o1 o2 x1 x2 x3 x4 x5 y2 y3 zs ha ho
        refine ⟨⟨g2n, c2n, g3n, c3n, ?_, y2, y3⟩, fun B q1 q2 q3 q4 q5 => ((Below.heap_setCell _ _ _ B q5).trans (Below.heap_setCell _ _ _ B q4)).trans (ho B q1 q2 q3), by simp [World.setCell]; exact zs, fun a q1 q2 => bl_set (bl_set (ha a q1 q2) _ _ _ _ (by omega)) _ _ _ _ (by omega)⟩
        rw [HP.out]
        exact bld_end (by rw [HN2.out]; simp) (by rw [HN3.out]; simp) b1 b2 o1 o2 x1 x2 x3 x4 x5 d6 h2 h3
      clear hW0 HB2 HB3 HR2 HR3
      refine midG_two ?_ ?_
      · refine midG_one (by rfl) (fun K hK => ?_)
        rw [if_pos (by rfl)]
        go_simp
        have s1 : W0.heap.size + 1 = (W0.alloc (.cells #[.int .u64 s] 61)).heap.size := by simp
        have HB2_1 := Lib.hid (HB2_0.out.alloc (.cells #[.int .u64 s] 61))
        have HB3_1 := Lib.hid (HB3_0.out.alloc (.cells #[.int .u64 s] 61))
        have R2_1 := Lib.hid (R2_0.out.alloc (.cells #[.int .u64 s] 61))
        have R3_1 := Lib.hid (R3_0.out.alloc (.cells #[.int .u64 s] 61))
        have N2_1 := Lib.hid (Blk.new W0 #[.int .u64 s] 61)
        have HA_1 : Hid (∀ a : World, Below a.heap.size a wr → a.heap.size ≤ base → Below a.heap.size a (W0.alloc (.cells #[.int .u64 s] 61))) := fun a h1 h2 => bl_alloc (HA_0.out a h1 h2) _
        have HO_1 : Hid (∀ B, B < wr.heap.size → B ≠ g2 → B ≠ g3 → (W0.alloc (.cells #[.int .u64 s] 61)).heap[B]? = wr.heap[B]?) := fun B q1 q2 q3 => (Below.heap_alloc W0 _ B (by omega)).trans (HO_0.out B q1 q2 q3)
        obtain ⟨W1, hW1⟩ : ∃ x, x = W0.alloc (.cells #[.int .u64 s] 61) := ⟨_, rfl⟩
        obtain ⟨M2, hM2⟩ : ∃ x, x = W0.heap.size := ⟨_, rfl⟩
        rw [← hW1] at s1 HB2_1 HB3_1 R2_1 R3_1 N2_1 HA_1 HO_1 ⊢
        rw [← hM2] at N2_1 ⊢
        have HM2 := Lib.hid hM2
        clear hW1 hM2
        refine hK.out _ _ ⟨HB2_1.out.cell 0, HB3_1.out.cell 0⟩ (fun _ => ?_)
        clear hK K
        try simp only [Act.put, List.setIfInBounds_toArray, List.set_cons_zero, List.set_cons_succ]
        refine midG_two ?_ ?_
        · refine midG_one (by rfl) (fun K hK => ?_)
          refine spush_G rfl (.tmp 20) (.tmp 22) rfl base (.slice (some ⟨g2, 0, none⟩) n2 c2) S n2 HN2.out rfl R2_1.out _ _ s rfl N2_1.out (by omega) (by omega) ?_
          intro g2n c2n W2 h1 h2 h3 h4
          have s2 := h2.size
          have HB2_2 := Lib.hid (gr_blk h2 HB2_1.out (Ne.symm d1))
          have HB3_2 := Lib.hid (gr_blk h2 HB3_1.out (Ne.symm d2))
          have R3_2 := Lib.hid (R3_1.out.kept h2 (.inr (own_ne (Ne.symm d5))))
          have R2_2 := Lib.hid h1
          have HA_2 : Hid (∀ a : World, Below a.heap.size a wr → a.heap.size ≤ base → Below a.heap.size a W2) := fun a q1 q2 => bl_grown (HA_1.out a q1 q2) h2 (fun r hr => by have := Option.some.inj (show some g2 = some r from hr); omega)
          have HO_2 : Hid (∀ B, B < wr.heap.size → B ≠ g2 → B ≠ g3 → W2.heap[B]? = wr.heap[B]?) := fun B q1 q2 q3 => (h2.block B (by omega) (fun e => q2 (Option.some.inj (show some B = some g2 from e)))).trans (HO_1.out B q1 q2 q3)
          have D2 : (g2n = g2 ∨ g2n = W1.heap.size) ∧ g2n < W2.heap.size := ⟨h3.imp (fun e => (Option.some.inj (show some g2 = some g2n from e)).symm) id, h4⟩
          clear h1 h2 h3 h4
          refine hK.out _ _ ⟨HB2_2.out.cell 0, HB3_2.out.cell 0⟩ (fun _ => ?_)
          clear hK K
          try simp only [Act.put, List.setIfInBounds_toArray, List.set_cons_zero, List.set_cons_succ]
          refine midG_one (by rfl) (fun K hK => ?_)
          rw [if_pos (by rfl)]
          go_simp
          have s3 : W2.heap.size + 1 = (W2.alloc (.cells #[.int .i64 k, .string nm] 60)).heap.size := by simp
          have HB2_3 := Lib.hid (HB2_2.out.alloc (.cells #[.int .i64 k, .string nm] 60))
          have HB3_3 := Lib.hid (HB3_2.out.alloc (.cells #[.int .i64 k, .string nm] 60))
          have R2_3 := Lib.hid (R2_2.out.alloc (.cells #[.int .i64 k, .string nm] 60))
          have R3_3 := Lib.hid (R3_2.out.alloc (.cells #[.int .i64 k, .string nm] 60))
          have N3_3 := Lib.hid (Blk.new W2 #[.int .i64 k, .string nm] 60)
          have HA_3 : Hid (∀ a : World, Below a.heap.size a wr → a.heap.size ≤ base → Below a.heap.size a (W2.alloc (.cells #[.int .i64 k, .string nm] 60))) := fun a h1 h2 => bl_alloc (HA_2.out a h1 h2) _
          have HO_3 : Hid (∀ B, B < wr.heap.size → B ≠ g2 → B ≠ g3 → (W2.alloc (.cells #[.int .i64 k, .string nm] 60)).heap[B]? = wr.heap[B]?) := fun B q1 q2 q3 => (Below.heap_alloc W2 _ B (by omega)).trans (HO_2.out B q1 q2 q3)
          obtain ⟨W3, hW3⟩ : ∃ x, x = W2.alloc (.cells #[.int .i64 k, .string nm] 60) := ⟨_, rfl⟩
          obtain ⟨M3, hM3⟩ : ∃ x, x = W2.heap.size := ⟨_, rfl⟩
          rw [← hW3] at s3 HB2_3 HB3_3 R2_3 R3_3 N3_3 HA_3 HO_3 ⊢
          rw [← hM3] at N3_3 ⊢
          have HM3 := Lib.hid hM3
          clear hW3 hM3
          refine hK.out _ _ ⟨HB2_3.out.cell 0, HB3_3.out.cell 0⟩ (fun _ => ?_)
          clear hK K
          try simp only [Act.put, List.setIfInBounds_toArray, List.set_cons_zero, List.set_cons_succ]
          refine midG_one (by rfl) (fun K hK => ?_)
          refine spush_Nd rfl (.tmp 24) (.tmp 28) rfl base (.slice (some ⟨g3, 0, none⟩) n3 c3) T n3 HN3.out rfl R3_3.out _ _ ((k : Int), nm) rfl N3_3.out (by omega) (by omega) ?_
          intro g3n c3n W4 h1 h2 h3 h4
          have HB2_4 := Lib.hid (gr_blk h2 HB2_3.out (Ne.symm d3))
          have HB3_4 := Lib.hid (gr_blk h2 HB3_3.out (Ne.symm d4))
          have E2n : g2n ≠ g3 := by omega
          have R2_4 := Lib.hid (R2_3.out.kept h2 (.inr (own_ne E2n)))
          have R3_4 := Lib.hid h1
          have HA_4 : Hid (∀ a : World, Below a.heap.size a wr → a.heap.size ≤ base → Below a.heap.size a W4) := fun a q1 q2 => bl_grown (HA_3.out a q1 q2) h2 (fun r hr => by have := Option.some.inj (show some g3 = some r from hr); omega)
          have HO_4 : Hid (∀ B, B < wr.heap.size → B ≠ g2 → B ≠ g3 → W4.heap[B]? = wr.heap[B]?) := fun B q1 q2 q3 => (h2.block B (by omega) (fun e => q3 (Option.some.inj (show some B = some g3 from e)))).trans (HO_3.out B q1 q2 q3)
          have s4 := h2.size
          have D3 : g3n = g3 ∨ g3n = W3.heap.size := h3.imp (fun e => (Option.some.inj (show some g3 = some g3n from e)).symm) id
          clear h1 h2 h3 h4
          refine hK.out _ _ ⟨HB2_4.out.cell 0, HB3_4.out.cell 0⟩ (fun _ => ?_)
          clear hK K
          try simp only [Act.put, List.setIfInBounds_toArray, List.set_cons_zero, List.set_cons_succ]
          refine midG_leaf ?_
          have q2 : W4.cell? ⟨X2, 0, none⟩ = some (.slice (some ⟨g2, 0, none⟩) n2 c2) := HB2_4.out.cell 0
          have q3 : W4.cell? ⟨X3, 0, none⟩ = some (.slice (some ⟨g3, 0, none⟩) n3 c3) := HB3_4.out.cell 0
          have f2 : W4.frozen? ⟨X2, 0, none⟩ = false := HB2_4.out.free 0
          have f3 : W4.frozen? ⟨X3, 0, none⟩ = false := HB3_4.out.free 0
          clear e2 e3 G
          simp only [List.drop_succ_cons, List.drop_zero]
          go_wp2_with fail
          refine NoPanic.normal ?_
          go_wp2_with fail
          go_end0
          exact ⟨rfl, FIN.out W4 g2n c2n g3n c3n HB2_4.out HB3_4.out R2_4.out R3_4.out (by omega) (by omega) (by omega) (by omega) (by omega) (by omega) (by omega) (by omega) HA_4.out HO_4.out⟩
        · refine midG_one (by rfl) (fun K hK => ?_)
          rw [if_pos (by rfl)]
          go_simp
          have s2 : W1.heap.size + 1 = (W1.alloc (.cells #[.int .i64 k, .string nm] 60)).heap.size := by simp
          have HB2_2 := Lib.hid (HB2_1.out.alloc (.cells #[.int .i64 k, .string nm] 60))
          have HB3_2 := Lib.hid (HB3_1.out.alloc (.cells #[.int .i64 k, .string nm] 60))
          have R2_2 := Lib.hid (R2_1.out.alloc (.cells #[.int .i64 k, .string nm] 60))
          have R3_2 := Lib.hid (R3_1.out.alloc (.cells #[.int .i64 k, .string nm] 60))
          have N2_2 := Lib.hid (N2_1.out.alloc (.cells #[.int .i64 k, .string nm] 60))
          have N3_2 := Lib.hid (Blk.new W1 #[.int .i64 k, .string nm] 60)
          have HA_2 : Hid (∀ a : World, Below a.heap.size a wr → a.heap.size ≤ base → Below a.heap.size a (W1.alloc (.cells #[.int .i64 k, .string nm] 60))) := fun a h1 h2 => bl_alloc (HA_1.out a h1 h2) _
          have HO_2 : Hid (∀ B, B < wr.heap.size → B ≠ g2 → B ≠ g3 → (W1.alloc (.cells #[.int .i64 k, .string nm] 60)).heap[B]? = wr.heap[B]?) := fun B q1 q2 q3 => (Below.heap_alloc W1 _ B (by omega)).trans (HO_1.out B q1 q2 q3)
          obtain ⟨W2, hW2⟩ : ∃ x, x = W1.alloc (.cells #[.int .i64 k, .string nm] 60) := ⟨_, rfl⟩
          obtain ⟨M3, hM3⟩ : ∃ x, x = W1.heap.size := ⟨_, rfl⟩
          rw [← hW2] at s2 HB2_2 HB3_2 R2_2 R3_2 N3_2 HA_2 HO_2 N2_2 ⊢
          rw [← hM3] at N3_2 ⊢
          have HM3 := Lib.hid hM3
          clear hW2 hM3
          refine hK.out _ _ ⟨HB2_2.out.cell 0, HB3_2.out.cell 0⟩ (fun _ => ?_)
          clear hK K
          try simp only [Act.put, List.setIfInBounds_toArray, List.set_cons_zero, List.set_cons_succ]
          refine midG_one (by rfl) (fun K hK => ?_)
          refine spush_G rfl (.tmp 20) (.tmp 22) rfl base (.slice (some ⟨g2, 0, none⟩) n2 c2) S n2 HN2.out rfl R2_2.out _ _ s rfl N2_2.out (by omega) (by omega) ?_
          intro g2n c2n W3 h1 h2 h3 h4
          have s3 := h2.size
          have HB2_3 := Lib.hid (gr_blk h2 HB2_2.out (Ne.symm d1))
          have HB3_3 := Lib.hid (gr_blk h2 HB3_2.out (Ne.symm d2))
          have R3_3 := Lib.hid (R3_2.out.kept h2 (.inr (own_ne (Ne.symm d5))))
          have N3_3 := Lib.hid (gr_blk (g := g2) h2 N3_2.out (by have := HM3.out; omega))
          have R2_3 := Lib.hid h1
          have HA_3 : Hid (∀ a : World, Below a.heap.size a wr → a.heap.size ≤ base → Below a.heap.size a W3) := fun a q1 q2 => bl_grown (HA_2.out a q1 q2) h2 (fun r hr => by have := Option.some.inj (show some g2 = some r from hr); omega)
          have HO_3 : Hid (∀ B, B < wr.heap.size → B ≠ g2 → B ≠ g3 → W3.heap[B]? = wr.heap[B]?) := fun B q1 q2 q3 => (h2.block B (by omega) (fun e => q2 (Option.some.inj (show some B = some g2 from e)))).trans (HO_2.out B q1 q2 q3)
          have D2 : (g2n = g2 ∨ g2n = W2.heap.size) ∧ g2n < W3.heap.size := ⟨h3.imp (fun e => (Option.some.inj (show some g2 = some g2n from e)).symm) id, h4⟩
          clear h1 h2 h3 h4
          refine hK.out _ _ ⟨HB2_3.out.cell 0, HB3_3.out.cell 0⟩ (fun _ => ?_)
          clear hK K
          try simp only [Act.put, List.setIfInBounds_toArray, List.set_cons_zero, List.set_cons_succ]
          refine midG_one (by rfl) (fun K hK => ?_)
          refine spush_Nd rfl (.tmp 24) (.tmp 28) rfl base (.slice (some ⟨g3, 0, none⟩) n3 c3) T n3 HN3.out rfl R3_3.out _ _ ((k : Int), nm) rfl N3_3.out (by omega) (by omega) ?_
          intro g3n c3n W4 h1 h2 h3 h4
          have HB2_4 := Lib.hid (gr_blk h2 HB2_3.out (Ne.symm d3))
          have HB3_4 := Lib.hid (gr_blk h2 HB3_3.out (Ne.symm d4))
          have E2n : g2n ≠ g3 := by omega
          have R2_4 := Lib.hid (R2_3.out.kept h2 (.inr (own_ne E2n)))
          have R3_4 := Lib.hid h1
          have HA_4 : Hid (∀ a : World, Below a.heap.size a wr → a.heap.size ≤ base → Below a.heap.size a W4) := fun a q1 q2 => bl_grown (HA_3.out a q1 q2) h2 (fun r hr => by have := Option.some.inj (show some g3 = some r from hr); omega)
          have HO_4 : Hid (∀ B, B < wr.heap.size → B ≠ g2 → B ≠ g3 → W4.heap[B]? = wr.heap[B]?) := fun B q1 q2 q3 => (h2.block B (by omega) (fun e => q3 (Option.some.inj (show some B = some g3 from e)))).trans (HO_3.out B q1 q2 q3)
          have s4 := h2.size
          have D3 : g3n = g3 ∨ g3n = W3.heap.size := h3.imp (fun e => (Option.some.inj (show some g3 = some g3n from e)).symm) id
          clear h1 h2 h3 h4
          refine hK.out _ _ ⟨HB2_4.out.cell 0, HB3_4.out.cell 0⟩ (fun _ => ?_)
          clear hK K
          try simp only [Act.put, List.setIfInBounds_toArray, List.set_cons_zero, List.set_cons_succ]
          refine midG_leaf ?_
          have q2 : W4.cell? ⟨X2, 0, none⟩ = some (.slice (some ⟨g2, 0, none⟩) n2 c2) := HB2_4.out.cell 0
          have q3 : W4.cell? ⟨X3, 0, none⟩ = some (.slice (some ⟨g3, 0, none⟩) n3 c3) := HB3_4.out.cell 0
          have f2 : W4.frozen? ⟨X2, 0, none⟩ = false := HB2_4.out.free 0
          have f3 : W4.frozen? ⟨X3, 0, none⟩ = false := HB3_4.out.free 0
          clear e2 e3 G
          simp only [List.drop_succ_cons, List.drop_zero]
          go_wp2_with fail
          refine NoPanic.normal ?_
          go_wp2_with fail
          go_end0
          exact ⟨rfl, FIN.out W4 g2n c2n g3n c3n HB2_4.out HB3_4.out R2_4.out R3_4.out (by omega) (by omega) (by omega) (by omega) (by omega) (by omega) (by omega) (by omega) HA_4.out HO_4.out⟩
      · refine midG_one (by rfl) (fun K hK => ?_)
        rw [if_pos (by rfl)]
        go_simp
        have s1 : W0.heap.size + 1 = (W0.alloc (.cells #[.int .i64 k, .string nm] 60)).heap.size := by simp
        have HB2_1 := Lib.hid (HB2_0.out.alloc (.cells #[.int .i64 k, .string nm] 60))
        have HB3_1 := Lib.hid (HB3_0.out.alloc (.cells #[.int .i64 k, .string nm] 60))
        have R2_1 := Lib.hid (R2_0.out.alloc (.cells #[.int .i64 k, .string nm] 60))
        have R3_1 := Lib.hid (R3_0.out.alloc (.cells #[.int .i64 k, .string nm] 60))
        have N3_1 := Lib.hid (Blk.new W0 #[.int .i64 k, .string nm] 60)
        have HA_1 : Hid (∀ a : World, Below a.heap.size a wr → a.heap.size ≤ base → Below a.heap.size a (W0.alloc (.cells #[.int .i64 k, .string nm] 60))) := fun a h1 h2 => bl_alloc (HA_0.out a h1 h2) _
        have HO_1 : Hid (∀ B, B < wr.heap.size → B ≠ g2 → B ≠ g3 → (W0.alloc (.cells #[.int .i64 k, .string nm] 60)).heap[B]? = wr.heap[B]?) := fun B q1 q2 q3 => (Below.heap_alloc W0 _ B (by omega)).trans (HO_0.out B q1 q2 q3)
        obtain ⟨W1, hW1⟩ : ∃ x, x = W0.alloc (.cells #[.int .i64 k, .string nm] 60) := ⟨_, rfl⟩
        obtain ⟨M3, hM3⟩ : ∃ x, x = W0.heap.size := ⟨_, rfl⟩
        rw [← hW1] at s1 HB2_1 HB3_1 R2_1 R3_1 N3_1 HA_1 HO_1 ⊢
        rw [← hM3] at N3_1 ⊢
        have HM3 := Lib.hid hM3
        clear hW1 hM3
        refine hK.out _ _ ⟨HB2_1.out.cell 0, HB3_1.out.cell 0⟩ (fun _ => ?_)
        clear hK K
        try simp only [Act.put, List.setIfInBounds_toArray, List.set_cons_zero, List.set_cons_succ]
        refine midG_one (by rfl) (fun K hK => ?_)
        rw [if_pos (by rfl)]
        go_simp
        have s2 : W1.heap.size + 1 = (W1.alloc (.cells #[.int .u64 s] 61)).heap.size := by simp
        have HB2_2 := Lib.hid (HB2_1.out.alloc (.cells #[.int .u64 s] 61))
        have HB3_2 := Lib.hid (HB3_1.out.alloc (.cells #[.int .u64 s] 61))
        have R2_2 := Lib.hid (R2_1.out.alloc (.cells #[.int .u64 s] 61))
        have R3_2 := Lib.hid (R3_1.out.alloc (.cells #[.int .u64 s] 61))
        have N3_2 := Lib.hid (N3_1.out.alloc (.cells #[.int .u64 s] 61))
        have N2_2 := Lib.hid (Blk.new W1 #[.int .u64 s] 61)
        have HA_2 : Hid (∀ a : World, Below a.heap.size a wr → a.heap.size ≤ base → Below a.heap.size a (W1.alloc (.cells #[.int .u64 s] 61))) := fun a h1 h2 => bl_alloc (HA_1.out a h1 h2) _
        have HO_2 : Hid (∀ B, B < wr.heap.size → B ≠ g2 → B ≠ g3 → (W1.alloc (.cells #[.int .u64 s] 61)).heap[B]? = wr.heap[B]?) := fun B q1 q2 q3 => (Below.heap_alloc W1 _ B (by omega)).trans (HO_1.out B q1 q2 q3)
        obtain ⟨W2, hW2⟩ : ∃ x, x = W1.alloc (.cells #[.int .u64 s] 61) := ⟨_, rfl⟩
        obtain ⟨M2, hM2⟩ : ∃ x, x = W1.heap.size := ⟨_, rfl⟩
        rw [← hW2] at s2 HB2_2 HB3_2 R2_2 R3_2 N2_2 HA_2 HO_2 N3_2 ⊢
        rw [← hM2] at N2_2 ⊢
        have HM2 := Lib.hid hM2
        clear hW2 hM2
        refine hK.out _ _ ⟨HB2_2.out.cell 0, HB3_2.out.cell 0⟩ (fun _ => ?_)
        clear hK K
        try simp only [Act.put, List.setIfInBounds_toArray, List.set_cons_zero, List.set_cons_succ]
        refine midG_one (by rfl) (fun K hK => ?_)
        refine spush_G rfl (.tmp 20) (.tmp 22) rfl base (.slice (some ⟨g2, 0, none⟩) n2 c2) S n2 HN2.out rfl R2_2.out _ _ s rfl N2_2.out (by omega) (by omega) ?_
        intro g2n c2n W3 h1 h2 h3 h4
        have s3 := h2.size
        have HB2_3 := Lib.hid (gr_blk h2 HB2_2.out (Ne.symm d1))
        have HB3_3 := Lib.hid (gr_blk h2 HB3_2.out (Ne.symm d2))
        have R3_3 := Lib.hid (R3_2.out.kept h2 (.inr (own_ne (Ne.symm d5))))
        have N3_3 := Lib.hid (gr_blk (g := g2) h2 N3_2.out (by have := HM3.out; omega))
        have R2_3 := Lib.hid h1
        have HA_3 : Hid (∀ a : World, Below a.heap.size a wr → a.heap.size ≤ base → Below a.heap.size a W3) := fun a q1 q2 => bl_grown (HA_2.out a q1 q2) h2 (fun r hr => by have := Option.some.inj (show some g2 = some r from hr); omega)
        have HO_3 : Hid (∀ B, B < wr.heap.size → B ≠ g2 → B ≠ g3 → W3.heap[B]? = wr.heap[B]?) := fun B q1 q2 q3 => (h2.block B (by omega) (fun e => q2 (Option.some.inj (show some B = some g2 from e)))).trans (HO_2.out B q1 q2 q3)
        have D2 : (g2n = g2 ∨ g2n = W2.heap.size) ∧ g2n < W3.heap.size := ⟨h3.imp (fun e => (Option.some.inj (show some g2 = some g2n from e)).symm) id, h4⟩
        clear h1 h2 h3 h4
        refine hK.out _ _ ⟨HB2_3.out.cell 0, HB3_3.out.cell 0⟩ (fun _ => ?_)
        clear hK K
        try simp only [Act.put, List.setIfInBounds_toArray, List.set_cons_zero, List.set_cons_succ]
        refine midG_one (by rfl) (fun K hK => ?_)
        refine spush_Nd rfl (.tmp 24) (.tmp 28) rfl base (.slice (some ⟨g3, 0, none⟩) n3 c3) T n3 HN3.out rfl R3_3.out _ _ ((k : Int), nm) rfl N3_3.out (by omega) (by omega) ?_
        intro g3n c3n W4 h1 h2 h3 h4
        have HB2_4 := Lib.hid (gr_blk h2 HB2_3.out (Ne.symm d3))
        have HB3_4 := Lib.hid (gr_blk h2 HB3_3.out (Ne.symm d4))
        have E2n : g2n ≠ g3 := by omega
        have R2_4 := Lib.hid (R2_3.out.kept h2 (.inr (own_ne E2n)))
        have R3_4 := Lib.hid h1
        have HA_4 : Hid (∀ a : World, Below a.heap.size a wr → a.heap.size ≤ base → Below a.heap.size a W4) := fun a q1 q2 => bl_grown (HA_3.out a q1 q2) h2 (fun r hr => by have := Option.some.inj (show some g3 = some r from hr); omega)
        have HO_4 : Hid (∀ B, B < wr.heap.size → B ≠ g2 → B ≠ g3 → W4.heap[B]? = wr.heap[B]?) := fun B q1 q2 q3 => (h2.block B (by omega) (fun e => q3 (Option.some.inj (show some B = some g3 from e)))).trans (HO_3.out B q1 q2 q3)
        have s4 := h2.size
        have D3 : g3n = g3 ∨ g3n = W3.heap.size := h3.imp (fun e => (Option.some.inj (show some g3 = some g3n from e)).symm) id
        clear h1 h2 h3 h4
        refine hK.out _ _ ⟨HB2_4.out.cell 0, HB3_4.out.cell 0⟩ (fun _ => ?_)
        clear hK K
        try simp only [Act.put, List.setIfInBounds_toArray, List.set_cons_zero, List.set_cons_succ]
        refine midG_leaf ?_
        have q2 : W4.cell? ⟨X2, 0, none⟩ = some (.slice (some ⟨g2, 0, none⟩) n2 c2) := HB2_4.out.cell 0
        have q3 : W4.cell? ⟨X3, 0, none⟩ = some (.slice (some ⟨g3, 0, none⟩) n3 c3) := HB3_4.out.cell 0
        have f2 : W4.frozen? ⟨X2, 0, none⟩ = false := HB2_4.out.free 0
        have f3 : W4.frozen? ⟨X3, 0, none⟩ = false := HB3_4.out.free 0
        clear e2 e3 G
        simp only [List.drop_succ_cons, List.drop_zero]
        go_wp2_with fail
        refine NoPanic.normal ?_
        go_wp2_with fail
        go_end0
        exact ⟨rfl, FIN.out W4 g2n c2n g3n c3n HB2_4.out HB3_4.out R2_4.out R3_4.out (by omega) (by omega) (by omega) (by omega) (by omega) (by omega) (by omega) (by omega) HA_4.out HO_4.out⟩
    · have HP : Hid (parZ S s n2 = parZ S s k) := by show _ = _; rw [hp.out, HST.out, if_neg q]
      have hk0 : 0 < k := by
        by_cases e : k = 0
        · exact absurd (HZ.out e) q
        · omega
      have t1 : ((y : Int) != (s : Int)) = true := by simp; omega
      have t2 : ((y : Int) == (s : Int)) = false := by simp; omega
      have t3 : decide ((y : Int) = (s : Int)) = false := by simp; omega
      clear HST HZ hp q
      go_wp2_with fail
      go_roundw
      case rel => exact ⟨k - 1, by omega, by go_num, by rw [Nat.sub_add_cancel hk0]; exact HP, by trivial⟩
      case measure => simp [intOf]; omega
end Go.Proofs.YtnabbmdhhddfbaaDoor
