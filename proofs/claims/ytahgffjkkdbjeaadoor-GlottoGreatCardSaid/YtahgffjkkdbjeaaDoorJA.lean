/- glotto.Joined's closure: what a merge joins is noted. -/
import Derived.Test.YtahgffjkkdbjeaaDoorPJ
import Derived.Test.YtahgffjkkdbjeaaDoorZB
import Derived.Test.YtahgffjkkdbjeaaDoorRP
import Derived.Test.YtahgffjkkdbjeaaDoorZ2
namespace Go.Proofs.YtahgffjkkdbjeaaDoor
open Go.RowKit
/-- A world that differs in two blocks alone, and in what is new. -/
structure But2 (g1 g2 : Nat) (w w' : World) : Prop where
  os : w'.os = w.os
  tape : w'.tape = w.tape
  output : w'.output = w.output
  size : w.heap.size ≤ w'.heap.size
  block : ∀ k, k < w.heap.size → k ≠ g1 → k ≠ g2 → w'.heap[k]? = w.heap[k]?
section
variable {g1 g2 : Nat} {a b c : World}
theorem But2.refl (g1 g2 : Nat) (w : World) : But2 g1 g2 w w := ⟨rfl, rfl, rfl, Nat.le_refl _, fun _ _ _ _ => rfl⟩
theorem But2.of_below (h : Below a.heap.size a b) : But2 g1 g2 a b := ⟨h.os, h.tape, h.output, h.size, fun k hk _ _ => h.block k hk⟩
theorem But2.trans (h : But2 g1 g2 a b) (k : But2 g1 g2 b c) : But2 g1 g2 a c :=
  ⟨k.os.trans h.os, k.tape.trans h.tape, k.output.trans h.output, Nat.le_trans h.size k.size, fun i hi h1 h2 => (k.block i (Nat.lt_of_lt_of_le hi h.size) h1 h2).trans (h.block i hi h1 h2)⟩
theorem But2.drewN (h : But2 g1 g2 a b) (n : Nat) : But2 g1 g2 a (b.drewN n) := ⟨h.os, h.tape, h.output, h.size, h.block⟩
theorem But2.set1 (h : But2 g1 g2 a b) (o : Nat) (v : Value) : But2 g1 g2 a (b.setCell ⟨g1, o, none⟩ v) :=
  ⟨h.os, h.tape, h.output, by simpa [World.setCell] using h.size, fun k hk h1 h2 => (Below.heap_setCell b ⟨g1, o, none⟩ v k h1).trans (h.block k hk h1 h2)⟩
theorem But2.set2 (h : But2 g1 g2 a b) (o : Nat) (v : Value) : But2 g1 g2 a (b.setCell ⟨g2, o, none⟩ v) :=
  ⟨h.os, h.tape, h.output, by simpa [World.setCell] using h.size, fun k hk h1 h2 => (Below.heap_setCell b ⟨g2, o, none⟩ v k h2).trans (h.block k hk h1 h2)⟩
theorem But2.blk {B : Nat} {cs : Array Value} {t : TypeId} (h : But2 g1 g2 a b) (hb : Blk a B cs t) (n1 : B ≠ g1) (n2 : B ≠ g2) : Blk b B cs t := (h.block B hb.lt n1 n2).trans hb
theorem But2.below {B : Nat} (h : But2 g1 g2 a b) (hB : B ≤ a.heap.size) (h1 : B ≤ g1) (h2 : B ≤ g2) : Below B a b := ⟨h.os, h.tape, h.output, h.size, fun k hk => h.block k (by omega) (by omega) (by omega)⟩
end
theorem but_grown {g : Nat} {a b : World} (h : But g a b) : a.grownBy b (some g) := ⟨h.os, h.tape, h.output, h.size, fun k hk hne => h.block k hk (fun e => hne (by rw [e]))⟩
def lsC (f : Nat → Nat) (i : Nat) : Value := .int .i64 (f i)
/-- What the closure has: the merges, how many languages, the table of least languages, the table of heights. -/
structure JnJ (w0 : World) (Bc LB NB SB OB g1 g2 : Nat) (a : Option Addr) (N c n M : Nat) (l : List Mg) (k : Nat) (W : World) : Prop where
  lbox : Blk W LB #[.slice a N c] 36
  nbox : Blk W NB #[.int .i64 n] 3
  sbox : Blk W SB #[.slice (some ⟨g1, 0, none⟩) n n] 29
  obox : Blk W OB #[.slice (some ⟨g2, 0, none⟩) M M] 22
  least : Blk W g1 (ofF n (lsC (lsK l k))) 3
  out : FF W w0.heap.size g2 M M (jnF l k n)
  rd : Rd w0 a (fl encMg l)
  bl : Below w0.heap.size w0 W
  ne : Bc ≠ LB ∧ Bc ≠ NB ∧ Bc ≠ SB ∧ Bc ≠ OB ∧ Bc ≠ g1 ∧ Bc ≠ g2 ∧ g1 ≠ g2 ∧ LB ≠ g1 ∧ NB ≠ g1 ∧ SB ≠ g1 ∧ OB ≠ g1 ∧ LB ≠ g2 ∧ NB ≠ g2 ∧ SB ≠ g2 ∧ OB ≠ g2 ∧ w0.heap.size ≤ g1 ∧ w0.heap.size ≤ g2 ∧ w0.heap.size ≤ Bc
theorem FF.other {w : World} {base g cap N b : Nat} {h : Nat → Fr} (hf : FF w base g cap N h) (o : Nat) (u : Value) (hne : g ≠ b) : FF (w.setCell ⟨b, o, none⟩ u) base g cap N h :=
  World.ownsRow.kept hf ⟨rfl, rfl, rfl, by simp [World.setCell], fun k _ hne' => Below.heap_setCell w ⟨b, o, none⟩ u k (fun e => hne' (by rw [e]))⟩ (.inr (by simp [Value.ownBlock, hne]))
theorem JnJ.stays {w0 W W' : World} {Bc LB NB SB OB g1 g2 : Nat} {a : Option Addr} {N c n M : Nat} {l : List Mg} {k : Nat} (h : JnJ w0 Bc LB NB SB OB g1 g2 a N c n M l k W) (hb : But Bc W W') : JnJ w0 Bc LB NB SB OB g1 g2 a N c n M l k W' := by
  obtain ⟨n1, n2, n3, n4, n5, n6, n7, n8, n9, n10, n11, n12, n13, n14, n15, n16, n17, n18⟩ := h.ne
  exact ⟨hb.blk h.lbox n1.symm, hb.blk h.nbox n2.symm, hb.blk h.sbox n3.symm, hb.blk h.obox n4.symm, hb.blk h.least n5.symm, World.ownsRow.kept h.out (but_grown hb) (.inr (by simp [Value.ownBlock]; exact n6.symm)), h.rd, h.bl.trans (hb.below h.bl.size n18), h.ne⟩
theorem ff_kind {w : World} {base g cap N : Nat} {h : Nat → Fr} (hf : FF w base g cap N h) : ∃ cur, w.heap[g]? = some (.cells cur 40 (0, 0)) := by
  rcases hf.2 with ⟨h1, _⟩ | ⟨g', cap', cur, h1, _, hh, _⟩
  · cases h1
  · simp only [Value.slice.injEq, Option.some.injEq] at h1
    have : g = g' := congrArg Addr.block h1.1
    rw [this]
    exact ⟨cur, hh⟩
theorem jn_set {w : World} {base g M n x y k1 k2 : Nat} {ln ld : Int} {S S' : Nat → Nat → Prop} {f : Nat → Fr} (hM : n * n = M) (h1 : x * n + y = k1) (h2 : y * n + x = k2) (hx : x < n) (hy : y < n) (hf : FF w base g M M (setP n S (ln, ld) f)) (h : ∀ p q, S' p q ↔ S p q ∨ (p = x ∧ q = y) ∨ (p = y ∧ q = x)) :
    FF (((((w.setCell ⟨g, k1 * 2, none⟩ (.int .i64 ln)).setCell ⟨g, k1 * 2 + 1, none⟩ (.int .i64 ld)).setCell ⟨g, k2 * 2, none⟩ (.int .i64 ln)).setCell ⟨g, k2 * 2 + 1, none⟩ (.int .i64 ld)).drew) base g M M (setP n S' (ln, ld) f) := by
  have h3 := FF.set (FF.set hf k1 ln ld) k2 ln ld
  refine FF.drewN (h3.congr fun t ht => ?_) 1
  rw [← h1, ← h2]
  exact setP_step hx hy (by rw [hM]; exact ht) fun p q _ _ => h p q
def FitMg (l : List Mg) : Prop := ∀ i, i < l.length → mN l i ≤ 9223372036854775807 ∧ mD l i ≤ 9223372036854775807
theorem low_q {p q qn qd : Nat} {w : World} (hn : qn = p / Nat.gcd p q) (hd : qd = q / Nat.gcd p q) (hp : p ≤ 9223372036854775807) (hq : q ≤ 9223372036854775807) (h0 : 0 < q) :
    Calls Tryd.prog 57 #[.int .i64 p, .int .i64 q] w fun e w' => e = .returned (.agg #[.int .i64 qn, .int .i64 qd]) ∧ Below w.heap.size w w' := by rw [hn, hd]; exact low_any p q w hp hq h0
set_option maxRecDepth 100000 in
set_option maxHeartbeats 4000000 in
theorem join1_any (w0 : World) (Bc LB NB SB OB g1 g2 : Nat) (a : Option Addr) (N c n M : Nat) (l : List Mg) (k : Nat) (W : World) (hl : l.length = N) (hk : k < N) (hn : n ≤ 24) (hM : n * n = M) (hok : StepOk n l k) (hfit : FitMg l) (hJ : JnJ w0 Bc LB NB SB OB g1 g2 a N c n M l k W) :
    Calls Tryd.prog 80 #[.pointer (some ⟨Bc, 0, none⟩), .int .i64 k, .pointer (some ⟨LB, 0, none⟩), .pointer (some ⟨NB, 0, none⟩), .pointer (some ⟨SB, 0, none⟩), .pointer (some ⟨OB, 0, none⟩)] W fun e W' => e = .returned (.tuple #[]) ∧ JnJ w0 Bc LB NB SB OB g1 g2 a N c n M l (k + 1) W' ∧ ∀ b cs t, t = 42 ∨ t = 100 → Blk W b cs t → Blk W' b cs t := by
  obtain ⟨h1, h2, h3, _, _, _, h7, h8⟩ := hok
  obtain ⟨f1, f2⟩ := hfit k (by omega)
  obtain ⟨b, o, rfl, hbl, hcm⟩ := rdMg hJ.rd (by omega)
  obtain ⟨G0, G1, G2, G3, G4⟩ := hcm k (by omega)
  replace G0 := (hJ.bl.cell (p := ⟨b, o + k * 5, none⟩) hbl).trans G0
  replace G1 := (hJ.bl.cell (p := ⟨b, o + k * 5 + 1, none⟩) hbl).trans G1
  replace G2 := (hJ.bl.cell (p := ⟨b, o + k * 5 + 2, none⟩) hbl).trans G2
  replace G3 := (hJ.bl.cell (p := ⟨b, o + k * 5 + 3, none⟩) hbl).trans G3
  replace G4 := (hJ.bl.cell (p := ⟨b, o + k * 5 + 4, none⟩) hbl).trans G4
  obtain ⟨A, hA⟩ : ∃ A : Nat, mA l k = A := ⟨(mA l k).toNat, by omega⟩
  obtain ⟨B, hB⟩ : ∃ B : Nat, mB l k = B := ⟨(mB l k).toNat, by omega⟩
  obtain ⟨p, hp⟩ : ∃ p : Nat, mN l k = p := ⟨(mN l k).toNat, by omega⟩
  obtain ⟨q, hq⟩ : ∃ q : Nat, mD l k = q := ⟨(mD l k).toNat, by omega⟩
  rw [hA] at G0 h1 h2
  rw [hB] at G1 h2 h3
  rw [hp] at G2 f1 h8
  rw [hq] at G3 f2 h7
  obtain ⟨Z, hZ⟩ : ∃ Z, mS l k = Z := ⟨_, rfl⟩
  rw [hZ] at G4
  obtain ⟨ln, hln⟩ : ∃ x, x = p / Nat.gcd p q := ⟨_, rfl⟩
  obtain ⟨ld, hld⟩ : ∃ x, x = q / Nat.gcd p q := ⟨_, rfl⟩
  have HAB : Hid (aN l k = A ∧ bN l k = B) := ⟨by rw [aN, hA]; rfl, by rw [bN, hB]; rfl⟩
  have HH : Hid (jH l k = ((ln : Int), (ld : Int))) := by
    show _ = _
    rw [jH, hp, hq, hln, hld]
    simp [lowF, lowN, lowD]
  have HL57 : Hid (∀ w, Calls Tryd.prog 57 #[.int .i64 p, .int .i64 q] w fun e w' => e = .returned (.agg #[.int .i64 ln, .int .i64 ld]) ∧ Below w.heap.size w w') := fun w => low_q hln hld (by omega) (by omega) (by omega)
  have hMb : M ≤ 576 := by rw [← hM]; exact Nat.mul_le_mul hn hn
  have HM := Lib.hid hM
  have HJ := Lib.hid hJ
  have c1 : W.cell? ⟨LB, 0, none⟩ = some (.slice (some ⟨b, o, none⟩) N c) := hJ.lbox.cell 0
  have i5 : (0 : Int) ≤ k := by omega
  have i6 : (k : Int) < N := by omega
  clear hcm hA hB hp hq hZ hln hld hl hM hfit hJ
  go_enter Tryd.func80, Tryd.ntmps80
  go_upto_region 1 with fail
  have hm1 := Blk.new W #[.int .i64 A, .int .i64 B, .int .i64 p, .int .i64 q, .int .i64 Z] 42
  have hb1 := bl_alloc (Below.refl W.heap.size W) (.cells #[.int .i64 A, .int .i64 B, .int .i64 p, .int .i64 q, .int .i64 Z] 42)
  obtain ⟨w1, hw1⟩ : ∃ w1, w1 = W.alloc (.cells #[.int .i64 A, .int .i64 B, .int .i64 p, .int .i64 q, .int .i64 Z] 42) := ⟨_, rfl⟩
  obtain ⟨X1, hX1⟩ : ∃ X, X = W.heap.size := ⟨_, rfl⟩
  rw [← hw1] at hm1 hb1 ⊢
  rw [← hX1] at hm1 ⊢
  have HM1 := Lib.hid hm1
  have HB1 := Lib.hid hb1
  have HX1 := Lib.hid hX1
  have m2 : w1.cell? ⟨X1, 2, none⟩ = some (.int .i64 p) := hm1.cell 2
  have m3 : w1.cell? ⟨X1, 3, none⟩ = some (.int .i64 q) := hm1.cell 3
  clear hw1 hX1 hm1 hb1 G0 G1 G2 G3 G4 c1
  go_upto_region 2 with (go_at_call 57; refine (HL57.out _).mono ?_; rintro e w2 ⟨rfl, hb2⟩)
  have hh3 := Blk.new w2 #[.int .i64 ln, .int .i64 ld] 40
  have hb3 := bl_alloc hb2 (.cells #[.int .i64 ln, .int .i64 ld] 40)
  obtain ⟨w9, hw9⟩ : ∃ w9, w9 = w2.alloc (.cells #[.int .i64 ln, .int .i64 ld] 40) := ⟨_, rfl⟩
  obtain ⟨X2, hX2⟩ : ∃ X, X = w2.heap.size := ⟨_, rfl⟩
  rw [← hw9] at hh3 hb3 ⊢
  rw [← hX2] at hh3 ⊢
  have HM9 := Lib.hid (HM1.out.below hb3)
  have HH9 := Lib.hid hh3
  have HB9 := Lib.hid (bl_trans HB1.out hb3)
  have HX12 : Hid (W.heap.size ≤ X1 ∧ W.heap.size ≤ X2) := ⟨by rw [HX1.out]; exact Nat.le_refl _, by rw [hX2]; exact Nat.le_trans HB1.out.size hb2.size⟩
  obtain ⟨n1, n2, n3, n4, n5, n6, n7, n8, n9, n10, n11, n12, n13, n14, n15, n16, n17, n18⟩ := HJ.out.ne
  have hg1l : g1 < W.heap.size := HJ.out.least.lt
  have hg2l : g2 < W.heap.size := (World.ownsRow.lt HJ.out.out g2 rfl).2
  -- what stands in a world that differs from w9 in the two tables alone
  have HK : Hid (∀ wr, But2 g1 g2 w9 wr → wr.cell? ⟨LB, 0, none⟩ = some (.slice (some ⟨b, o, none⟩) N c) ∧ wr.cell? ⟨NB, 0, none⟩ = some (.int .i64 n) ∧ wr.cell? ⟨SB, 0, none⟩ = some (.slice (some ⟨g1, 0, none⟩) n n) ∧ wr.cell? ⟨OB, 0, none⟩ = some (.slice (some ⟨g2, 0, none⟩) M M) ∧ wr.cell? ⟨X1, 0, none⟩ = some (.int .i64 A) ∧ wr.cell? ⟨X1, 1, none⟩ = some (.int .i64 B) ∧ wr.cell? ⟨X2, 0, none⟩ = some (.int .i64 ln) ∧ wr.cell? ⟨X2, 1, none⟩ = some (.int .i64 ld)) := fun wr h => by
    have hx := HX12.out
    exact ⟨(h.blk (HJ.out.lbox.below HB9.out) n8 n12).cell 0, (h.blk (HJ.out.nbox.below HB9.out) n9 n13).cell 0, (h.blk (HJ.out.sbox.below HB9.out) n10 n14).cell 0, (h.blk (HJ.out.obox.below HB9.out) n11 n15).cell 0, (h.blk HM9.out (by omega) (by omega)).cell 0, (h.blk HM9.out (by omega) (by omega)).cell 1, (h.blk HH9.out (by omega) (by omega)).cell 0, (h.blk HH9.out (by omega) (by omega)).cell 1⟩
  have hls9 : Blk w9 g1 (ofF n (lsC (lsK l k))) 3 := HJ.out.least.below HB9.out
  have hff9 : FF w9 w0.heap.size g2 M M (setP n (JnA (lsK l k) A B 0 0) ((ln : Int), (ld : Int)) (jnF l k n)) := FF.congr (owns_below HJ.out.out HB9.out) fun t _ => (setP_no (JnA_none _ _ _ _ _)).symm
  have hG12 : Hid (g1 ≠ g2 ∧ g1 < w9.heap.size ∧ g2 < w9.heap.size) := ⟨n7, Nat.lt_of_lt_of_le hg1l HB9.out.size, Nat.lt_of_lt_of_le hg2l HB9.out.size⟩
  have hOB2 : ¬ (OB = g2) := n15
  have hNB2 : ¬ (NB = g2) := n13
  have hX22 : ¬ (X2 = g2) := by have := HX12.out; omega
  have HD2 : Hid (¬ (OB = g2) ∧ ¬ (NB = g2) ∧ ¬ (X2 = g2)) := ⟨hOB2, hNB2, hX22⟩
  clear hOB2 hNB2 hX22
  have hbr := But2.refl g1 g2 w9
  obtain ⟨HNE1, HNE2⟩ : Hid (g2 ≠ g1) ∧ Hid (w0.heap.size ≤ g1 ∧ w0.heap.size ≤ g2) := ⟨n7.symm, n16, n17⟩
  clear hw9 hX2 hh3 hb3 hb2 m2 m3 n1 n2 n3 n4 n5 n6 n7 n8 n9 n10 n11 n12 n13 n14 n15 n16 n17 n18 hg1l hg2l
  obtain ⟨s0, s1, s2, s3, s4, s5, s6, s7⟩ := HK.out w9 hbr
  go_wp2_with fail
  clear s0 s1 s2 s3 s4 s5 s6 s7
  obtain ⟨ls, hls⟩ : ∃ ls, ls = lsK l k := ⟨_, rfl⟩
  have HLS := Lib.hid hls
  rw [← hls] at hls9 hff9
  clear hls
  go_loopw [26] (fun x wr => ∃ a : Nat, a ≤ n ∧ x = .int .i64 a ∧ But2 g1 g2 w9 wr ∧ Blk wr g1 (ofF n (lsC ls)) 3 ∧ FF wr w0.heap.size g2 M M (setP n (JnA ls A B a 0) ((ln : Int), (ld : Int)) (jnF l k n))) (fun x _ => n - (intOf x).toNat)
  case atStart => exact ⟨0, by omega, rfl, hbr, hls9, hff9⟩
  case round =>
    clear hbr hls9 hff9
    obtain ⟨a, ha, rfl, hbt, hls, hff⟩ := hrel
    obtain ⟨s0, s1, s2, s3, s4, s5, s6, s7⟩ := HK.out wr hbt
    by_cases hlt : a < n
    · obtain ⟨wo, rfl⟩ : ∃ wo : World, wo = wr := ⟨_, rfl⟩
      go_wp2_with fail
      clear s0 s1 s2 s3 s4 s5 s6 s7
      go_loopw [30] (fun x wr => ∃ b : Nat, b ≤ n ∧ x = .int .i64 b ∧ But2 g1 g2 w9 wr ∧ Blk wr g1 (ofF n (lsC ls)) 3 ∧ FF wr w0.heap.size g2 M M (setP n (JnA ls A B a b) ((ln : Int), (ld : Int)) (jnF l k n))) (fun x _ => n - (intOf x).toNat)
      case atStart => exact ⟨0, by omega, rfl, hbt, hls, hff⟩
      case round =>
        clear hbt hls hff
        obtain ⟨b2, hb2, rfl, hbt, hls, hff⟩ := hrel
        obtain ⟨s0, s1, s2, s3, s4, s5, s6, s7⟩ := HK.out wr hbt
        by_cases hlt2 : b2 < n
        · have e1 : wr.cell? ⟨g1, a, none⟩ = some (.int .i64 (ls a)) := hls.getF a hlt
          have e2 : wr.cell? ⟨g1, b2, none⟩ = some (.int .i64 (ls b2)) := hls.getF b2 hlt2
          have HBT := Lib.hid hbt
          have HLSB := Lib.hid hls
          have HFF := Lib.hid hff
          have HYES : Hid (ls a = A ∧ ls b2 = B → ∀ p q, JnA ls A B a (b2 + 1) p q ↔ JnA ls A B a b2 p q ∨ (p = a ∧ q = b2) ∨ (p = b2 ∧ q = a)) := fun h p q => JnA_yes h
          have HNO : Hid (¬ (ls a = A ∧ ls b2 = B) → FF wr w0.heap.size g2 M M (setP n (JnA ls A B a (b2 + 1)) ((ln : Int), (ld : Int)) (jnF l k n))) := fun h => FF.congr hff fun t _ => setP_congr (JnA_no h).symm fun _ => rfl
          have HAB2 : Hid (ls a = A → ls b2 = B → ¬ (a = b2)) := fun h1 h2 e => by rw [e] at h1; omega
          clear hbt hls hff
          generalize ls a = la at *
          generalize ls b2 = lb at *
          by_cases qa : la = A
          · have t1 : ((la : Int) == (A : Int)) = true := by simp; omega
            by_cases qb : lb = B
            · have t2 : ((lb : Int) == (B : Int)) = true := by simp; omega
              have hyes := Lib.hid (HYES.out ⟨qa, qb⟩)
              have hab := HAB2.out qa qb
              clear qa qb
              go_upto_region 8 with fail
              go_quiet (fail)
              obtain ⟨w5, hw5⟩ : ∃ w5, w5 = wr.drewN nq := ⟨_, rfl⟩
              have hbt5 : But2 g1 g2 w9 w5 := by rw [hw5]; exact HBT.out.drewN nq
              have hls5 : Blk w5 g1 (ofF n (lsC ls)) 3 := by rw [hw5]; exact HLSB.out.drewN nq
              have hff5 : FF w5 w0.heap.size g2 M M (setP n (JnA ls A B a b2) ((ln : Int), (ld : Int)) (jnF l k n)) := by rw [hw5]; exact HFF.out.drewN nq
              rw [← hw5]
              clear hw5 s0 s1 s2 s3 s4 s5 s6 s7 e1 e2 t1 t2 HBT HLSB HFF
              obtain ⟨s0, s1, s2, s3, s4, s5, s6, s7⟩ := HK.out w5 hbt5
              obtain ⟨m1, m2, k1, k2, hm1, hm2, hk1, hk2, c1, c2⟩ := idx_two (n := n) (N := M) (a := a) (b := b2) HM.out (by omega) (by omega) (by omega)
              have wa1 := wrap_nat ((a : Int) * (n : Int)) m1 (by rw [← hm1]; simp) (by omega)
              have wa2 := wrap_nat ((b2 : Int) * (n : Int)) m2 (by rw [← hm2]; simp) (by omega)
              have wa3 := wrap_nat ((m1 : Int) + (b2 : Int)) k1 (by omega) (by omega)
              have wa4 := wrap_nat ((m2 : Int) + (a : Int)) k2 (by omega) (by omega)
              have hkk : ¬ (k1 = k2) := fun e => by
                have := div_mod_uniq (n := n) (i := a) (j := b2) (i' := b2) (j' := a) (by omega) (by omega) (by omega)
                exact hab this.1
              have HREL := Lib.hid (jn_set HM.out (show a * n + b2 = k1 by omega) (show b2 * n + a = k2 by omega) hlt hlt2 hff5 hyes.out)
              have HLS5 := Lib.hid hls5
              have HBT5 := Lib.hid hbt5
              obtain ⟨⟨u1, v1⟩, u2, v2⟩ := hff5.cell k1 c1
              obtain ⟨⟨u3, v3⟩, u4, v4⟩ := hff5.cell k2 c2
              have f1 := World.ownsRow.frozenAt hff5 (k1 * 2)
              have f2 := World.ownsRow.frozenAt hff5 (k1 * 2 + 1)
              have f3 := World.ownsRow.frozenAt hff5 (k2 * 2)
              have f4 := World.ownsRow.frozenAt hff5 (k2 * 2 + 1)
              clear hm1 hm2 hk1 hk2 hff5 hls5 hbt5 hab s4 s5
              obtain ⟨d1, d2, d3⟩ := HD2.out
              have d4 : ¬ (g2 = OB) := fun e => d1 e.symm
              have d5 : ¬ (g2 = NB) := fun e => d2 e.symm
              have d6 : ¬ (g2 = X2) := fun e => d3 e.symm
              go_upto_region 9 with fail
              go_region
              go_wp2_with fail
              go_roundw
              case rel => exact ⟨b2 + 1, by omega, by go_num, ((((HBT5.out.set2 _ _).set2 _ _).set2 _ _).set2 _ _).drewN 1, ((((HLS5.out.other hG12.out.1 _ _).other hG12.out.1 _ _).other hG12.out.1 _ _).other hG12.out.1 _ _).drewN 1, HREL.out⟩
              case measure => simp [intOf]; omega
            · have t2 : ((lb : Int) == (B : Int)) = false := by simp; omega
              have hno := Lib.hid (HNO.out (fun h => qb h.2))
              clear qa qb
              go_upto_region 8 with fail
              go_quiet (fail)
              go_wp2_with fail
              go_roundw
              case rel => exact ⟨b2 + 1, by omega, by go_num, HBT.out.drewN _, HLSB.out.drewN _, hno.out.drewN _⟩
              case measure => simp [intOf]; omega
          · have t1 : ((la : Int) == (A : Int)) = false := by simp; omega
            have hno := Lib.hid (HNO.out (fun h => qa h.1))
            clear qa
            go_upto_region 8 with fail
            go_quiet (fail)
            go_wp2_with fail
            go_roundw
            case rel => exact ⟨b2 + 1, by omega, by go_num, HBT.out.drewN _, HLSB.out.drewN _, hno.out.drewN _⟩
            case measure => simp [intOf]; omega
        · have e9 : b2 = n := by omega
          rw [e9] at hff
          have hff2 : FF wr w0.heap.size g2 M M (setP n (JnA ls A B (a + 1) 0) ((ln : Int), (ld : Int)) (jnF l k n)) := FF.congr hff fun t ht => by
            obtain ⟨h1, h2, _⟩ := sq_of (n := n) (t := t) (by rw [HM.out]; exact ht)
            exact setP_congr (JnA_row h1 h2) fun _ => rfl
          clear hff e9
          go_wp2_with fail
          go_roundw
          case rel => exact ⟨a + 1, by omega, by go_num, hbt, hls, hff2⟩
          case measure => simp [intOf]; omega
    · have e9 : a = n := by omega
      rw [e9] at hff
      have hls3 : Blk wr g1 (ofF n (lsC fun p => if p < 0 then (if ls p = B then A else ls p) else ls p)) 3 := by
        have e : (fun p => if p < 0 then (if ls p = B then A else ls p) else ls p) = ls := by funext p; rw [if_neg (by omega)]
        rw [e]; exact hls
      clear e9 hls
      go_wp2_with fail
      clear s0 s1 s2 s3 s4 s5 s6 s7
      go_loopw [69] (fun x wr => ∃ a : Nat, a ≤ n ∧ x = .int .i64 a ∧ But2 g1 g2 w9 wr ∧ Blk wr g1 (ofF n (lsC fun p => if p < a then (if ls p = B then A else ls p) else ls p)) 3 ∧ FF wr w0.heap.size g2 M M (setP n (JnA ls A B n 0) ((ln : Int), (ld : Int)) (jnF l k n))) (fun x _ => n - (intOf x).toNat)
      case atStart => exact ⟨0, by omega, rfl, hbt, hls3, hff⟩
      case round =>
        clear hbt hls3 hff
        obtain ⟨a2, ha2, rfl, hbt, hls, hff⟩ := hrel
        obtain ⟨s0, s1, s2, s3, s4, s5, s6, s7⟩ := HK.out wr hbt
        by_cases hlt2 : a2 < n
        · have e1 : wr.cell? ⟨g1, a2, none⟩ = some (.int .i64 (ls a2)) := by
            have := hls.getF a2 hlt2
            rw [lsC, if_neg (Nat.lt_irrefl _)] at this
            exact this
          have f1 := hls.free a2
          have HBT := Lib.hid hbt
          have HFF := Lib.hid hff
          have HSET : Hid (∀ v : Nat, v = (if ls a2 = B then A else ls a2) → Blk (wr.setCell ⟨g1, a2, none⟩ (.int .i64 v)) g1 (ofF n (lsC fun p => if p < a2 + 1 then (if ls p = B then A else ls p) else ls p)) 3) := fun v hv => by
            have h1 := hls.setF a2 (.int .i64 v)
            have e : (fun j => if j = a2 then Value.int .i64 (v : Nat) else lsC (fun p => if p < a2 then (if ls p = B then A else ls p) else ls p) j) = lsC fun p => if p < a2 + 1 then (if ls p = B then A else ls p) else ls p := by
              funext j
              by_cases hj : j = a2
              · subst hj; rw [if_pos rfl, lsC, if_pos (by omega), hv]
              · rw [if_neg hj, lsC, lsC]
                by_cases h2 : j < a2
                · have h3 : j < a2 + 1 := by omega
                  rw [if_pos h2, if_pos h3]
                · have h3 : ¬ j < a2 + 1 := by omega
                  rw [if_neg h2, if_neg h3]
            rw [← e]; exact h1
          have HSAME : Hid (¬ (ls a2 = B) → Blk wr g1 (ofF n (lsC fun p => if p < a2 + 1 then (if ls p = B then A else ls p) else ls p)) 3) := fun h => by
            have e : ofF n (lsC fun p => if p < a2 + 1 then (if ls p = B then A else ls p) else ls p) = ofF n (lsC fun p => if p < a2 then (if ls p = B then A else ls p) else ls p) := ofF_congr fun i _ => by
              rw [lsC, lsC]
              by_cases hj : i = a2
              · subst hj; rw [if_pos (Nat.lt_succ_self _), if_neg h, if_neg (Nat.lt_irrefl _)]
              · by_cases h2 : i < a2
                · have h3 : i < a2 + 1 := by omega
                  rw [if_pos h3, if_pos h2]
                · have h3 : ¬ i < a2 + 1 := by omega
                  rw [if_neg h3, if_neg h2]
            rw [e]; exact hls
          clear hbt hls hff
          generalize ls a2 = la at *
          by_cases qb : la = B
          · have t2 : ((la : Int) == (B : Int)) = true := by simp; omega
            have hset := Lib.hid (HSET.out A (by rw [if_pos qb]))
            clear qb HSET HSAME
            go_wp2_with fail
            go_roundw
            case rel => exact ⟨a2 + 1, by omega, by go_num, HBT.out.set1 _ _, hset.out, HFF.out.other _ _ HNE1.out⟩
            case measure => simp [intOf]; omega
          · have t2 : ((la : Int) == (B : Int)) = false := by simp; omega
            have hset := Lib.hid (HSAME.out qb)
            clear qb HSET HSAME
            go_wp2_with fail
            go_roundw
            case rel => exact ⟨a2 + 1, by omega, by go_num, HBT.out, hset.out, HFF.out⟩
            case measure => simp [intOf]; omega
        · have hls4 : Blk wr g1 (ofF n (lsC (lsK l (k + 1)))) 3 := by
            have e : ofF n (lsC (lsK l (k + 1))) = ofF n (lsC fun p => if p < a2 then (if ls p = B then A else ls p) else ls p) := ofF_congr fun i hi => by
              rw [lsC, lsC, if_pos (by omega), lsK, HAB.out.1, HAB.out.2, HLS.out]
            rw [e]; exact hls
          have hff4 : FF wr w0.heap.size g2 M M (jnF l (k + 1) n) := FF.congr hff fun t ht => by
            obtain ⟨h1, h2, _⟩ := sq_of (n := n) (t := t) (by rw [HM.out]; exact ht)
            rw [jnF_next, HH.out]
            refine setP_congr ?_ fun _ => rfl
            rw [HLS.out, ← HAB.out.1, ← HAB.out.2]
            exact JnA_all h1 h2
          have HBT := Lib.hid hbt
          have HLS4 := Lib.hid hls4
          have HFF4 := Lib.hid hff4
          clear hbt hls hff hls4 hff4
          go_wp2_with fail
          go_end0
          obtain ⟨n1, n2, n3, n4, n5, n6, n7, n8, n9, n10, n11, n12, n13, n14, n15, n16, n17, n18⟩ := HJ.out.ne
          have hbw : Below w0.heap.size w0 wr := ((HJ.out.bl.trans (HB9.out.mono HJ.out.bl.size))).trans (HBT.out.below (Nat.le_trans HJ.out.bl.size HB9.out.size) n16 n17)
          refine ⟨rfl, ⟨HBT.out.blk (HJ.out.lbox.below HB9.out) n8 n12, HBT.out.blk (HJ.out.nbox.below HB9.out) n9 n13, HBT.out.blk (HJ.out.sbox.below HB9.out) n10 n14, HBT.out.blk (HJ.out.obox.below HB9.out) n11 n15, HLS4.out, HFF4.out, HJ.out.rd, hbw, HJ.out.ne⟩, fun b' cs t ht hb' => ?_⟩
          refine HBT.out.blk (hb'.below HB9.out) (fun e => ?_) (fun e => ?_)
          · rw [e] at hb'
            have := hb'.symm.trans HJ.out.least
            simp only [Option.some.injEq, Obj.cells.injEq] at this
            rcases ht with ht | ht
            · exact absurd (this.2.1.symm.trans ht) (by decide)
            · exact absurd (this.2.1.symm.trans ht) (by decide)
          · rw [e] at hb'
            obtain ⟨cur, hc⟩ := ff_kind HJ.out.out
            have := hb'.symm.trans hc
            simp only [Option.some.injEq, Obj.cells.injEq] at this
            rcases ht with ht | ht
            · exact absurd (this.2.1.symm.trans ht) (by decide)
            · exact absurd (this.2.1.symm.trans ht) (by decide)
end Go.Proofs.YtahgffjkkdbjeaaDoor
