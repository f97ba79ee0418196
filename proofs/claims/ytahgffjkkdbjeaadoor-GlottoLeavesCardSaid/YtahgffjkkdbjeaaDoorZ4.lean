/- slices.SortStableFunc's parts over a row of numbers of the call's own: swapRange, rotate. The row is told by a function of the place. slices.insertionSortCmpFunc over a row of numbers of the call's own, by keys. -/
import Derived.Test.YtahgffjkkdbjeaaDoorZ1
import Derived.Test.YtahgffjkkdbjeaaDoorRows
import Derived.Deep.QuietTactic
import Derived.Deep.DeepCutAuto
import Derived.Deep.CutBlock
namespace Go.Proofs.YtahgffjkkdbjeaaDoor
open Go.RowKit

/-- The row of N numbers f 0 .. f (N - 1), in block g. -/
def FS (w : World) (g cap N : Nat) (f : Nat → Int) : Prop := w.ownsRow 0 3 1 (.slice (some ⟨g, 0, none⟩) N cap) N (fl encI ((List.range N).map f))
def upd (f : Nat → Int) (p : Nat) (v : Int) : Nat → Int := fun q => if q = p then v else f q
theorem FS.cell {w : World} {g cap N : Nat} {f : Nat → Int} (h : FS w g cap N f) (p : Nat) (hp : p < N) : w.cell? ⟨g, p, none⟩ = some (.int .i64 (f p)) := by
  rw [World.ownsRow.cellAt h p (by omega)]
  have := fl_getElem? encI_len ((List.range N).map f) p 0 (by omega)
  simp only [Nat.mul_one, Nat.add_zero] at this
  rw [this]
  simp [hp, encI]
theorem FS.free {w : World} {g cap N : Nat} {f : Nat → Int} (h : FS w g cap N f) (p : Nat) : w.frozen? ⟨g, p, none⟩ = false := World.ownsRow.frozenAt h p
theorem FS.lt {w : World} {g cap N : Nat} {f : Nat → Int} (h : FS w g cap N f) : g < w.heap.size := (World.ownsRow.lt h g rfl).2
theorem map_upd (N : Nat) (f : Nat → Int) (p : Nat) (v : Int) : (List.range N).map (upd f p v) = ((List.range N).map f).set p v := by
  apply List.ext_getElem?
  intro i
  rw [List.getElem?_set]
  by_cases hi : i < N
  · by_cases e : p = i
    · subst e; simp [hi, upd]
    · simp [hi, upd, e]; omega
  · by_cases e : p = i
    · subst e; simp [hi]
    · simp [hi, e]
theorem FS.set {w : World} {g cap N : Nat} {f : Nat → Int} (h : FS w g cap N f) (p : Nat) (v : Int) : FS (w.setCell ⟨g, p, none⟩ (.int .i64 v)) g cap N (upd f p v) := by
  unfold FS
  rw [map_upd]
  exact owns_setI h p v
theorem FS.congr {w : World} {g cap N : Nat} {f f' : Nat → Int} (h : FS w g cap N f) (e : ∀ p, p < N → f p = f' p) : FS w g cap N f' := by
  unfold FS at *
  rw [show (List.range N).map f' = (List.range N).map f from List.map_congr_left fun p hp => (e p (by simpa using hp)).symm]
  exact h
theorem FS.drewN {w : World} {g cap N : Nat} {f : Nat → Int} (h : FS w g cap N f) (n : Nat) : FS (w.drewN n) g cap N f := h
theorem FS.below {w w' : World} {g cap N : Nat} {f : Nat → Int} (h : FS w g cap N f) (hb : Below w.heap.size w w') : FS w' g cap N f := owns_below h hb

/-- w' is w but for block g, and for new blocks. -/
structure But (g : Nat) (w w' : World) : Prop where
  os : w'.os = w.os
  tape : w'.tape = w.tape
  output : w'.output = w.output
  size : w.heap.size ≤ w'.heap.size
  block : ∀ k, k < w.heap.size → k ≠ g → w'.heap[k]? = w.heap[k]?
theorem But.refl (g : Nat) (w : World) : But g w w := ⟨rfl, rfl, rfl, Nat.le_refl _, fun _ _ _ => rfl⟩
theorem But.trans {g : Nat} {a b c : World} (h : But g a b) (k : But g b c) : But g a c :=
  ⟨k.os.trans h.os, k.tape.trans h.tape, k.output.trans h.output, Nat.le_trans h.size k.size, fun i hi hg => (k.block i (Nat.lt_of_lt_of_le hi h.size) hg).trans (h.block i hi hg)⟩
theorem But.drewN {g : Nat} {a b : World} (h : But g a b) (n : Nat) : But g a (b.drewN n) := ⟨h.os, h.tape, h.output, h.size, h.block⟩
theorem But.set {g : Nat} {a b : World} (h : But g a b) (o : Nat) (v : Value) : But g a (b.setCell ⟨g, o, none⟩ v) :=
  h.trans ⟨rfl, rfl, rfl, by simp [World.setCell], fun k _ hg => Below.heap_setCell b ⟨g, o, none⟩ v k hg⟩
theorem But.of_below {g : Nat} {a b : World} (h : Below a.heap.size a b) : But g a b := ⟨h.os, h.tape, h.output, h.size, fun k hk _ => h.block k hk⟩
theorem But.below {g : Nat} {a b : World} (h : But g a b) {B : Nat} (hB : B ≤ a.heap.size) (hg : B ≤ g) : Below B a b := ⟨h.os, h.tape, h.output, h.size, fun k hk => h.block k (by omega) (by omega)⟩
theorem But.blk {g B : Nat} {a b : World} {cs : Array Value} {t : TypeId} (h : But g a b) (hb : Blk a B cs t) (hne : B ≠ g) : Blk b B cs t := (h.block B hb.lt hne).trans hb
theorem But.cell {g : Nat} {a b : World} (h : But g a b) {B o : Nat} (hb : B < a.heap.size) (hne : B ≠ g) : b.cell? ⟨B, o, none⟩ = a.cell? ⟨B, o, none⟩ := World.cell?_of_block (w := a) (h.block B hb hne)

/-- The two stretches of n places from a and from b are exchanged. -/
def swpF (f : Nat → Int) (a b n : Nat) : Nat → Int := fun p => if a ≤ p ∧ p < a + n then f (p - a + b) else if b ≤ p ∧ p < b + n then f (p - b + a) else f p
theorem swp_zero (f : Nat → Int) (a b : Nat) : swpF f a b 0 = f := by
  funext p
  unfold swpF
  rw [if_neg (by omega), if_neg (by omega)]
theorem swp_succ (f : Nat → Int) (a b k : Nat) (h : a + k < b) : upd (upd (swpF f a b k) (a + k) (f (b + k))) (b + k) (f (a + k)) = swpF f a b (k + 1) := by
  funext p
  unfold upd swpF
  (repeat' split) <;> first | rfl | (exfalso; omega) | (congr 1; omega)

set_option maxHeartbeats 2000000 in
theorem swapRange_any (g cap N a b n : Nat) (f : Nat → Int) (cf : Value) (w : World) (hN : N ≤ 1152921504606846976) (h1 : a + n ≤ b) (h2 : b + n ≤ N) (hF : FS w g cap N f) :
    Calls Tryd.prog 105 #[.slice (some ⟨g, 0, none⟩) N cap, .int .i64 a, .int .i64 b, .int .i64 n, cf] w fun e w' => e = .returned (.tuple #[]) ∧ FS w' g cap N (swpF f a b n) ∧ But g w w' := by
  go_enter Tryd.func105, Tryd.ntmps105
  go_wp2_with fail
  go_loopw [10] (fun x wr => ∃ k : Nat, k ≤ n ∧ x = .int .i64 k ∧ FS wr g cap N (swpF f a b k) ∧ But g w wr) (fun x _ => n - (intOf x).toNat)
  case atStart => exact ⟨0, by omega, rfl, by rw [swp_zero]; exact hF, But.refl _ _⟩
  case round =>
    obtain ⟨k, hk, rfl, hf, hbut⟩ := hrel
    clear hF
    by_cases hlt : k < n
    · obtain ⟨p, hp⟩ : ∃ p, a + k = p := ⟨_, rfl⟩
      obtain ⟨q, hq⟩ : ∃ q, b + k = q := ⟨_, rfl⟩
      have w1 := wrap_nat ((a : Int) + (k : Int)) p (by omega) (by omega)
      have w2 := wrap_nat ((b : Int) + (k : Int)) q (by omega) (by omega)
      have hpq : p ≠ q := by omega
      have hqp : q ≠ p := by omega
      have bp : p < N := by omega
      have bq : q < N := by omega
      have c1 := hf.cell p bp
      have c2 := hf.cell q bq
      have f1 := hf.free p
      have f2 := hf.free q
      have v1 : swpF f a b k p = f p := by rw [swpF, if_neg (by omega), if_neg (by omega)]
      have v2 : swpF f a b k q = f q := by rw [swpF, if_neg (by omega), if_neg (by omega)]
      rw [v1] at c1
      rw [v2] at c2
      have hn := (hf.set p (f q)).set q (f p)
      have hs := swp_succ f a b k (by omega)
      rw [hp, hq] at hs
      rw [hs] at hn
      clear v1 v2 hs
      have HP := Lib.hid hp
      have HQ := Lib.hid hq
      clear hp hq
      go_wp2_with fail
      go_region
      go_wp2_with fail
      go_roundw
      case rel => exact ⟨k + 1, by omega, by go_num, hn, ((hbut.drewN 1).set _ _).set _ _⟩
      case measure => simp [intOf]; omega
    · go_wp2_with fail
      go_end0
      have : k = n := by omega
      subst this
      exact ⟨rfl, hf, hbut⟩

/-- Places a .. m and m .. b are exchanged, each in its order. -/
def rotF (f : Nat → Int) (a m b : Nat) : Nat → Int := fun p => if a ≤ p ∧ p < a + (b - m) then f (p - a + m) else if a + (b - m) ≤ p ∧ p < b then f (p - (b - m)) else f p
theorem rot_step1 (f : Nat → Int) (m i j : Nat) (hm : i ≤ m) (h : j < i) : rotF (swpF f (m - i) m j) (m - (i - j)) m (m + j) = rotF f (m - i) m (m + j) := by
  funext p
  unfold rotF swpF
  (repeat' split) <;> first | rfl | (exfalso; omega) | (congr 1; omega)
theorem rot_step2 (f : Nat → Int) (m i j : Nat) (hm : i ≤ m) (h : i < j) : rotF (swpF f (m - i) (m + j - i) i) (m - i) m (m + (j - i)) = rotF f (m - i) m (m + j) := by
  funext p
  unfold rotF swpF
  (repeat' split) <;> first | rfl | (exfalso; omega) | (congr 1; omega)
theorem rot_end (f : Nat → Int) (m i : Nat) (hm : i ≤ m) : swpF f (m - i) m i = rotF f (m - i) m (m + i) := by
  funext p
  unfold rotF swpF
  (repeat' split) <;> first | rfl | (exfalso; omega) | (congr 1; omega)

set_option maxHeartbeats 2000000 in
theorem rotate_any (g cap N a m b : Nat) (f : Nat → Int) (cf : Value) (w : World) (hN : N ≤ 1152921504606846976) (h1 : a < m) (h2 : m < b) (h3 : b ≤ N) (hF : FS w g cap N f) :
    Calls Tryd.prog 103 #[.slice (some ⟨g, 0, none⟩) N cap, .int .i64 a, .int .i64 m, .int .i64 b, cf] w fun e w' => e = .returned (.tuple #[]) ∧ FS w' g cap N (rotF f a m b) ∧ But g w w' := by
  go_enter Tryd.func103, Tryd.ntmps103
  go_wp2_with fail
  go_loopw [10, 11] (fun x y wr => ∃ i j : Nat, 1 ≤ i ∧ 1 ≤ j ∧ i ≤ m ∧ m + j ≤ N ∧ x = .int .i64 i ∧ y = .int .i64 j ∧ (∃ f', Hid (rotF f' (m - i) m (m + j) = rotF f a m b) ∧ FS wr g cap N f') ∧ But g w wr) (fun x y _ => (intOf x).toNat + (intOf y).toNat)
  case atStart => exact ⟨m - a, b - m, by omega, by omega, by omega, by omega, by go_num, by go_num, ⟨f, by rw [show m - (m - a) = a by omega, show m + (b - m) = b by omega]; exact rfl, hF⟩, But.refl _ _⟩
  case round =>
    obtain ⟨i, j, hi, hj, him, hjN, rfl, rfl, ⟨f', hr, hf⟩, hbut⟩ := hrel
    clear hF
    rcases Nat.lt_trichotomy i j with hij | hij | hij
    · obtain ⟨p, hp⟩ : ∃ p, m - i = p := ⟨_, rfl⟩
      obtain ⟨q, hq⟩ : ∃ q, m + j - i = q := ⟨_, rfl⟩
      have hs := Lib.hid (rot_step2 f' m i j him hij)
      rw [hp, hq] at hs
      have w1 := wrap_nat ((m : Int) - (i : Int)) p (by omega) (by omega)
      have w1' : (m : Int) - (i : Int) = p := by omega
      have w2' : (m : Int) + (j : Int) - (i : Int) = q := by omega
      have hne : ((i : Int) != (j : Int)) = true := by simp; omega
      have bq : p + i ≤ q := by omega
      have bq2 : q + i ≤ N := by omega
      have HPQ := Lib.hid (And.intro hp hq)
      clear hp hq
      go_wp2_with fail
      refine (swapRange_any g cap N p q i f' cf _ hN bq bq2 hf).mono ?_
      rintro e w' ⟨rfl, hf2, hbut2⟩
      clear w1 w1' w2'
      go_wp2_with fail
      go_roundw
      case rel => exact ⟨i, j - i, by omega, by omega, by omega, by omega, rfl, by go_num, ⟨_, by rw [HPQ.out.1]; exact hs.out.trans (by rw [← HPQ.out.1]; exact hr.out), hf2⟩, hbut.trans hbut2⟩
      case measure => simp [intOf]; omega
    · subst hij
      have hs := Lib.hid (rot_end f' m i him)
      obtain ⟨p, hp⟩ : ∃ p, m - i = p := ⟨_, rfl⟩
      rw [hp] at hs
      have w1' : (m : Int) - (i : Int) = p := by omega
      have bq : p + i ≤ m := by omega
      have HP := Lib.hid hp
      clear hp
      have hne : ((i : Int) != (i : Int)) = false := by simp
      go_wp2_with fail
      refine (swapRange_any g cap N p m i f' cf _ hN bq hjN hf).mono ?_
      rintro e w' ⟨rfl, hf2, hbut2⟩
      clear w1'
      go_wp2_with fail
      go_end0
      exact ⟨rfl, by rw [hs.out] at hf2; rw [← hr.out, HP.out]; exact hf2, hbut.trans hbut2⟩
    · obtain ⟨p, hp⟩ : ∃ p, m - i = p := ⟨_, rfl⟩
      have hs := Lib.hid (rot_step1 f' m i j him hij)
      rw [hp] at hs
      have w1' : (m : Int) - (i : Int) = p := by omega
      have hne : ((i : Int) != (j : Int)) = true := by simp; omega
      have bq : p + j ≤ m := by omega
      have HP := Lib.hid hp
      clear hp
      go_wp2_with fail
      refine (swapRange_any g cap N p m j f' cf _ hN bq hjN hf).mono ?_
      rintro e w' ⟨rfl, hf2, hbut2⟩
      clear w1'
      go_wp2_with fail
      go_roundw
      case rel => exact ⟨i - j, j, by omega, by omega, by omega, by omega, by go_num, rfl, ⟨_, hs.out.trans (by rw [← HP.out]; exact hr.out), hf2⟩, hbut.trans hbut2⟩
      case measure => simp [intOf]; omega
end Go.Proofs.YtahgffjkkdbjeaaDoor
namespace Go.Proofs.YtahgffjkkdbjeaaDoor
open Go.RowKit
/-- The row of numbers, all from 0 on. -/
abbrev FN (w : World) (g cap N : Nat) (f : Nat → Nat) : Prop := FS w g cap N (fun p => (f p : Int))
/-- The closure c compares the numbers below M by their keys K, in every world that is w but for block g. -/
def CmpOk (c1 c2 : Value) (K : Nat → Nat) (M g : Nat) (w : World) : Prop :=
  ∀ (W : World) (y z : Nat), But g w W → y < M → z < M → Calls Tryd.prog 51 #[.int .i64 y, .int .i64 z, c1, c2] W fun e W' => e = .returned (.int .i64 (cmp3 (K y) (K z))) ∧ ∃ n, W' = W.drewN n
theorem CmpOk.but {c1 c2 : Value} {K : Nat → Nat} {M g : Nat} {w w' : World} (h : CmpOk c1 c2 K M g w) (hb : But g w w') : CmpOk c1 c2 K M g w' := fun W y z hW hy hz => h W y z (hb.trans hW) hy hz
theorem FN.swap {w : World} {g cap N : Nat} {f : Nat → Nat} (h : FN w g cap N f) (j j' : Nat) (hj : j' = j - 1) : FN ((w.setCell ⟨g, j, none⟩ (.int .i64 (f j'))).setCell ⟨g, j', none⟩ (.int .i64 (f j))) g cap N (swp1 f j) := by
  have h2 := (FS.set (FS.set h j (f j' : Int)) j' (f j : Int))
  refine h2.congr fun p _ => ?_
  unfold upd swp1
  subst hj
  (repeat' split) <;> rfl
/-- What an insertion sort has done. -/
def InsPost (w : World) (g cap N a b : Nat) (K f : Nat → Nat) (e : Ending) (w' : World) : Prop := e = .returned (.tuple #[]) ∧ But g w w' ∧ ∃ f', FN w' g cap N f' ∧ Srt K f' a b ∧ Same f f' a b

set_option maxHeartbeats 4000000 in
theorem insSort_any (g cap N a b M : Nat) (K f : Nat → Nat) (c1 c2 : Value) (w : World) (hN : N ≤ 1152921504606846976) (hab : a ≤ b) (hb : b ≤ N) (hF : FN w g cap N f) (hM : ∀ p, p < N → f p < M)
    (ht : ∀ p q, a ≤ p → p < q → q < b → K (f p) = K (f q) → f p < f q) (hc : CmpOk c1 c2 K M g w) :
    Calls Tryd.prog 100 #[.slice (some ⟨g, 0, none⟩) N cap, .int .i64 a, .int .i64 b, .func (.func 51) #[] #[c1, c2]] w (InsPost w g cap N a b K f) := by
  have HT := Lib.hid ht
  have HM := Lib.hid hM
  have HC := Lib.hid hc
  clear ht hM hc
  go_enter Tryd.func100, Tryd.ntmps100
  go_wp2_with fail
  go_loopw [8, 9] (fun x _ wr => ∃ i : Nat, a + 1 ≤ i ∧ (i ≤ b ∨ i = a + 1) ∧ x = .int .i64 i ∧ But g w wr ∧ ∃ fi, FN wr g cap N fi ∧ Hid (OutInv K f fi a i)) (fun x _ _ => b - (intOf x).toNat)
  case atStart => exact ⟨a + 1, by omega, by omega, by go_num, But.refl _ _, f, hF, OutInv.start K f a⟩
  case round =>
    obtain ⟨i, hi1, hi2, rfl, hbut, fi, hfi, hout⟩ := hrel
    by_cases hlt : i < b
    · obtain ⟨wo, rfl⟩ : ∃ wo : World, wo = wr := ⟨_, rfl⟩
      go_wp2_with fail
      go_loopw [9] (fun x wr => ∃ j : Nat, a ≤ j ∧ j ≤ i ∧ x = .int .i64 j ∧ But g w wr ∧ ∃ fj, FN wr g cap N fj ∧ Hid (InsInv K f fj a i j)) (fun x _ => (intOf x).toNat)
      case atStart => exact ⟨i, by omega, by omega, rfl, hbut, fi, hfi, InsInv.start hout.out (by omega)⟩
      case round =>
        obtain ⟨j, hj1, hj2, rfl, hbut2, fj, hfj, hins⟩ := hrel
        clear hbut hfi
        have hfin : Hid ((j = a ∨ K (fj (j - 1)) ≤ K (f i)) → OutInv K f fj a (i + 1)) := fun hk => hins.out.done (fun q h1 h2 h3 => HT.out q i h1 h2 (by omega) h3) hk
        by_cases hja : a < j
        · obtain ⟨j', hj'⟩ : ∃ j', j' = j - 1 := ⟨_, rfl⟩
          have w1 := wrap_nat ((j : Int) - 1) j' (by omega) (by omega)
          have w1' : (j : Int) - 1 = j' := by omega
          have cj := hfj.cell j (by omega)
          have cj' := hfj.cell j' (by omega)
          have fr1 := hfj.free j
          have fr2 := hfj.free j'
          have hne1 : j ≠ j' := by omega
          have hne2 : j' ≠ j := by omega
          have bj' : j' < N := by omega
          have hsw := hfj.swap j j' hj'
          have HJ := Lib.hid hj'
          have hmv : fj j = f i := hins.out.mv
          have mb : ∀ p, p < N → fj p < M := fun p hp => by
            by_cases e : a ≤ p ∧ p ≤ i
            · by_cases e2 : p = j
              · rw [e2, hmv]; exact HM.out i (by omega)
              · obtain ⟨q, q1, q2, q3⟩ := hins.out.src p e.1 e.2 e2
                rw [q3]; exact HM.out q (by omega)
            · rw [hins.out.out p e]; exact HM.out p hp
          have mj := mb j (by omega)
          have mj' := mb j' bj'
          have hcm := HC.out.but hbut2
          have HCM := Lib.hid hcm
          clear hcm mb hj'
          by_cases hk : K (f i) < K (fj j')
          · have hi2 := Lib.hid (hins.out.swap hja (by rw [← HJ.out]; exact hk))
            have hcb : cmp3 (K (fj j)) (K (fj j')) < 0 := by rw [hmv]; unfold cmp3; rw [if_pos hk]; decide
            clear hk hmv
            go_wp2_with fail
            go_quiet ((exact Calls.quiet_of (HCM.out _ _ _ ((But.refl _ _).drewN _) mj mj')))
            go_wp2_with fail
            go_region
            go_wp2_with fail
            go_roundw
            case rel => exact ⟨j', by omega, by omega, rfl, ((hbut2.drewN _).set _ _).set _ _, _, hsw, by rw [HJ.out]; exact hi2.out⟩
            case measure => simp [intOf]; omega
          · have hi2 := Lib.hid (hfin.out (.inr (by rw [← HJ.out]; omega)))
            have hcb : ¬ (cmp3 (K (fj j)) (K (fj j')) < 0) := by rw [hmv]; unfold cmp3; rw [if_neg hk]; split <;> decide
            clear hk hmv
            go_wp2_with fail
            go_quiet ((exact Calls.quiet_of (HCM.out _ _ _ ((But.refl _ _).drewN _) mj mj')))
            go_wp2_with fail
            go_roundw
            case rel => exact ⟨i + 1, by omega, by omega, by go_num, hbut2.drewN _, fj, hfj.drewN _, hi2⟩
            case measure => simp [intOf]; omega
        · have hd : decide ((a : Int) < (j : Int)) = false := by simp; omega
          have hi2 := Lib.hid (hfin.out (.inl (by omega)))
          go_wp2_with fail
          go_quiet (fail)
          go_wp2_with fail
          go_roundw
          case rel => exact ⟨i + 1, by omega, by omega, by go_num, hbut2.drewN _, fj, hfj.drewN _, hi2⟩
          case measure => simp [intOf]; omega
    · go_wp2_with fail
      go_end0
      refine ⟨rfl, hbut, fi, hfi, ?_⟩
      rcases hi2 with h | h
      · have : i = b := by omega
        subst this
        exact ⟨hout.out.srt, hout.out.same⟩
      · have h0 := hout.out
        subst h
        refine ⟨fun p q h1 h2 h3 => by omega, fun p hp => ?_, fun v => ?_⟩
        · by_cases e : p = a
          · obtain ⟨q, q1, q2, q3⟩ := h0.src a (by omega) (by omega)
            rw [e, q3, show q = a by omega]
          · exact h0.out p (by omega)
        · rcases Nat.lt_or_ge a b with e | e
          · have : b = a + 1 := by omega
            subst this
            exact h0.same.2 v
          · constructor
            · rintro ⟨p, hp, _⟩; omega
            · rintro ⟨p, hp, _⟩; omega
end Go.Proofs.YtahgffjkkdbjeaaDoor
