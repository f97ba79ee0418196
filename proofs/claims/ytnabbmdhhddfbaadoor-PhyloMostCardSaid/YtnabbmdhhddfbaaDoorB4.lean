/- slices.IndexFunc and ContainsFunc of ints; phylo.Largest's test and its recursive closure. -/
import Derived.Test.YtnabbmdhhddfbaaDoorB0
import Derived.Test.YtnabbmdhhddfbaaDoorB1
import Derived.Test.YtnabbmdhhddfbaaDoorA16
namespace Go.Proofs.YtnabbmdhhddfbaaDoor
open Go.RowKit Go.Shelf
theorem iA_get {l : List Int} {k : Nat} (h : k < l.length) : iA l k = l[k] := by simp [iA, h]
set_option maxRecDepth 100000 in
set_option maxHeartbeats 1000000 in
theorem indexI_any (g : Nat) (hen : Enters Tryd.prog g) (env : Array Value) (p : Int → Bool) (a : Option Addr) (N c : Nat) (l : List Int) (w : World) (hl : l.length = N) (hN : N ≤ 1152921504606846976) (hA : Rd w a (fl encI l))
    (hp : ∀ i, i < N → ∀ W, Below w.heap.size w W → Calls Tryd.prog g (#[.int .i64 (iA l i)] ++ env) W fun e w' => e = .returned (.bool (p (iA l i))) ∧ Below W.heap.size W w') :
    Calls Tryd.prog 70 #[.slice a N c, .func (.func g) #[] env] w fun e w' => e = .returned (.int .i64 (idxF p l)) ∧ Below w.heap.size w w' := by
  have HL := Lib.hid hl
  have HA := Lib.hid hA
  have HP := Lib.hid hp
  clear hl hA hp
  have hbz := Below.refl w.heap.size w
  go_enter Tryd.func70, Tryd.ntmps70
  go_wp2_with fail
  go_loopw [8, 5] (fun x _ wr => ∃ k : Nat, k ≤ N ∧ x = .int .i64 k ∧ Hid (NoneBefore p l k) ∧ Below w.heap.size w wr) (fun x _ _ => N - (intOf x).toNat)
  case atStart => exact ⟨0, by omega, rfl, NoneBefore.zero _ _, hbz⟩
  case round =>
    obtain ⟨k, hk, rfl, hnb, hbl⟩ := hrel
    clear hbz
    by_cases hlt : k < N
    · obtain ⟨b, o, rfl, hb, hc⟩ := rdI HA.out (by rw [HL.out]; omega)
      have hkl : k < l.length := by rw [HL.out]; exact hlt
      have G := (hbl.cell (p := ⟨b, o + k, none⟩) hb).trans (hc k hkl)
      have HC := Lib.hid (HP.out k hlt wr hbl)
      have HY : Hid (p (iA l k) = true → idxF p l = k) := fun e => hnb.out.found hkl (by rw [← iA_get hkl]; exact e)
      have HNX : Hid (p (iA l k) = false → NoneBefore p l (k + 1)) := fun e => hnb.out.next hkl (by rw [← iA_get hkl]; exact e)
      clear hc hkl
      generalize iA l k = z at *
      have hcall := fun args W => hen args W
      go_wp2_with fail
      refine HC.out.mono ?_
      rintro e w1 ⟨rfl, hb1⟩
      clear hcall
      have hbl1 := hbl.trans (hb1.mono hbl.size)
      rcases Bool.eq_false_or_eq_true (p z) with q | q
      · have hy := Lib.hid (HY.out q)
        rw [q]
        clear q HY HNX
        go_wp2_with fail
        go_ret
        exact ⟨by rw [hy.out]; rfl, hbl1⟩
      · have hy := Lib.hid (HNX.out q)
        rw [q]
        clear q HY HNX
        go_wp2_with fail
        go_roundw
        case rel => exact ⟨k + 1, by omega, by go_num, hy, hbl1⟩
        case measure => simp [intOf]; omega
    · have hy : Hid (idxF p l = -1) := NoneBefore.none hnb.out (by rw [HL.out]; omega)
      go_wp2_with fail
      go_ret
      exact ⟨by rw [hy.out]; rfl, hbl⟩
set_option maxHeartbeats 1000000 in
theorem containsI_any (g : Nat) (hen : Enters Tryd.prog g) (env : Array Value) (p : Int → Bool) (a : Option Addr) (N c : Nat) (l : List Int) (w : World) (hl : l.length = N) (hN : N ≤ 1152921504606846976) (hA : Rd w a (fl encI l))
    (hp : ∀ i, i < N → ∀ W, Below w.heap.size w W → Calls Tryd.prog g (#[.int .i64 (iA l i)] ++ env) W fun e w' => e = .returned (.bool (p (iA l i))) ∧ Below W.heap.size W w') :
    Calls Tryd.prog 47 #[.slice a N c, .func (.func g) #[] env] w fun e w' => e = .returned (.bool (l.any p)) ∧ Below w.heap.size w w' := by
  have H := Lib.hid (indexI_any g hen env p a N c l w hl hN hA hp)
  have hb : Hid (decide (0 ≤ idxF p l) = l.any p) := idxF_ge _ _
  clear hl hA hp hen
  go_enter Tryd.func47, Tryd.ntmps47
  go_wp2_with fail
  refine H.out.mono ?_
  rintro e w' ⟨rfl, hb1⟩
  generalize idxF p l = z at *
  go_wp2_with fail
  go_ret
  exact ⟨by rw [← hb.out]; rfl, hb1⟩
def iN (l : List Nat) : List Int := l.map fun x : Nat => (x : Int)
theorem iN_len (l : List Nat) : (iN l).length = l.length := by simp [iN]
theorem iN_snoc (l : List Nat) (x : Nat) : iN (l ++ [x]) = iN l ++ [(x : Int)] := by simp [iN]
theorem iN_get (l : List Nat) (k : Nat) : iA (iN l) k = (vA l k : Int) := by
  unfold iA iN vA
  rw [List.getD_eq_getElem?_getD, List.getD_eq_getElem?_getD, List.getElem?_map]
  cases l[k]? <;> rfl
set_option maxRecDepth 100000 in
set_option maxHeartbeats 1000000 in
theorem lg2_any (k i XT I M : Nat) (a : Option Addr) (N c : Nat) (l : List Nat) (w : World) (hl : l.length = N) (hN : N ≤ 64) (hk : k < N) (hi : i < N) (hF : FitV l) (hA : Rd w a (fl encV l)) (hT : Blk w XT #[.int .i64 M, .slice a N c] 24) (hI : Blk w I #[.int .i64 i] 3) :
    Calls Tryd.prog 48 #[.int .i64 k, .pointer (some ⟨XT, 0, none⟩), .pointer (some ⟨I, 0, none⟩)] w fun e w' => e = .returned (.bool (!fitB (vA l k) (vA l i))) ∧ ∃ n, w' = w.drewN n := by
  obtain ⟨b, o, rfl, hb, hc⟩ := rdV hA (by omega)
  have g1 := hc k (by omega)
  have g2 := hc i (by omega)
  have x1 := hF k (by omega)
  have x2 := hF i (by omega)
  have e1 : w.cell? ⟨XT, 1, none⟩ = some (.slice (some ⟨b, o, none⟩) N c) := hT.cell 1
  have e2 : w.cell? ⟨I, 0, none⟩ = some (.int .i64 i) := hI.cell 0
  have HC := Lib.hid (fun W => fits_any (vA l k) (vA l i) W x1 x2)
  clear hl hF hA hT hI hc x1 x2
  generalize vA l k = x at *
  generalize vA l i = y at *
  obtain ⟨bt, hbt⟩ : ∃ b, fitB x y = b := ⟨_, rfl⟩
  rw [hbt] at HC ⊢
  clear hbt
  go_enter Tryd.func48, Tryd.ntmps48
  go_wp2_with fail
  go_quiet ((exact Calls.quiet_of_same (HC.out _)))
  go_wp2_with fail
  go_ret
  exact ⟨rfl, _, rfl⟩
end Go.Proofs.YtnabbmdhhddfbaaDoor
