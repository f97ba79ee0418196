/- slices.Contains of names and of numbers. -/
import Derived.Test.YtahgffjkkdbjeaaDoorZ2
namespace Go.Proofs.YtahgffjkkdbjeaaDoor
open Go.RowKit
def isS (s : ByteArray) (x : ByteArray) : Bool := decide (s = x)
def isI (s x : Int) : Bool := decide (s = x)
theorem sA_get {l : List ByteArray} {k : Nat} (h : k < l.length) : sA l k = l[k] := by simp [sA, h]
theorem iA_get {l : List Int} {k : Nat} (h : k < l.length) : iA l k = l[k] := by simp [iA, h]
set_option maxRecDepth 100000 in
set_option maxHeartbeats 1000000 in
theorem indexS_any (a : Option Addr) (N c : Nat) (l : List ByteArray) (s : ByteArray) (w : World) (hl : l.length = N) (hN : N ≤ 1152921504606846976) (hA : Rd w a (fl encS l)) :
    Calls Tryd.prog 72 #[.slice a N c, .string s] w fun e w' => e = .returned (.int .i64 (idxF (isS s) l)) ∧ w' = w := by
  have HL := Lib.hid hl
  have HA := Lib.hid hA
  clear hl hA
  go_enter Tryd.func72, Tryd.ntmps72
  go_wp2_with fail
  go_loopw [8, 5] (fun x _ wr => ∃ k : Nat, k ≤ N ∧ x = .int .i64 k ∧ Hid (NoneBefore (isS s) l k) ∧ wr = w) (fun x _ _ => N - (intOf x).toNat)
  case atStart => exact ⟨0, by omega, rfl, NoneBefore.zero _ _, rfl⟩
  case round =>
    obtain ⟨k, hk, rfl, hnb, rfl⟩ := hrel
    by_cases hlt : k < N
    · obtain ⟨b, o, rfl, _, hc⟩ := rdS HA.out (by rw [HL.out]; omega)
      have hkl : k < l.length := by rw [HL.out]; exact hlt
      have G := hc k hkl
      have HY : Hid (s = sA l k → idxF (isS s) l = k) := fun e => hnb.out.found hkl (by rw [← sA_get hkl, isS]; exact decide_eq_true e)
      have HNX : Hid (¬ s = sA l k → NoneBefore (isS s) l (k + 1)) := fun e => hnb.out.next hkl (by rw [← sA_get hkl, isS]; exact decide_eq_false e)
      clear hc hkl
      generalize sA l k = z at *
      by_cases q : s = z
      · have t : (s.toList == z.toList) = true := by rw [q]; simp
        have hy := Lib.hid (HY.out q)
        clear q HY HNX
        go_wp2_with fail
        go_ret
        exact ⟨by rw [hy.out]; rfl, rfl⟩
      · have t : (s.toList == z.toList) = false := by
          rw [beq_eq_false_iff_ne]
          exact fun h => q (ba_inj.1 h)
        have hy := Lib.hid (HNX.out q)
        clear q HY HNX
        go_wp2_with fail
        go_roundw
        case rel => exact ⟨k + 1, by omega, by go_num, hy, by trivial⟩
        case measure => simp [intOf]; omega
    · have hy : Hid (idxF (isS s) l = -1) := NoneBefore.none hnb.out (by rw [HL.out]; omega)
      go_wp2_with fail
      go_ret
      exact ⟨by rw [hy.out]; rfl, rfl⟩
set_option maxHeartbeats 1000000 in
theorem containsS_any (a : Option Addr) (N c : Nat) (l : List ByteArray) (s : ByteArray) (w : World) (hl : l.length = N) (hN : N ≤ 1152921504606846976) (hA : Rd w a (fl encS l)) :
    Calls Tryd.prog 33 #[.slice a N c, .string s] w fun e w' => e = .returned (.bool (l.any (isS s))) ∧ w' = w := by
  have H := Lib.hid (indexS_any a N c l s w hl hN hA)
  have hb : Hid (decide (0 ≤ idxF (isS s) l) = l.any (isS s)) := idxF_ge _ _
  clear hl hA
  go_enter Tryd.func33, Tryd.ntmps33
  go_wp2_with fail
  refine H.out.mono ?_
  rintro e w' ⟨rfl, rfl⟩
  generalize idxF (isS s) l = z at *
  go_wp2_with fail
  go_ret
  exact ⟨by rw [← hb.out]; rfl, rfl⟩
set_option maxRecDepth 100000 in
set_option maxHeartbeats 1000000 in
theorem indexI_any (a : Option Addr) (N c : Nat) (l : List Int) (s : Int) (w : World) (hl : l.length = N) (hN : N ≤ 1152921504606846976) (hA : Rd w a (fl encI l)) :
    Calls Tryd.prog 73 #[.slice a N c, .int .i64 s] w fun e w' => e = .returned (.int .i64 (idxF (isI s) l)) ∧ w' = w := by
  have HL := Lib.hid hl
  have HA := Lib.hid hA
  clear hl hA
  go_enter Tryd.func73, Tryd.ntmps73
  go_wp2_with fail
  go_loopw [8, 5] (fun x _ wr => ∃ k : Nat, k ≤ N ∧ x = .int .i64 k ∧ Hid (NoneBefore (isI s) l k) ∧ wr = w) (fun x _ _ => N - (intOf x).toNat)
  case atStart => exact ⟨0, by omega, rfl, NoneBefore.zero _ _, rfl⟩
  case round =>
    obtain ⟨k, hk, rfl, hnb, rfl⟩ := hrel
    by_cases hlt : k < N
    · obtain ⟨b, o, rfl, _, hc⟩ := rdI HA.out (by rw [HL.out]; omega)
      have hkl : k < l.length := by rw [HL.out]; exact hlt
      have G := hc k hkl
      have HY : Hid (s = iA l k → idxF (isI s) l = k) := fun e => hnb.out.found hkl (by rw [← iA_get hkl, isI]; exact decide_eq_true e)
      have HNX : Hid (¬ s = iA l k → NoneBefore (isI s) l (k + 1)) := fun e => hnb.out.next hkl (by rw [← iA_get hkl, isI]; exact decide_eq_false e)
      clear hc hkl
      generalize iA l k = z at *
      by_cases q : s = z
      · have t : (s == z) = true := by rw [q]; simp
        have hy := Lib.hid (HY.out q)
        clear q HY HNX
        go_wp2_with fail
        go_ret
        exact ⟨by rw [hy.out]; rfl, rfl⟩
      · have t : (s == z) = false := by
          rw [beq_eq_false_iff_ne]
          exact q
        have hy := Lib.hid (HNX.out q)
        clear q HY HNX
        go_wp2_with fail
        go_roundw
        case rel => exact ⟨k + 1, by omega, by go_num, hy, by trivial⟩
        case measure => simp [intOf]; omega
    · have hy : Hid (idxF (isI s) l = -1) := NoneBefore.none hnb.out (by rw [HL.out]; omega)
      go_wp2_with fail
      go_ret
      exact ⟨by rw [hy.out]; rfl, rfl⟩
set_option maxHeartbeats 1000000 in
theorem containsI_any (a : Option Addr) (N c : Nat) (l : List Int) (s : Int) (w : World) (hl : l.length = N) (hN : N ≤ 1152921504606846976) (hA : Rd w a (fl encI l)) :
    Calls Tryd.prog 34 #[.slice a N c, .int .i64 s] w fun e w' => e = .returned (.bool (l.any (isI s))) ∧ w' = w := by
  have H := Lib.hid (indexI_any a N c l s w hl hN hA)
  have hb : Hid (decide (0 ≤ idxF (isI s) l) = l.any (isI s)) := idxF_ge _ _
  clear hl hA
  go_enter Tryd.func34, Tryd.ntmps34
  go_wp2_with fail
  refine H.out.mono ?_
  rintro e w' ⟨rfl, rfl⟩
  generalize idxF (isI s) l = z at *
  go_wp2_with fail
  go_ret
  exact ⟨by rw [← hb.out]; rfl, rfl⟩
end Go.Proofs.YtahgffjkkdbjeaaDoor
