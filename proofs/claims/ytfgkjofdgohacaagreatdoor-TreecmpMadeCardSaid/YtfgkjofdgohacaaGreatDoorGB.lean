/- The document's tree: the deepest common node. The document's tree: node, at a node of a tree. The document's tree: the set of a node. The document's tree: common nodes and ways, plain. The document's tree: ways are increasing; the node above, plain. The sets of a tree's nodes: plain. The place of a leaf, plain. The set of a node: its leaves are those whose way it lies on. The document's set of a node is the program's. A drawn region: reads first, then operations that keep a condition, of which two at a time may come up; then the forced end. Sets of numbers of 64 bits in maps of the call's own. Plain: how many bits of a number are set, by sums of its digits. Bits of numbers, sorted lists (plain). Lists of numbers in increasing order, each once (plain). treecmp: sets of numbers: has, put. maps.Keys of sets of numbers: the iterator. slices.Sort of numbers of 64 bits: the row in memory; cmp.Less; insertion. slices.Sort of numbers of 64 bits: the heap; the turned range. slices.Sort of numbers of 64 bits: sorting by the heap; the turned range. slices.Sort of numbers of 64 bits: the turned range; insertion in part. -/
import Derived.Test.YtfgkjofdgohacaaGreatDoorGA
import Derived.Maps.OwnSet
import Derived.Maps.OwnIn
import Derived.Maps.RangeWalk
import Derived.WalkKit
import Derived.Sort.MapsRangeIn
import Derived.RangeFuncKeeps
import Derived.RangeFuncWrites
import Derived.Sort.AssemblyPlain
import Derived.Sort.Grow
import Derived.CellFam
import Derived.BigGuard
import Derived.BigCall
namespace Go.Proofs.YtfgkjofdgohacaaGreatDoor
open Go Go.RowKit Go.Shelf
/-- How far two lists agree. -/
def preL : List Nat → List Nat → Nat
  | x :: xs, y :: ys => if x = y then preL xs ys + 1 else 0
  | _, _ => 0
theorem preL_eq : ∀ (x y : List Nat) (k : Nat), k ≤ x.length → k ≤ y.length → (∀ i, i < k → vA x i = vA y i) → (k = x.length ∨ k = y.length ∨ vA x k ≠ vA y k) → preL x y = k := by
  intro x
  induction x with
  | nil => intro y k h1 _ _ _; simp at h1; subst h1; cases y <;> rfl
  | cons a x ih =>
    intro y k h1 h2 h3 h4
    cases y with
    | nil => simp at h2; subst h2; rfl
    | cons b y =>
      unfold preL
      cases k with
      | zero =>
        rcases h4 with h4 | h4 | h4
        · simp at h4
        · simp at h4
        · rw [if_neg (by simpa [vA] using h4)]
      | succ k =>
        have e : a = b := by have := h3 0 (by omega); simpa [vA] using this
        rw [if_pos e, ih y k (by simpa using h1) (by simpa using h2) (fun i hi => by have := h3 (i + 1) (by omega); simpa [vA] using this) (by simpa [vA] using h4)]
theorem pthF_pos (t : List Nd) : ∀ f v, 0 < (pthF t f v).length ∧ vA (pthF t f v) 0 = 0 := by
  intro f
  induction f with
  | zero => intro v; exact ⟨by simp [pthF], rfl⟩
  | succ f ih =>
    intro v
    unfold pthF
    split
    · exact ⟨by simp, rfl⟩
    · obtain ⟨h1, h2⟩ := ih (nP t v).toNat
      refine ⟨by rw [List.length_append]; omega, ?_⟩
      have e : vA (pthF t f (nP t v).toNat ++ [v]) 0 = vA (pthF t f (nP t v).toNat) 0 := by
        simp only [vA, List.getD_eq_getElem?_getD]
        rw [List.getElem?_append_left h1]
      rw [e]; exact h2
/-- The deepest common node. -/
def cmN (t : List Nd) (f u v : Nat) : Nat := vA (pthF t f u) (preL (pthF t f u) (pthF t f v) - 1)
set_option maxRecDepth 100000 in
set_option maxHeartbeats 2000000 in
theorem rcommon_any (a : Option Addr) (n c : Nat) (t : List Nd) (hn : t.length = n) (hN : n ≤ 900) (hP : ∀ v, 0 < v → v < n → 0 ≤ nP t v ∧ nP t v < v) (u v : Nat) (hu : u < n) (hv : v < n) (w : World) (hA : Rd w a (fl encNd t)) :
    Calls Tryz.prog 118 #[.slice a n c, .int .i64 u, .int .i64 v] w fun e w' => e = .returned (.int .i64 (cmN t n u v)) ∧ Below w.heap.size w w' := by
  have HP1 := Lib.hid (rpath_any a n c t hn (by omega) hP n u (by omega) (by omega) hu w hA)
  have HP2 := Lib.hid (fun W (h : Below w.heap.size w W) => rpath_any a n c t hn (by omega) hP n v (by omega) (by omega) hv W (hA.bl h))
  have hx1 := pthF_pos t n u
  have hy1 := pthF_pos t n v
  have hx2 := pthF_le t n u
  have hy2 := pthF_le t n v
  have HCM : Hid (cmN t n u v = vA (pthF t n u) (preL (pthF t n u) (pthF t n v) - 1)) := rfl
  obtain ⟨xs, hxs⟩ : ∃ x, x = pthF t n u := ⟨_, rfl⟩
  obtain ⟨ys, hys⟩ : ∃ x, x = pthF t n v := ⟨_, rfl⟩
  rw [← hxs] at HP1 hx1 hx2 HCM
  rw [← hys] at HP2 hy1 hy2 HCM
  obtain ⟨hx0, hx1⟩ := hx1
  obtain ⟨hy0, hy1⟩ := hy1
  obtain ⟨p, hp⟩ : ∃ p, p = xs.length := ⟨_, rfl⟩
  obtain ⟨q, hq⟩ : ∃ q, q = ys.length := ⟨_, rfl⟩
  rw [← hp] at HP1 hx0 hx2
  rw [← hq] at HP2 hy0 hy2
  have H00 : Hid (vA xs 0 = vA ys 0) := by show _ = _; rw [hx1, hy1]
  have HPE := Lib.hid hp
  have HQE := Lib.hid hq
  clear hxs hys hp hq hx1 hy1 hn hP hA
  go_enter Tryz.func118, Tryz.ntmps118
  go_wp2_with fail
  refine HP1.out.mono ?_
  rintro e w1 ⟨x1, rfl, ho1, hb1⟩
  obtain ⟨A1, c1, rfl, _⟩ := owns_slice ho1
  have HB1 := Lib.hid hb1
  have HO1 := Lib.hid ho1
  clear ho1 hb1 HP1
  go_wp2_with fail
  refine (HP2.out w1 HB1.out).mono ?_
  rintro e w2 ⟨x2, rfl, ho2, hb2⟩
  obtain ⟨A2, c2, rfl, _⟩ := owns_slice ho2
  have HB2 := Lib.hid (bl_trans HB1.out hb2)
  have HR1 := Lib.hid (rd_of_owns (owns_below HO1.out hb2))
  have HR2 := Lib.hid (rd_of_owns ho2)
  clear ho2 hb2 HP2 HB1 HO1
  go_wp2_with fail
  go_loopw [9] (fun x wr => ∃ k : Nat, k ≤ p ∧ k ≤ q ∧ x = .int .i64 k ∧ Hid (∀ i, i < k → vA xs i = vA ys i) ∧ ∃ m, wr = w2.drewN m) (fun x _ => p - (intOf x).toNat)
  case atStart => exact ⟨0, by omega, by omega, rfl, (fun i hi => by omega), 0, rfl⟩
  case round =>
    obtain ⟨k, hk1, hk2, rfl, hal, m, rfl⟩ := hrel
    obtain ⟨b1, o1, rfl, _, hc1⟩ := rdI HR1.out (by rw [iN_len, ← HPE.out]; omega)
    obtain ⟨b2, o2, rfl, _, hc2⟩ := rdI HR2.out (by rw [iN_len, ← HQE.out]; omega)
    have HFIN : Hid (0 < k → (k = p ∨ k = q ∨ vA xs k ≠ vA ys k) → cmN t n u v = vA xs (k - 1)) := fun _ h => by
      rw [HCM.out, preL_eq xs ys k (by rw [← HPE.out]; exact hk1) (by rw [← HQE.out]; exact hk2) hal.out (by rw [← HPE.out, ← HQE.out]; exact h)]
    have HNX : Hid (vA xs k = vA ys k → ∀ i, i < k + 1 → vA xs i = vA ys i) := fun h i hi => by
      rcases Nat.lt_or_ge i k with h2 | h2
      · exact hal.out i h2
      · obtain rfl : i = k := by omega
        exact h
    have HK0 : Hid (vA xs k ≠ vA ys k → 0 < k) := fun h => by
      rcases Nat.eq_zero_or_pos k with e | e
      · subst e; exact absurd H00.out h
      · exact e
    by_cases h1 : k < p
    · by_cases h2 : k < q
      · have G1 := hc1 k (by rw [iN_len, ← HPE.out]; exact h1)
        have G2 := hc2 k (by rw [iN_len, ← HQE.out]; exact h2)
        rw [iN_get] at G1 G2
        by_cases e : vA xs k = vA ys k
        · have HN2 := Lib.hid (HNX.out e)
          rw [← e] at G2
          clear hc1 hc2 HFIN HNX HK0 e
          generalize vA xs k = r at *
          go_wp2_with fail
          go_quiet (fail)
          go_wp2_with fail
          go_roundw
          case rel => exact ⟨k + 1, by omega, by omega, by go_num, HN2, m + nq, by simp⟩
          case measure => simp [intOf]; omega
        · have hk0 := HK0.out e
          have t1 : ((vA xs k : Int) == (vA ys k : Int)) = false := by simp; omega
          have t2 : decide ((vA xs k : Int) = (vA ys k : Int)) = false := by simp; omega
          have t3 : decide (vA xs k = vA ys k) = false := by simp [e]
          have hv := HFIN.out (by omega) (.inr (.inr e))
          have HJ : Hid (∃ j, k = j + 1 ∧ w2.cell? ⟨b1, o1 + j, none⟩ = some (.int .i64 (vA xs j : Int)) ∧ cmN t n u v = vA xs j) := by
            refine ⟨k - 1, by omega, ?_, hv⟩
            have h := hc1 (k - 1) (by rw [iN_len, ← HPE.out]; omega)
            rw [iN_get] at h; exact h
          clear hc1 hc2 HFIN HNX HK0 hv e
          go_wp2_with fail
          go_quiet (fail)
          go_upto_region 5 with fail
          obtain ⟨j, rfl, GJ, hv⟩ := HJ.out
          have HV := Lib.hid hv
          clear hv HJ
          generalize vA xs j = r at *
          go_wp2_with fail
          go_ret
          exact ⟨by rw [HV.out]; rfl, bl_drewN HB2.out (m + nq)⟩
      · have hk0 : 0 < k := by omega
        have hv := HFIN.out (by omega) (.inr (.inl (by omega)))
        have HJ : Hid (∃ j, k = j + 1 ∧ w2.cell? ⟨b1, o1 + j, none⟩ = some (.int .i64 (vA xs j : Int)) ∧ cmN t n u v = vA xs j) := by
          refine ⟨k - 1, by omega, ?_, hv⟩
          have h := hc1 (k - 1) (by rw [iN_len, ← HPE.out]; omega)
          rw [iN_get] at h; exact h
        clear hc1 hc2 HFIN HNX HK0 hv 
        go_wp2_with fail
        go_quiet (fail)
        go_upto_region 5 with fail
        obtain ⟨j, rfl, GJ, hv⟩ := HJ.out
        have HV := Lib.hid hv
        clear hv HJ
        generalize vA xs j = r at *
        go_wp2_with fail
        go_ret
        exact ⟨by rw [HV.out]; rfl, bl_drewN HB2.out (m + nq)⟩
    · have hk0 : 0 < k := by omega
      have hv := HFIN.out (by omega) (.inl (by omega))
      have HJ : Hid (∃ j, k = j + 1 ∧ w2.cell? ⟨b1, o1 + j, none⟩ = some (.int .i64 (vA xs j : Int)) ∧ cmN t n u v = vA xs j) := by
        refine ⟨k - 1, by omega, ?_, hv⟩
        have h := hc1 (k - 1) (by rw [iN_len, ← HPE.out]; omega)
        rw [iN_get] at h; exact h
      clear hc1 hc2 HFIN HNX HK0 hv 
      go_wp2_with fail
      go_quiet (fail)
      go_upto_region 5 with fail
      obtain ⟨j, rfl, GJ, hv⟩ := HJ.out
      have HV := Lib.hid hv
      clear hv HJ
      generalize vA xs j = r at *
      go_wp2_with fail
      go_ret
      exact ⟨by rw [HV.out]; rfl, bl_drewN HB2.out (m + nq)⟩
end Go.Proofs.YtfgkjofdgohacaaGreatDoor
namespace Go.Proofs.YtfgkjofdgohacaaGreatDoor
open Go Go.RowKit Go.Shelf
set_option maxHeartbeats 1000000 in
theorem rnode_any (a : Option Addr) (n c v : Nat) (t : List Nd) (w : World) (hn : t.length = n) (hok : TreeOk t) (hv : v < n) (hA : Rd w a (fl encNd t)) (hS : ∀ v, v < n → (nS t v).size ≤ 9223372036854775807) :
    Calls Tryz.prog 117 #[.slice a n c, .int .i64 v] w fun e w' => e = .returned (.int .i64 0) ∧ ∃ m, w' = w.drewN m := by
  have hn63 : n ≤ 63 := by have := hok.2.1; omega
  have HC := Lib.hid (rcheck_any a n c t w hn (by omega) hA hS)
  rw [chkE_good hok] at HC
  have d1 : decide ((v : Int) < 0) = false := decide_eq_false (by omega)
  have d2 : decide ((n : Int) ≤ (v : Int)) = false := decide_eq_false (by omega)
  clear hn hok hA hS
  go_enter Tryz.func117, Tryz.ntmps117
  go_wp2_with fail
  refine HC.out.mono ?_
  rintro e w1 ⟨rfl, m, rfl⟩
  go_wp2_with fail
  go_ret
  exact ⟨rfl, m, rfl⟩
end Go.Proofs.YtfgkjofdgohacaaGreatDoor
namespace Go.Proofs.YtfgkjofdgohacaaGreatDoor
open Go Go.RowKit Go.Shelf
/-- The set of v from the first k leaves. -/
def clF (t : List Nd) (n v : Nat) : Nat → Nat
  | 0 => 0
  | k + 1 => if cmN t n (vA (lvT t) k) v = v then clF t n v k ||| 2 ^ k else clF t n v k
theorem clF_lt (t : List Nd) (n v : Nat) : ∀ k, clF t n v k < 2 ^ k := by
  intro k
  induction k with
  | zero => exact Nat.one_pos
  | succ k ih =>
    have h : 2 ^ k < 2 ^ (k + 1) := Nat.pow_lt_pow_right (by omega) (by omega)
    unfold clF
    split
    · exact Nat.or_lt_two_pow (by omega) h
    · omega
set_option maxRecDepth 100000 in
set_option maxHeartbeats 2000000 in
theorem rclade_any (a : Option Addr) (n c v : Nat) (t : List Nd) (w : World) (hn : t.length = n) (hok : TreeOk t) (hv : v < n) (hA : Rd w a (fl encNd t)) (hS : ∀ v, v < n → (nS t v).size ≤ 9223372036854775807) :
    Calls Tryz.prog 91 #[.slice a n c, .int .i64 v] w fun e w' => e = .returned (.tuple #[.int .u64 (clF t n v (lvT t).length : Nat), .int .i64 0]) ∧ Below w.heap.size w w' := by
  have hn63 : n ≤ 63 := by have := hok.2.1; omega
  have HC := Lib.hid (rnode_any a n c v t w hn hok hv hA hS)
  have HL := Lib.hid (fun m => rLeaves_any a n c t (w.drewN m) hn (by omega) (hA.drewN m) hS)
  rw [chkE_good hok] at HL
  have HPP : Hid (∀ v, 0 < v → v < n → 0 ≤ nP t v ∧ nP t v < v) := fun v h1 h2 => tree_par hok v h1 (by rw [hn]; exact h2)
  have HLL : Hid (lvT t = lvsL t n) := by show _ = _; unfold lvT; rw [if_pos (chkE_good hok), hn]
  have HLT : Hid (∀ k, k < (lvT t).length → vA (lvT t) k < n) := fun k hk => by
    rw [HLL.out] at hk ⊢
    rw [vA_get hk]
    exact List.mem_range.1 (List.mem_filter.1 (List.getElem_mem hk)).1
  have hle : (lvT t).length ≤ n := by rw [HLL.out]; exact lvsL_le t n
  have HCN := Lib.hid (fun (x : Nat) (hx : x < n) W (h : Below w.heap.size w W) => rcommon_any a n c t hn (by omega) HPP.out x v hx hv W (hA.bl h))
  have HST : Hid (∀ k, clF t n v (k + 1) = if cmN t n (vA (lvT t) k) v = v then clF t n v k ||| 2 ^ k else clF t n v k) := fun _ => rfl
  have HLTC := Lib.hid (clF_lt t n v)
  obtain ⟨F, hF⟩ : ∃ F, clF t n v = F := ⟨_, rfl⟩
  rw [hF] at HST HLTC ⊢
  obtain ⟨ls, hls⟩ : ∃ x, x = lvT t := ⟨_, rfl⟩
  rw [← hls] at HL HLT hle HST ⊢
  obtain ⟨z, hz⟩ : ∃ x, x = ls.length := ⟨_, rfl⟩
  rw [← hz] at HL HLT hle ⊢
  have HZ := Lib.hid hz
  have HF0 : Hid (F 0 = 0) := by show _ = _; rw [← hF]; rfl
  clear hn hok hA hS hF hls hz HLL HPP
  go_enter Tryz.func91, Tryz.ntmps91
  go_wp2_with fail
  refine HC.out.mono ?_
  rintro e w1 ⟨rfl, m, rfl⟩
  go_wp2_with fail
  refine (HL.out m).mono ?_
  rintro e w2 ⟨x, rfl, ho, hb2⟩
  obtain ⟨A1, c1, rfl, _⟩ := owns_slice ho
  have HB2 := Lib.hid (bl_trans (bl_drewN (Below.refl w.heap.size w) m) hb2)
  have HR := Lib.hid (rd_of_owns ho)
  clear ho hb2 HC HL
  go_wp2_with fail
  go_loopw [10, 9] (fun x u wr => ∃ k : Nat, k ≤ z ∧ x = .int .i64 k ∧ u = .int .u64 (F k : Nat) ∧ Hid (Below w2.heap.size w2 wr)) (fun x _ _ => z - (intOf x).toNat)
  case atStart => exact ⟨0, by omega, rfl, by rw [HF0.out]; rfl, Below.refl _ _⟩
  case round =>
    obtain ⟨k, hk, rfl, rfl, hbl⟩ := hrel
    by_cases hlt : k < z
    · obtain ⟨b1, o1, rfl, _, hc1⟩ := rdI (HR.out.bl hbl.out) (by rw [iN_len, ← HZ.out]; omega)
      have G1 := hc1 k (by rw [iN_len, ← HZ.out]; exact hlt)
      rw [iN_get] at G1
      have HK := Lib.hid (HCN.out (vA ls k) (HLT.out k hlt) wr (bl_trans HB2.out hbl.out))
      have HSK := Lib.hid (HST.out k)
      have hfk := HLTC.out k
      have h64 : 2 ^ k < 18446744073709551616 := Nat.pow_lt_pow_right (m := k) (n := 64) (by omega) (by omega)
      clear hc1
      generalize vA ls k = x at *
      obtain ⟨y, hy⟩ : ∃ y, cmN t n x v = y := ⟨_, rfl⟩
      rw [hy] at HK HSK
      clear hy
      go_wp2_with fail
      refine HK.out.mono ?_
      rintro e w3 ⟨rfl, hb3⟩
      have HB3 := Lib.hid (bl_trans hbl.out hb3)
      clear hb3 hbl HK
      by_cases e : y = v
      · have hbo := bits_or (show F k < 18446744073709551616 by omega) h64
        have ew : ((2 : Int) ^ k) = ((2 ^ k : Nat) : Int) := by simp
        have HW : Hid (IntKind.u64.wrap (2 ^ k) = ((2 ^ k : Nat) : Int)) := by show _ = _; rw [ew, w64 _ h64]
        rw [if_pos e] at HSK
        obtain ⟨r, hr⟩ : ∃ r, F k ||| 2 ^ k = r := ⟨_, rfl⟩
        rw [hr] at hbo HSK
        obtain ⟨q, hq⟩ : ∃ q, 2 ^ k = q := ⟨_, rfl⟩
        rw [hq] at hbo HW
        have hw := HW.out
        subst e
        clear hr hq ew h64 hfk
        go_wp2_with fail
        go_roundw
        case rel => exact ⟨k + 1, by omega, by go_num, by rw [HSK.out], HB3⟩
        case measure => simp [intOf]; omega
      · have t1 : ((y : Int) == (v : Int)) = false := by simp; omega
        have t2 : decide ((y : Int) = (v : Int)) = false := by simp; omega
        rw [if_neg e] at HSK
        clear e h64 hfk
        go_wp2_with fail
        go_roundw
        case rel => exact ⟨k + 1, by omega, by go_num, by rw [HSK.out], HB3⟩
        case measure => simp [intOf]; omega
    · obtain rfl : k = z := by omega
      go_wp2_with fail
      exact bodyPost_ret (v := .tuple #[.int .u64 (F k : Nat), .int .i64 0]) (by simp [results, Tryz.results91, go_sem]) rfl ⟨rfl, bl_trans HB2.out hbl.out⟩
end Go.Proofs.YtfgkjofdgohacaaGreatDoor
namespace Go.Proofs.YtfgkjofdgohacaaGreatDoor
open Go Go.RowKit Go.Shelf
theorem pth_succ {t : List Nd} {n : Nat} (hP : ∀ v, 0 < v → v < n → 0 ≤ nP t v ∧ nP t v < v) {x : Nat} (h0 : 0 < x) (hx : x < n) : pthF t n x = pthF t n (nP t x).toNat ++ [x] := by
  obtain ⟨m, rfl⟩ : ∃ m, n = m + 1 := ⟨n - 1, by omega⟩
  have h := hP x h0 hx
  have e : pthF t (m + 1) x = pthF t m (nP t x).toNat ++ [x] := by rw [pthF, if_neg (by omega)]
  rw [e, pthF_eq hP m (m + 1) (nP t x).toNat (by omega) (by omega) (by omega)]
theorem pth_zero (t : List Nd) (n : Nat) : pthF t n 0 = [0] := by cases n <;> simp [pthF]
theorem pth_last {t : List Nd} {n : Nat} (hP : ∀ v, 0 < v → v < n → 0 ≤ nP t v ∧ nP t v < v) {x : Nat} (hx : x < n) : vA (pthF t n x) ((pthF t n x).length - 1) = x := by
  by_cases e : x = 0
  · subst e; rw [pth_zero]; rfl
  · rw [pth_succ hP (by omega) hx]; simp [vA]
theorem pth_prefix {t : List Nd} {n : Nat} (hP : ∀ v, 0 < v → v < n → 0 ≤ nP t v ∧ nP t v < v) {v : Nat} : ∀ k x, x ≤ k → x < n → v ∈ pthF t n x → pthF t n v <+: pthF t n x := by
  intro k
  induction k with
  | zero =>
    intro x hk hx hm
    obtain rfl : x = 0 := by omega
    rw [pth_zero, List.mem_singleton] at hm
    subst hm
    exact List.prefix_refl _
  | succ k ih =>
    intro x hk hx hm
    by_cases e : x = 0
    · subst e
      rw [pth_zero, List.mem_singleton] at hm
      subst hm
      exact List.prefix_refl _
    · have hp := hP x (by omega) hx
      have he := pth_succ hP (show 0 < x by omega) hx
      rw [he, List.mem_append] at hm
      rcases hm with hm | hm
      · rw [he]
        exact (ih (nP t x).toNat (by omega) (by omega) hm).trans (List.prefix_append _ _)
      · rw [List.mem_singleton] at hm
        subst hm
        exact List.prefix_refl _
theorem preL_le : ∀ x y : List Nat, preL x y ≤ x.length := by
  intro x
  induction x with
  | nil => intro y; cases y <;> exact Nat.le_refl _
  | cons a x ih =>
    intro y
    cases y with
    | nil => exact Nat.zero_le _
    | cons b y =>
      unfold preL
      split
      · have := ih y; simp; omega
      · omega
/-- The deepest common node of x and v is v exactly if v lies on the way to x. -/
theorem cmN_iff {t : List Nd} {n : Nat} (hP : ∀ v, 0 < v → v < n → 0 ≤ nP t v ∧ nP t v < v) {x v : Nat} (hx : x < n) (hv : v < n) : cmN t n x v = v ↔ v ∈ pthF t n x := by
  obtain ⟨h1, _⟩ := pthF_pos t n x
  obtain ⟨h3, _⟩ := pthF_pos t n v
  constructor
  · intro h
    unfold cmN at h
    have hj : preL (pthF t n x) (pthF t n v) - 1 < (pthF t n x).length := by
      have := preL_le (pthF t n x) (pthF t n v); omega
    rw [vA_get hj] at h
    rw [← h]; exact List.getElem_mem hj
  · intro hm
    obtain ⟨s, hs⟩ := pth_prefix hP x x (Nat.le_refl _) hx hm
    have hat : ∀ i, i < (pthF t n v).length → vA (pthF t n x) i = vA (pthF t n v) i := fun i hi => by
      rw [← hs]
      simp only [vA, List.getD_eq_getElem?_getD]
      rw [List.getElem?_append_left hi]
    have hpe : preL (pthF t n x) (pthF t n v) = (pthF t n v).length :=
      preL_eq _ _ _ (by rw [← hs, List.length_append]; omega) (Nat.le_refl _) hat (.inr (.inl rfl))
    unfold cmN
    rw [hpe, hat _ (by omega), pth_last hP hv]
end Go.Proofs.YtfgkjofdgohacaaGreatDoor
namespace Go.Proofs.YtfgkjofdgohacaaGreatDoor
open Go Go.RowKit Go.Shelf
theorem pth_lt {t : List Nd} {n : Nat} (hP : ∀ v, 0 < v → v < n → 0 ≤ nP t v ∧ nP t v < v) : ∀ k x, x ≤ k → x < n → ∀ u, u ∈ pthF t n x → u ≤ x := by
  intro k
  induction k with
  | zero =>
    intro x hk hx u hu
    obtain rfl : x = 0 := by omega
    rw [pth_zero, List.mem_singleton] at hu
    omega
  | succ k ih =>
    intro x hk hx u hu
    by_cases e : x = 0
    · subst e
      rw [pth_zero, List.mem_singleton] at hu
      omega
    · have hp := hP x (by omega) hx
      rw [pth_succ hP (by omega) hx, List.mem_append] at hu
      rcases hu with hu | hu
      · have := ih (nP t x).toNat (by omega) (by omega) u hu; omega
      · rw [List.mem_singleton] at hu; omega
theorem pth_self {t : List Nd} {n : Nat} (hP : ∀ v, 0 < v → v < n → 0 ≤ nP t v ∧ nP t v < v) {x : Nat} (hx : x < n) : x ∈ pthF t n x := by
  by_cases e : x = 0
  · subst e; rw [pth_zero]; simp
  · rw [pth_succ hP (by omega) hx]; simp
/-- Two nodes of one way: the lower one's way has the upper one. -/
theorem pth_chain {t : List Nd} {n : Nat} (hP : ∀ v, 0 < v → v < n → 0 ≤ nP t v ∧ nP t v < v) : ∀ k x, x ≤ k → x < n → ∀ u v, u ∈ pthF t n x → v ∈ pthF t n x → u ≤ v → u ∈ pthF t n v := by
  intro k
  induction k with
  | zero =>
    intro x hk hx u v hu hv _
    obtain rfl : x = 0 := by omega
    rw [pth_zero, List.mem_singleton] at hv
    subst hv; exact hu
  | succ k ih =>
    intro x hk hx u v hu hv huv
    by_cases e : x = 0
    · subst e
      rw [pth_zero, List.mem_singleton] at hv
      subst hv; exact hu
    · have hp := hP x (by omega) hx
      have he := pth_succ hP (show 0 < x by omega) hx
      have hv0 := hv
      have hu0 := hu
      rw [he, List.mem_append] at hv hu
      rcases hv with hv | hv
      · have hvl := pth_lt hP (nP t x).toNat _ (Nat.le_refl _) (by omega) v hv
        rcases hu with hu | hu
        · exact ih (nP t x).toNat (by omega) (by omega) u v hu hv huv
        · rw [List.mem_singleton] at hu; omega
      · rw [List.mem_singleton] at hv
        subst hv; exact hu0
/-- If nothing of the way lies between v and c, v is the node above c. -/
theorem pth_above {t : List Nd} {n : Nat} (hP : ∀ v, 0 < v → v < n → 0 ≤ nP t v ∧ nP t v < v) {x v c : Nat} (hx : x < n) (hv : v ∈ pthF t n x) (hc : c ∈ pthF t n x) (hvc : v < c) (hno : ∀ u, u ∈ pthF t n x → v < u → c ≤ u) : nP t c = v := by
  have hcn : c < n := Nat.lt_of_le_of_lt (pth_lt hP x x (Nat.le_refl _) hx c hc) hx
  have hp := hP c (by omega) hcn
  have h1 := pth_chain hP x x (Nat.le_refl _) hx v c hv hc (by omega)
  have he := pth_succ hP (show 0 < c by omega) hcn
  rw [he, List.mem_append] at h1
  have hpm : (nP t c).toNat ∈ pthF t n x := by
    have h2 := pth_prefix hP x x (Nat.le_refl _) hx hc
    refine h2.subset ?_
    rw [he]
    exact List.mem_append_left _ (pth_self hP (by omega))
  rcases h1 with h1 | h1
  · have h3 := pth_lt hP (nP t c).toNat _ (Nat.le_refl _) (by omega) v h1
    rcases Nat.lt_or_ge v (nP t c).toNat with h4 | h4
    · have := hno _ hpm h4; omega
    · omega
  · rw [List.mem_singleton] at h1; omega
end Go.Proofs.YtfgkjofdgohacaaGreatDoor
namespace Go.Proofs.YtfgkjofdgohacaaGreatDoor
open Go.RowKit
/-- Has node v a child among the first k? -/
def inB (t : List Nd) (k v : Nat) : Bool := (List.range k).any (kidB t v)
theorem inB_succ (t : List Nd) (k v : Nat) : inB t (k + 1) v = (inB t k v || kidB t v k) := by
  unfold inB
  rw [List.range_succ, List.any_append]
  simp
theorem leafB_in (t : List Nd) (v : Nat) : leafB t v = !inB t t.length v := by
  unfold leafB inB famL
  rw [Bool.eq_iff_iff]
  simp [List.isEmpty_iff]
/-- What a leaf begins with. -/
def botS (t : List Nd) (v : Nat) : Nat := if leafB t v then 2 ^ (lvsL t v).length else 0
/-- The sets behind j steps upwards. -/
def upS (t : List Nd) : Nat → Nat → Nat
  | 0, v => botS t v
  | j + 1, v => if nP t (t.length - 1 - j) = (v : Int) then upS t j v ||| upS t j (t.length - 1 - j) else upS t j v
/-- The set of a node. -/
def cl (t : List Nd) (v : Nat) : Nat := upS t (t.length - 1) v
theorem lvsL_mono (t : List Nd) {j k : Nat} (h : j ≤ k) : (lvsL t j).length ≤ (lvsL t k).length := by
  induction k with
  | zero => have : j = 0 := by omega
            subst this; exact Nat.le_refl _
  | succ k ih =>
    by_cases e : j = k + 1
    · subst e; exact Nat.le_refl _
    · have := ih (by omega)
      rw [lvsL_snoc, List.length_append]; omega
theorem upS_lt {t : List Nd} {n : Nat} (hL : (lvsL t t.length).length ≤ n) : ∀ j v, v < t.length → upS t j v < 2 ^ n := by
  intro j
  induction j with
  | zero =>
    intro v hv
    unfold upS botS
    by_cases q : leafB t v = true
    · rw [if_pos q]
      refine Nat.pow_lt_pow_right (by omega) ?_
      have h1 := lvsL_snoc t v
      rw [if_pos q] at h1
      have h2 := lvsL_mono t (show v + 1 ≤ t.length from hv)
      rw [h1, List.length_append, List.length_singleton] at h2
      omega
    · rw [if_neg q]; exact Nat.two_pow_pos _
  | succ j ih =>
    intro v hv
    unfold upS
    split
    · exact Nat.or_lt_two_pow (ih v hv) (ih _ (by omega))
    · exact ih v hv
theorem cl_lt {t : List Nd} {n : Nat} (hL : (lvsL t t.length).length ≤ n) (v : Nat) (hv : v < t.length) : cl t v < 2 ^ n := upS_lt hL _ v hv
/-- What the iterator hands out. -/
def ndsL (t : List Nd) (k : Nat) : List (Nat × Nat) := (List.range k).map fun v => (v, cl t v)
theorem ndsL_snoc (t : List Nd) (k : Nat) : ndsL t (k + 1) = ndsL t k ++ [(k, cl t k)] := by simp [ndsL, List.range_succ]
theorem ndsL_len (t : List Nd) (k : Nat) : (ndsL t k).length = k := by simp [ndsL]
end Go.Proofs.YtfgkjofdgohacaaGreatDoor
namespace Go.Proofs.YtfgkjofdgohacaaGreatDoor
open Go Go.RowKit Go.Shelf
theorem lvs_at (t : List Nd) : ∀ n k, k < (lvsL t n).length → vA (lvsL t n) k < n ∧ leafB t (vA (lvsL t n) k) = true ∧ (lvsL t (vA (lvsL t n) k)).length = k := by
  intro n
  induction n with
  | zero => intro k hk; simp [lvsL] at hk
  | succ n ih =>
    intro k hk
    rw [lvsL_snoc] at hk ⊢
    by_cases q : k < (lvsL t n).length
    · have e : ∀ m : List Nat, vA (lvsL t n ++ m) k = vA (lvsL t n) k := fun m => by
        simp only [vA, List.getD_eq_getElem?_getD]; rw [List.getElem?_append_left q]
      rw [e]
      obtain ⟨h1, h2, h3⟩ := ih k q
      exact ⟨by omega, h2, h3⟩
    · by_cases p : leafB t n = true
      · rw [if_pos p] at hk ⊢
        rw [List.length_append, List.length_singleton] at hk
        obtain rfl : k = (lvsL t n).length := by omega
        have e : vA (lvsL t n ++ [n]) (lvsL t n).length = n := by simp [vA]
        rw [e]
        exact ⟨by omega, p, rfl⟩
      · rw [if_neg p, List.append_nil] at hk
        exact absurd hk q
/-- The bits of what a node begins with. -/
theorem botS_bit (t : List Nd) {n k v : Nat} (hk : k < (lvsL t n).length) : (botS t v).testBit k = true ↔ vA (lvsL t n) k = v ∨ (leafB t v = true ∧ (lvsL t v).length = k ∧ vA (lvsL t n) k ≠ v) := by
  obtain ⟨h1, h2, h3⟩ := lvs_at t n k hk
  unfold botS
  by_cases p : leafB t v = true
  · rw [if_pos p, Nat.testBit_two_pow]
    simp only [decide_eq_true_eq]
    constructor
    · intro h
      by_cases e : vA (lvsL t n) k = v
      · exact .inl e
      · exact .inr ⟨p, h, e⟩
    · rintro (h | ⟨_, h, _⟩)
      · rw [← h]; exact h3
      · exact h
  · rw [if_neg p]
    simp only [Nat.zero_testBit]
    constructor
    · intro h; cases h
    · rintro (h | ⟨h, _⟩)
      · rw [h] at h2; exact absurd h2 p
      · exact absurd h p
end Go.Proofs.YtfgkjofdgohacaaGreatDoor
namespace Go.Proofs.YtfgkjofdgohacaaGreatDoor
open Go Go.RowKit Go.Shelf
theorem lvs_inj {t : List Nd} {u v : Nat} (hu : leafB t u = true) (hv : leafB t v = true) (h : (lvsL t u).length = (lvsL t v).length) : u = v := by
  have key : ∀ a b, a < b → leafB t a = true → (lvsL t a).length < (lvsL t b).length := fun a b hab ha => by
    have h1 := lvsL_snoc t a
    rw [if_pos ha] at h1
    have h2 := lvsL_mono t (show a + 1 ≤ b from hab)
    rw [h1, List.length_append, List.length_singleton] at h2
    omega
  rcases Nat.lt_trichotomy u v with q | q | q
  · have := key u v q hu; omega
  · exact q
  · have := key v u q hv; omega
theorem botS_iff (t : List Nd) {n k v : Nat} (hk : k < (lvsL t n).length) : (botS t v).testBit k = true ↔ vA (lvsL t n) k = v := by
  rw [botS_bit t hk]
  obtain ⟨_, h2, h3⟩ := lvs_at t n k hk
  constructor
  · rintro (h | ⟨hl, hlen, hne⟩)
    · exact h
    · exact absurd (lvs_inj h2 hl (by rw [h3, hlen])) hne
  · exact .inl
theorem upS_bit {t : List Nd} {n k : Nat} (hn : t.length = n) (hP : ∀ v, 0 < v → v < n → 0 ≤ nP t v ∧ nP t v < v) (_h0 : nP t 0 < 0) (hk : k < (lvsL t n).length) : ∀ j v, j + 1 ≤ n → v < n →
    ((upS t j v).testBit k = true ↔ v ∈ pthF t n (vA (lvsL t n) k) ∧ ∀ u, u ∈ pthF t n (vA (lvsL t n) k) → v < u → n - j ≤ u) := by
  have hx := (lvs_at t n k hk).1
  have hb : ∀ v, (botS t v).testBit k = true ↔ vA (lvsL t n) k = v := fun v => botS_iff t hk
  generalize vA (lvsL t n) k = x at *
  intro j
  induction j with
  | zero =>
    intro v _ hv
    show (botS t v).testBit k = true ↔ _
    rw [hb]
    constructor
    · rintro rfl
      refine ⟨pth_self hP hx, fun u hu hlt => ?_⟩
      have := pth_lt hP x x (Nat.le_refl _) hx u hu; omega
    · rintro ⟨h1, h2⟩
      have h3 := pth_lt hP x x (Nat.le_refl _) hx v h1
      rcases Nat.lt_or_ge v x with h4 | h4
      · have := h2 x (pth_self hP hx) h4; omega
      · omega
  | succ j ih =>
    intro v hj hv
    obtain ⟨c, hc⟩ : ∃ c, c = n - 1 - j := ⟨_, rfl⟩
    have hc0 : 0 < c := by omega
    have hcn : c < n := by omega
    have hups : upS t (j + 1) v = if nP t c = (v : Int) then upS t j v ||| upS t j c else upS t j v := by rw [upS, hn, hc]
    have ec : n - (j + 1) = c := by omega
    have ej : n - j = c + 1 := by omega
    rw [hups, ec]
    clear hups
    have hv1 := ih v (by omega) hv
    have hc1 := ih c (by omega) hcn
    rw [ej] at hv1 hc1
    by_cases e : nP t c = (v : Int)
    · rw [if_pos e, Nat.testBit_or, Bool.or_eq_true, hv1, hc1]
      have hpc := hP c hc0 hcn
      constructor
      · rintro (⟨h1, h2⟩ | ⟨h1, h2⟩)
        · exact ⟨h1, fun u hu hlt => by have := h2 u hu hlt; omega⟩
        · have hvx : v ∈ pthF t n x := by
            refine (pth_prefix hP x x (Nat.le_refl _) hx h1).subset ?_
            rw [pth_succ hP hc0 hcn, e]
            exact List.mem_append_left _ (by rw [Int.toNat_natCast]; exact pth_self hP hv)
          refine ⟨hvx, fun u hu hlt => ?_⟩
          rcases Nat.lt_or_ge u c with h4 | h4
          · have h5 := pth_chain hP x x (Nat.le_refl _) hx u c hu h1 (by omega)
            rw [pth_succ hP hc0 hcn, e, Int.toNat_natCast, List.mem_append] at h5
            rcases h5 with h5 | h5
            · have := pth_lt hP v v (Nat.le_refl _) hv u h5; omega
            · rw [List.mem_singleton] at h5; omega
          · exact h4
      · rintro ⟨h1, h2⟩
        by_cases hcx : c ∈ pthF t n x
        · exact .inr ⟨hcx, fun u hu hlt => hlt⟩
        · exact .inl ⟨h1, fun u hu hlt => by
            have h3 := h2 u hu hlt
            rcases Nat.lt_or_ge c u with h4 | h4
            · exact h4
            · obtain rfl : u = c := by omega
              exact absurd hu hcx⟩
    · rw [if_neg e, hv1]
      constructor
      · rintro ⟨h1, h2⟩
        exact ⟨h1, fun u hu hlt => by have := h2 u hu hlt; omega⟩
      · rintro ⟨h1, h2⟩
        refine ⟨h1, fun u hu hlt => ?_⟩
        have h3 := h2 u hu hlt
        rcases Nat.lt_or_ge c u with h4 | h4
        · exact h4
        · obtain rfl : u = c := by omega
          exact absurd (pth_above hP hx h1 hu hlt h2) e
theorem cl_bit {t : List Nd} {n k v : Nat} (hn : t.length = n) (hP : ∀ v, 0 < v → v < n → 0 ≤ nP t v ∧ nP t v < v) (h0 : nP t 0 < 0) (hk : k < (lvsL t n).length) (hv : v < n) : (cl t v).testBit k = true ↔ v ∈ pthF t n (vA (lvsL t n) k) := by
  unfold cl
  rw [hn, upS_bit hn hP h0 hk (n - 1) v (by omega) hv]
  exact ⟨fun h => h.1, fun h => ⟨h, fun u _ hlt => by omega⟩⟩
theorem clF_bit (t : List Nd) (n v k : Nat) : ∀ m, (clF t n v m).testBit k = true ↔ k < m ∧ cmN t n (vA (lvT t) k) v = v := by
  intro m
  induction m with
  | zero => simp [clF]
  | succ m ih =>
    unfold clF
    by_cases q : cmN t n (vA (lvT t) m) v = v
    · rw [if_pos q, Nat.testBit_or, Bool.or_eq_true, ih, Nat.testBit_two_pow]
      simp only [decide_eq_true_eq]
      constructor
      · rintro (⟨h1, h2⟩ | h)
        · exact ⟨by omega, h2⟩
        · subst h; exact ⟨by omega, q⟩
      · rintro ⟨h1, h2⟩
        rcases Nat.lt_or_ge k m with h3 | h3
        · exact .inl ⟨h3, h2⟩
        · exact .inr (by omega)
    · rw [if_neg q, ih]
      constructor
      · rintro ⟨h1, h2⟩; exact ⟨by omega, h2⟩
      · rintro ⟨h1, h2⟩
        refine ⟨?_, h2⟩
        rcases Nat.lt_or_ge k m with h3 | h3
        · exact h3
        · obtain rfl : k = m := by omega
          exact absurd h2 q
end Go.Proofs.YtfgkjofdgohacaaGreatDoor
namespace Go.Proofs.YtfgkjofdgohacaaGreatDoor
open Go Go.RowKit Go.Shelf
theorem clF_cl {t : List Nd} {n v : Nat} (hn : t.length = n) (hok : TreeOk t) (hv : v < n) : clF t n v (lvT t).length = cl t v := by
  have hP : ∀ v, 0 < v → v < n → 0 ≤ nP t v ∧ nP t v < v := fun v h1 h2 => tree_par hok v h1 (by rw [hn]; exact h2)
  have h0 : nP t 0 < 0 := (hok.2.2 0 (by have := hok.1; omega)).1
  have hL : lvT t = lvsL t n := by unfold lvT; rw [if_pos (chkE_good hok), hn]
  apply Nat.eq_of_testBit_eq
  intro k
  by_cases hk : k < (lvsL t n).length
  · rw [Bool.eq_iff_iff, clF_bit, cl_bit hn hP h0 hk hv, hL]
    have hx := (lvs_at t n k hk).1
    rw [cmN_iff hP hx hv]
    exact ⟨fun h => h.2, fun h => ⟨hk, h⟩⟩
  · have hp : 2 ^ (lvsL t n).length ≤ 2 ^ k := Nat.pow_le_pow_right (by omega) (by omega)
    have h1 := clF_lt t n v (lvT t).length
    rw [hL] at h1 ⊢
    have h2 := cl_lt (t := t) (n := (lvsL t n).length) (by rw [hn]; exact Nat.le_refl _) v (by rw [hn]; exact hv)
    rw [Nat.testBit_lt_two_pow (by omega), Nat.testBit_lt_two_pow (by omega)]
end Go.Proofs.YtfgkjofdgohacaaGreatDoor
namespace Go.Proofs.YtfgkjofdgohacaaGreatDoor
open Go
section
variable {P : Program} {ops : Array Oper} {md : Region.Mode} {C : World → Prop}

/-- Whatever order is picked for the first f operations; then L. -/
def anyLQ (P : Program) (md : Region.Mode) (ops : Array Oper) (C : World → Prop) (n : Nat) (L : Array Bool → Act → Prop) : Nat → Array Bool → Act → Prop
  | 0, listed, a => L listed a
  | f + 1, listed, a => Region.ready md ops listed ≠ [] ∧ ∀ i ∈ Region.ready md ops listed, i < n ∧ qOp P ops C i (anyLQ P md ops C n L f (listed.setIfInBounds i true)) a

theorem any_of_LQ {n g : Nat} {L : Array Bool → Act → Prop} {Q' : Exit → Act → World → Prop} (hL : ∀ listed a w, C w → L listed a → wpAny P md ops Q' g listed a w) :
    ∀ (f : Nat) (listed : Array Bool) (a : Act) (w : World), C w → anyLQ P md ops C n L f listed a → wpAny P md ops Q' (f + g) listed a w
  | 0, listed, a, w, hC, h => by rw [Nat.zero_add]; exact hL _ _ _ hC h
  | f + 1, listed, a, w, hC, h => by
    rw [show f + 1 + g = (f + g) + 1 by omega]
    exact ⟨fun h0 => absurd h0 h.1, fun i hi => wpOp_of_qOp hC (fun a' w' hw' h' => any_of_LQ hL f _ a' w' hw' h') (h.2 i hi).2⟩

theorem anyLQ_first {n i : Nat} {oi : Oper} {v : Value} {L : Array Bool → Act → Prop} (hi : ops[i]? = some oi) (hsel : ∀ (j : Nat) (o : Oper) cs b, ops[j]? = some o → o.op ≠ .select cs b)
    (hs : Region.sinkB md ops n = true) (hc : Region.chainB md ops n = true) (hn : n < ops.size) (hin : i < n)
    (hdone : ∀ listed a, L listed a → ∀ j ∈ Region.ready md ops listed, n ≤ j) :
    ∀ (f : Nat) (listed : Array Bool) (a : Act), HeadInv md ops n listed →
      (∀ j oj, ops[j]? = some oj → j ≠ i → listed.getD j true = false → (∀ e ∈ oj.after, Region.binds md e = true → e.on ≠ i) → oi.apart ops oj = true) →
      i ∈ Region.ready md ops listed → YieldsIn P ops C oi v a →
      anyLQ P md ops C n L f (listed.setIfInBounds i true) (a.put oi.dst v) → anyLQ P md ops C n L (f + 1) listed a := by
  intro f
  induction f with
  | zero =>
    intro listed a inv _ hr hy H
    have hun := (mem_ready.1 hr).1
    refine ⟨fun h => (by rw [h] at hr; cases hr), fun j hj => ?_⟩
    have hjn : j < n := by
      rcases Nat.lt_or_ge j n with h | h
      · exact h
      · exact absurd hj (tail_waits hs hc hn inv _ i rfl hin hun j h)
    refine ⟨hjn, ?_⟩
    by_cases hji : j = i
    · subst hji; exact hy.qOp hi H
    · have := hdone _ _ H j (ready_mono hj hji)
      omega
  | succ f ih =>
    intro listed a inv hfree hr hy H
    have hun := (mem_ready.1 hr).1
    refine ⟨fun h => (by rw [h] at hr; cases hr), fun j hj => ?_⟩
    have hjn : j < n := by
      rcases Nat.lt_or_ge j n with h | h
      · exact h
      · exact absurd hj (tail_waits hs hc hn inv _ i rfl hin hun j h)
    refine ⟨hjn, ?_⟩
    by_cases hji : j = i
    · subst hji; exact hy.qOp hi H
    · have h1 := (H.2 j (ready_mono hj hji)).2
      obtain ⟨hjun, oj, hoj, hall⟩ := mem_ready.1 hj
      have hnot : ∀ e ∈ oj.after, Region.binds md e = true → e.on ≠ i := fun e he hb heq => by
        have h1 := hall e he hb
        rw [heq, getD_both hun] at h1
        cases h1
      have h2 := qOp_put hoj (hfree j oj hoj hji hjun hnot) (fun cs b => hsel i oi cs b hi) (fun cs b => hsel j oj cs b hoj) hy h1
      have hfree' : ∀ k ok, ops[k]? = some ok → k ≠ i → (listed.setIfInBounds j true).getD k true = false →
          (∀ e ∈ ok.after, Region.binds md e = true → e.on ≠ i) → oi.apart ops ok = true := fun k ok hk hki hun hno => by
        refine hfree k ok hk hki ?_ hno
        by_cases hjk : j = k
        · subst hjk; exact hjun
        · rw [Go.getD_set_ne true hjk] at hun; exact hun
      refine qOp_mono (fun a' h3 => ih (listed.setIfInBounds j true) a' (inv.set hj hjn) hfree' (ready_mono hr (Ne.symm hji)) h3.1 ?_) h2
      rw [Array.setIfInBounds_comm _ _ hji]
      exact h3.2

theorem anyLQ_lex {n g : Nat} {Lq : Act → Prop} (hsel : Region.noSelect ops = true) (hs : Region.sinkB md ops n = true) (hc : Region.chainB md ops n = true) (hn : n < ops.size) :
    ∀ (l : List Oper) (k : Nat) (listed : Array Bool) (a : Act), (∀ j, j < l.length → l[j]? = ops[k + j]?) → k + l.length = n → HeadInv md ops n listed →
    Region.lexHead md ops g l.length k listed = true → wpQuiet P ops C Lq l a →
    anyLQ P md ops C n (fun listed' a' => Region.seqB md ops g n listed' = true ∧ Lq a') l.length listed a
  | [], k, listed, a, _, hk, _, hB, h => by
    have : k = n := by simpa using hk
    subst this
    exact ⟨by simpa [Region.lexHead] using hB, h⟩
  | o :: l, k, listed, a, hl, hk, inv, hB, h => by
    have h0 : ops[k]? = some o := by simpa using (hl 0 (by simp)).symm
    simp only [List.length_cons, Region.lexHead, Bool.and_eq_true] at hB
    obtain ⟨⟨hr, hf⟩, hB'⟩ := hB
    have hkn : k < n := by simp only [List.length_cons] at hk; omega
    have hr' : k ∈ Region.ready md ops listed := by simpa using hr
    have hst : qOp P ops C k (wpQuiet P ops C Lq l) a := by unfold qOp; simp only [h0]; exact h
    obtain ⟨v, hy, hK⟩ := yieldsIn_of_qOp h0 hst
    exact anyLQ_first h0 (Region.noSelect_spec hsel) hs hc hn hkn (fun listed' a' hL => seqB_ready hL.1) l.length listed a inv (Region.free_spec h0 hf) hr' hy
      (anyLQ_lex hsel hs hc hn l (k + 1) _ _ (fun j hj => by have := hl (j + 1) (by simp; omega); simpa [Nat.add_assoc, Nat.add_comm 1 j] using this) (by simp only [List.length_cons] at hk; omega) (inv.set hr' hkn) hB' hK)

/-- ONE WALK OF THE TEXT's ORDER: the head quiet in the class C, then the forced tail from any world of the class. -/
theorem wp_quiet_tail {id : Nat} {Q : Exit → Act → World → Prop} {a : Act} {w : World} {l : List Oper} (n : Nat) (hm : P.follows .mixedOrders = true) (hB : Region.lexTailB .any l.toArray n = true) (hC : C { w with drawn := w.drawn + 1 })
    (h : wpQuiet P l.toArray C (fun a' => ∀ w', C w' → wpList P l.toArray Q (l.drop n) a' w') (l.take n) a) : (Code.region id l.toArray true).wp P Q a w := by
  simp only [Region.lexTailB, Bool.and_eq_true, decide_eq_true_eq] at hB
  obtain ⟨⟨⟨⟨hsel, hn⟩, hs⟩, hc⟩, hlex⟩ := hB
  have hn' : n < l.length := by simpa using hn
  have htl : (l.take n).length = n := by simp; omega
  have hdl : (l.drop n).length = l.toArray.size - n := by simp
  have inv0 : HeadInv .any l.toArray n (Array.replicate l.toArray.size false) :=
    ⟨by simp, fun j oj _ hl => (by rw [getD_replicate_false] at hl; cases hl), fun t _ ht => getD_in (by simpa using ht) (getD_replicate_false _ _)⟩
  have H := anyLQ_lex (md := .any) (C := C) (g := l.toArray.size - n) hsel hs hc hn (l.take n) 0 _ a (fun j hj => by
    have hj' : j < n := by rw [htl] at hj; exact hj
    simp [hj']) (by simpa using htl) inv0 (by rw [htl]; exact hlex) h
  refine wp_region_any hm ?_
  have := any_of_LQ (Q' := Q) (C := C) (g := l.toArray.size - n) (fun listed a' w' hw' hL => by
    have := wpAny_of_seq (md := .any) (Q' := Q) (l.drop n) n listed a' w' (fun j => by simp [List.getElem?_drop]) (by rw [hdl]; exact hL.1) (hL.2 w' hw')
    rwa [hdl] at this) _ _ _ _ hC H
  rw [htl, show n + (l.toArray.size - n) = l.toArray.size by omega] at this
  exact this

/-- .. at the class 'w after some draws'. -/
theorem wp_quiet_tail_lit {id : Nat} {Q : Exit → Act → World → Prop} {a : Act} {w : World} {l : List Oper} (n : Nat) (hm : P.follows .mixedOrders = true) (hB : Region.lexTailB .any l.toArray n = true)
    (h : wpQuiet P l.toArray (fun w' => ∃ m, w' = w.drewN m) (fun a' => ∀ w', (∃ m, w' = w.drewN m) → wpList P l.toArray Q (l.drop n) a' w') (l.take n) a) : (Code.region id l.toArray true).wp P Q a w :=
  wp_quiet_tail (C := fun w' => ∃ m, w' = w.drewN m) n hm hB ⟨1, rfl⟩ h
end

open Go.RowKit
/-- A world that keeps all that lay in W. -/
structure Wb (W : World) where
  w : World
  h : Below W.heap.size W w
instance (W : World) : Inhabited (Wb W) := ⟨⟨W, Below.refl _ _⟩⟩
section
variable {P : Program}
/-- The class of these worlds: a call that lays blocks of its own stays in it. -/
theorem wp_quiet_wb {id : Nat} {Q : Exit → Act → World → Prop} {a : Act} {w : World} {l : List Oper} (hm : P.follows .mixedOrders = true) (hB : Region.lexB .any l.toArray = true)
    (h : wpQuiet P l.toArray (fun w' => ∃ i : Wb w, w' = i.w) (fun a' => ∀ w', (∃ i : Wb w, w' = i.w) → Q .normal a' w') l a) : (Code.region id l.toArray true).wp P Q a w :=
  wp_region_quiet (C := fun w' => ∃ i : Wb w, w' = i.w) hm hB ⟨⟨{ w with drawn := w.drawn + 1 }, (Below.refl w.heap.size w).drew⟩, rfl⟩ (by simpa using h)
theorem wp_quiet_wb_tail {id : Nat} {Q : Exit → Act → World → Prop} {a : Act} {w : World} {l : List Oper} (n : Nat) (hm : P.follows .mixedOrders = true) (hB : Region.lexTailB .any l.toArray n = true)
    (h : wpQuiet P l.toArray (fun w' => ∃ i : Wb w, w' = i.w) (fun a' => ∀ w', (∃ i : Wb w, w' = i.w) → wpList P l.toArray Q (l.drop n) a' w') (l.take n) a) : (Code.region id l.toArray true).wp P Q a w :=
  wp_quiet_tail (C := fun w' => ∃ i : Wb w, w' = i.w) n hm hB ⟨⟨{ w with drawn := w.drawn + 1 }, (Below.refl w.heap.size w).drew⟩, rfl⟩ h
theorem quiet_of_wb {f : FuncId} {args : Array Value} {W : World} {i : Wb W} {v : Value} (h : Calls P f args i.w fun e w' => e = .returned v ∧ Below i.w.heap.size i.w w') :
    Calls P f args i.w fun e w'' => e = .returned v ∧ ∃ j : Wb W, w'' = j.w :=
  h.mono fun _ w' ⟨he, hb⟩ => ⟨he, ⟨w', i.h.trans (hb.mono i.h.size)⟩, rfl⟩
theorem quiet_of_wb_drew {f : FuncId} {args : Array Value} {W : World} {i : Wb W} {v : Value} (h : Calls P f args i.w fun e w' => e = .returned v ∧ ∃ n, w' = i.w.drewN n) :
    Calls P f args i.w fun e w'' => e = .returned v ∧ ∃ j : Wb W, w'' = j.w :=
  h.mono fun _ w' ⟨he, _, hb⟩ => ⟨he, ⟨w', hb ▸ ⟨i.h.os, i.h.tape, i.h.output, i.h.size, i.h.block⟩⟩, rfl⟩
theorem wb_cell {W : World} {b o : Nat} {v : Value} (h : W.cell? ⟨b, o, none⟩ = some v) (hb : b < W.heap.size) : ∀ i : Wb W, i.w.cell? ⟨b, o, none⟩ = some v := fun i => (i.h.cell (p := ⟨b, o, none⟩) hb).trans h
end
/-- Two cells below are kept by a call. -/
theorem hold2 {W W' : World} {b o o' : Nat} {u1 u2 : Value} (hb : Below W.heap.size W W') (h : b < W.heap.size) (h1 : W.cell? ⟨b, o, none⟩ = some u1) (h2 : W.cell? ⟨b, o', none⟩ = some u2) :
    W'.cell? ⟨b, o, none⟩ = some u1 ∧ W'.cell? ⟨b, o', none⟩ = some u2 ∧ W.heap.size ≤ W'.heap.size :=
  ⟨(hb.cell (p := ⟨b, o, none⟩) h).trans h1, (hb.cell (p := ⟨b, o', none⟩) h).trans h2, hb.size⟩
end Go.Proofs.YtfgkjofdgohacaaGreatDoor
namespace Go.Proofs.YtfgkjofdgohacaaGreatDoor
open Go
section
variable {P : Program} {ops : Array Oper} {md : Region.Mode} {S : World → Prop} {Q : Exit → Act → World → Prop}
/-- Which operations may come up, one after another. -/
inductive OT where
  | leaf : OT
  | one : Nat → OT → OT
  | two : Nat → OT → Nat → OT → OT
def OT.dep : OT → Nat → Bool
  | .leaf, f => f == 0
  | .one _ t, f => f != 0 && t.dep (f - 1)
  | .two _ t _ u, f => f != 0 && t.dep (f - 1) && u.dep (f - 1)
def midG (P : Program) (ops : Array Oper) (Q : Exit → Act → World → Prop) (S : World → Prop) (K : Act → World → Prop) : OT → Act → World → Prop
  | .leaf, a, w => K a w
  | .one k t, a, w => wpOp P ops Q k (fun a' w' => S w' ∧ midG P ops Q S K t a' w') a w
  | .two k t j u, a, w => wpOp P ops Q k (fun a' w' => S w' ∧ midG P ops Q S K t a' w') a w ∧ wpOp P ops Q j (fun a' w' => S w' ∧ midG P ops Q S K u a' w') a w
def seqG (md : Region.Mode) (ops : Array Oper) (n : Nat) : OT → Array Bool → Bool
  | .leaf, listed => Region.seqB md ops (ops.size - n) n listed
  | .one k t, listed => decide (Region.ready md ops listed = [k]) && decide (k < n) && seqG md ops n t (listed.setIfInBounds k true)
  | .two k t j u, listed => decide (Region.ready md ops listed = [k, j]) && decide (k < n) && decide (j < n) && seqG md ops n t (listed.setIfInBounds k true) && seqG md ops n u (listed.setIfInBounds j true)
def headG (md : Region.Mode) (ops : Array Oper) (n : Nat) (t : OT) : List Nat → Array Bool → Bool
  | [], listed => seqG md ops n t listed
  | k :: is, listed => (Region.ready md ops listed).contains k && Region.free md ops listed k && decide (k < n) && headG md ops n t is (listed.setIfInBounds k true)
def orderG (md : Region.Mode) (ops : Array Oper) (n : Nat) (is : List Nat) (t : OT) : Bool :=
  Region.noSelect ops && decide (is.length ≤ n) && t.dep (n - is.length) && decide (n < ops.size) && Region.sinkB md ops n && Region.chainB md ops n && headG md ops n t is (Array.replicate ops.size false)
theorem anyG_seq {n : Nat} {K : Act → World → Prop} : ∀ (t : OT) (f : Nat) (listed : Array Bool) (a : Act) (w : World), t.dep f = true → seqG md ops n t listed = true → midG P ops Q S K t a w → anyT P md ops Q S n K f listed a w
  | .leaf, f, listed, a, w, hd, hB, h => by
    obtain rfl : f = 0 := by simpa [OT.dep] using hd
    exact ⟨hB, h⟩
  | .one k t, f, listed, a, w, hd, hB, h => by
    simp only [OT.dep, Bool.and_eq_true, bne_iff_ne] at hd
    obtain ⟨g, rfl⟩ : ∃ g, f = g + 1 := ⟨f - 1, by omega⟩
    rw [seqG] at hB
    simp only [Bool.and_eq_true, decide_eq_true_eq] at hB
    obtain ⟨⟨h1, h2⟩, h3⟩ := hB
    refine ⟨fun h0 => (by rw [h1] at h0; cases h0), fun i hi => ?_⟩
    rw [h1] at hi
    obtain rfl : i = k := by simpa using hi
    exact ⟨h2, wpOp_mono (fun a' w' h' => ⟨h'.1, anyG_seq t g _ a' w' (by simpa using hd.2) h3 h'.2⟩) h⟩
  | .two k t j u, f, listed, a, w, hd, hB, h => by
    simp only [OT.dep, Bool.and_eq_true, bne_iff_ne] at hd
    obtain ⟨g, rfl⟩ : ∃ g, f = g + 1 := ⟨f - 1, by omega⟩
    rw [seqG] at hB
    simp only [Bool.and_eq_true, decide_eq_true_eq] at hB
    obtain ⟨⟨⟨⟨h1, h2⟩, h2'⟩, h3⟩, h4⟩ := hB
    refine ⟨fun h0 => (by rw [h1] at h0; cases h0), fun i hi => ?_⟩
    rw [h1] at hi
    have hi' : i = k ∨ i = j := by simpa using hi
    rcases hi' with rfl | rfl
    · exact ⟨h2, wpOp_mono (fun a' w' h' => ⟨h'.1, anyG_seq t g _ a' w' (by simpa using hd.1.2) h3 h'.2⟩) h.1⟩
    · exact ⟨h2', wpOp_mono (fun a' w' h' => ⟨h'.1, anyG_seq u g _ a' w' (by simpa using hd.2) h4 h'.2⟩) h.2⟩
theorem anyG_head {n : Nat} {K : Act → World → Prop} (hsel : Region.noSelect ops = true) (hs : Region.sinkB md ops n = true) (hc : Region.chainB md ops n = true) (hn : n < ops.size)
    (hQ : ∀ c a d v w, Q (.panic c) (Act.put a d v) w → Q (.panic c) a w) {t : OT} {f : Nat} (hd : t.dep f = true) :
    ∀ (is : List Nat) (listed : Array Bool) (a : Act) (w : World), HeadInv md ops n listed → headG md ops n t is listed = true → S w →
      headT P ops S (fun a' => midG P ops Q S K t a' w) is a → anyT P md ops Q S n K (is.length + f) listed a w
  | [], listed, a, w, _, hB, _, h => by
    rw [List.length_nil, Nat.zero_add]
    exact anyG_seq t f listed a w hd hB h
  | i :: is, listed, a, w, inv, hB, hS, h => by
    rw [headG] at hB
    simp only [Bool.and_eq_true, decide_eq_true_eq] at hB
    obtain ⟨⟨⟨h1, h2⟩, h3⟩, h4⟩ := hB
    obtain ⟨o, v, ho, hy, hk⟩ := h
    have hr : i ∈ Region.ready md ops listed := by simpa using h1
    have := anyT_first ho (Region.noSelect_spec hsel) hs hc hn h3 (fun c a w => hQ c a _ _ w) (is.length + f) listed a w inv (Region.free_spec ho h2) hr hy hS (anyG_head hsel hs hc hn hQ hd is _ _ w (inv.set hr h3) h4 hS hk)
    rw [List.length_cons, show is.length + 1 + f = is.length + f + 1 by omega]
    exact this
/-- Reads first, then a tree of operations that keep S, then the forced end. -/
theorem wp_region_tree {id : Nat} {a : Act} {w : World} {l : List Oper} (n : Nat) (is : List Nat) (t : OT) (hm : P.follows .mixedOrders = true) (hB : orderG .any l.toArray n is t = true)
    (hS : S w.drew)
    (h : headT P l.toArray S (fun a' => midG P l.toArray (NoPanic Q) S (wpList P l.toArray (NoPanic Q) (l.drop n)) t a' w.drew) is a) : (Code.region id l.toArray true).wp P Q a w := by
  simp only [orderG, Bool.and_eq_true, decide_eq_true_eq] at hB
  obtain ⟨⟨⟨⟨⟨⟨hsel, hlen⟩, hd⟩, hn⟩, hs⟩, hc⟩, hB⟩ := hB
  have inv0 : HeadInv .any l.toArray n (Array.replicate l.toArray.size false) :=
    ⟨by simp, fun j oj _ hl => (by rw [getD_replicate_false] at hl; cases hl), fun t _ ht => getD_in (by simpa using ht) (getD_replicate_false _ _)⟩
  refine wp_region_noPanic (wp_region_any hm ?_)
  have hdl : (l.drop n).length = l.toArray.size - n := by simp
  have := any_of_T (Q := NoPanic Q) (g := l.toArray.size - n) (fun listed a' w' h1 h2 => by
    have := wpAny_of_seq (md := .any) (Q' := NoPanic Q) (l.drop n) n listed a' w' (fun j => by simp [List.getElem?_drop]) (by rw [hdl]; exact h1) h2
    rwa [hdl] at this) _ _ _ _ (anyG_head (Q := NoPanic Q) hsel hs hc hn (fun _ _ _ _ _ h => h) hd is _ a w.drew inv0 hB hS h)
  rw [show is.length + (n - is.length) = n by omega, show n + (l.toArray.size - n) = l.toArray.size by omega] at this
  exact this
theorem midG_leaf {K : Act → World → Prop} {a : Act} {w : World} (h : K a w) : midG P ops Q S K .leaf a w := h
theorem midG_one {l : List Oper} {K : Act → World → Prop} {a : Act} {w : World} {k : Nat} {t : OT} {o : Oper} {r : List Oper} (ho : l.drop k = o :: r)
    (h : ∀ K' : Act → World → Prop, Shut (∀ a w, S w → (S w → midG P l.toArray Q S K t a w) → K' a w) → if Region.wanted o (yielded l.toArray a.tmps) = true then Oper.wp P o a w K' Q else K' (a.put o.dst undef) w) : midG P l.toArray Q S K (.one k t) a w :=
  wpOp_step (get_of_drop ho) (fun K' hK => h K' (fun a w hS hW => hK a w ⟨hS, hW hS⟩))
theorem midG_two {l : List Oper} {K : Act → World → Prop} {a : Act} {w : World} {k j : Nat} {t u : OT}
    (h1 : midG P l.toArray Q S K (.one k t) a w) (h2 : midG P l.toArray Q S K (.one j u) a w) : midG P l.toArray Q S K (.two k t j u) a w := ⟨h1, h2⟩
end
open Go.RowKit in
theorem rd_block {w w' : World} {a : Option Addr} {cs : List Value} (h : Rd w a cs) (hs : w.heap.size ≤ w'.heap.size) (hb : ∀ b off, a = some ⟨b, off, none⟩ → b < w.heap.size → w'.heap[b]? = w.heap[b]?) : Rd w' a cs := by
  intro h0
  obtain ⟨b, off, e, hlt, hc⟩ := h h0
  refine ⟨b, off, e, Nat.lt_of_lt_of_le hlt hs, fun i hi => ?_⟩
  rw [← hc i hi]
  simp only [World.cell?]
  rw [hb b off e hlt]
theorem own_ne {g X n c : Nat} (d : g ≠ X) : (Value.slice (some ⟨g, 0, none⟩) n c).ownBlock ≠ some X := fun e => d (Option.some.inj (show some g = some X from e))
end Go.Proofs.YtfgkjofdgohacaaGreatDoor
namespace Go.Proofs.YtfgkjofdgohacaaGreatDoor
open Go Go.RowKit Go.Maps
theorem lawU : Keyed Tryz.prog 41 := int_keyed Tryz.underlying41
/-- A number as a key. -/
def kU (x : Nat) : Lit := .int .u64 (x : Int)
theorem kU_inj {x y : Nat} (h : kU x = kU y) : x = y := by
  unfold kU at h
  injection h with _ h
  omega
theorem kU_key {x : Nat} (hx : x < 18446744073709551616) : keyOf Tryz.prog 41 (.int .u64 (x : Int)) = some (kU x) := keyOf_int_mk Tryz.underlying41 (by simp [Lit.wf, IntKind.min, IntKind.max, IntKind.bits, IntKind.signed]; omega)
/-- Block b is a set that holds S. -/
structure MU (w : World) (b n : Nat) (S : List Nat) : Prop where
  ex : ∃ D : DataW Unit, w.ownsMap Tryz.prog 41 unitElem b n D ∧ (∀ x : Nat, has D (kU x) = decide (x ∈ S)) ∧ Maps.size D = S.length
  nd : S.Nodup
  lt : ∀ x, x ∈ S → x < 18446744073709551616
theorem MU.made (w : World) : MU (w.alloc (.map #[] 0)) w.heap.size 0 [] := ⟨⟨_, World.ownsMap_made w _ _ _, fun _ => rfl, rfl⟩, List.nodup_nil, fun x h => absurd h (by simp)⟩
theorem MU.kept {w w' : World} {b n : Nat} {S : List Nat} {row : Option Nat} (h : MU w b n S) (hg : w.grownBy w' row) (hne : some b ≠ row) : MU w' b n S := let ⟨D, h1, h2, h3⟩ := h.ex; ⟨⟨D, h1.kept hg hne, h2, h3⟩, h.nd, h.lt⟩
theorem MU.alloc {w : World} {b n : Nat} {S : List Nat} (h : MU w b n S) (o : Obj) : MU (w.alloc o) b n S := let ⟨D, h1, h2, h3⟩ := h.ex; ⟨⟨D, h1.alloc o, h2, h3⟩, h.nd, h.lt⟩
theorem MU.mono {w : World} {b n n' : Nat} {S : List Nat} (h : MU w b n S) (hn : n ≤ n') : MU w b n' S := let ⟨D, h1, h2, h3⟩ := h.ex; ⟨⟨D, h1.mono hn, h2, h3⟩, h.nd, h.lt⟩
theorem MU.blk {w : World} {b n : Nat} {S : List Nat} (h : MU w b n S) : ∃ es c, w.heap[b]? = some (.map es c) := let ⟨_, ⟨es, c, h1, _⟩, _⟩ := h.ex; ⟨es, c, h1⟩
theorem MU.blt {w : World} {b n : Nat} {S : List Nat} (h : MU w b n S) : b < w.heap.size := let ⟨_, _, e⟩ := h.blk; (Array.getElem?_eq_some_iff.1 e).1
theorem MU.at {w w' : World} {b n : Nat} {S : List Nat} (h : MU w b n S) (he : w'.heap[b]? = w.heap[b]?) : MU w' b n S := by
  obtain ⟨D, ⟨es, clock, h1, h2⟩, h3, h4⟩ := h.ex
  exact ⟨⟨D, ⟨es, clock, he.trans h1, h2⟩, h3, h4⟩, h.nd, h.lt⟩
theorem MU.bl {w w' : World} {b n : Nat} {S : List Nat} (h : MU w b n S) (hb : Below w.heap.size w w') : MU w' b n S := h.at (hb.block b h.blt)
theorem MU.set {w : World} {b n : Nat} {S : List Nat} (h : MU w b n S) (a : Addr) (v : Value) : MU (w.setCell a v) b n S := by
  obtain ⟨es, c, hb⟩ := h.blk
  refine h.at ?_
  by_cases e : b = a.block
  · subst e
    rw [hb]
    show (w.heap.modify a.block _)[a.block]? = _
    rw [Array.getElem?_modify, if_pos rfl, hb]; rfl
  · exact Below.heap_setCell w a v b e
theorem MU.le {w : World} {b n : Nat} {S : List Nat} (h : MU w b n S) : S.length ≤ n := by
  obtain ⟨D, h1, _, h3⟩ := h.ex
  rw [← h3]; exact h1.size_le
theorem zeroT (w : World) : (zeroValue 128).run Tryz.prog w = .ok (.agg #[]) w := by kernel_rfl
theorem MU.ask {w : World} {b n : Nat} {S : List Nat} (h : MU w b n S) (x : Nat) (hx : x < 18446744073709551616) : (Instr.lookup 67 (.map (some b)) (.int .u64 (x : Int)) true).run Tryz.prog w = .ok (.tuple #[.agg #[], .bool (decide (x ∈ S))]) w := by
  obtain ⟨D, h1, h2, _⟩ := h.ex
  obtain ⟨v, ps, hrun, hv⟩ := h1.look_ok lawU Tryz.underlying67 (zeroT w) (unitElem_mk) (kU_key hx)
  obtain ⟨rfl, _⟩ := unitElem_inv hv
  rw [← h2 x]; exact hrun
theorem MU.len {w : World} {b n : Nat} {S : List Nat} (h : MU w b n S) (ty : TypeId) : (Builtin.len_ #[67] ty #[.map (some b)]).run Tryz.prog w = .ok (.int .i64 (S.length : Int)) w := by
  obtain ⟨D, h1, _, h3⟩ := h.ex
  rw [← h3]; exact h1.len Tryz.underlying67 ty
/-- A set with one more. -/
def addU (S : List Nat) (x : Nat) : List Nat := if x ∈ S then S else S ++ [x]
theorem addU_mem (S : List Nat) (x y : Nat) : y ∈ addU S x ↔ y ∈ S ∨ y = x := by
  unfold addU
  by_cases h : x ∈ S
  · rw [if_pos h]
    exact ⟨.inl, fun h2 => by rcases h2 with h2 | h2; exact h2; rw [h2]; exact h⟩
  · rw [if_neg h]; simp
theorem addU_nd {S : List Nat} (h : S.Nodup) (x : Nat) : (addU S x).Nodup := by
  unfold addU
  by_cases q : x ∈ S
  · rw [if_pos q]; exact h
  · rw [if_neg q, List.nodup_append]
    exact ⟨h, by simp, fun a ha b hb e => by rw [List.mem_singleton.1 hb] at e; rw [e] at ha; exact q ha⟩
theorem MU.put_of {w w' : World} {b n x : Nat} {S : List Nat} {D : DataW Unit} (h : MU w b n S) (hx : x < 18446744073709551616) (hD : w.ownsMap Tryz.prog 41 unitElem b n D) (h2 : ∀ x : Nat, has D (kU x) = decide (x ∈ S)) (h3 : Maps.size D = S.length) (hD' : w'.ownsMap Tryz.prog 41 unitElem b (n + 1) (D.put (kU x) (.agg []))) : MU w' b (n + 1) (addU S x) := by
  refine ⟨⟨_, hD', fun y => ?_, ?_⟩, addU_nd h.nd x, fun y hy => ?_⟩
  · rw [Bool.eq_iff_iff, decide_eq_true_eq, addU_mem]
    by_cases e : y = x
    · subst e
      rw [has_put_same hD.isMap (lawU.key (kU_key hx)) _]
      simp
    · rw [has_put_other (fun e2 => e (kU_inj e2)), h2, decide_eq_true_eq]
      exact ⟨.inl, fun q => q.resolve_right e⟩
  · rw [size_put (hD.tidy lawU), h2, h3]
    unfold addU
    by_cases q : x ∈ S
    · rw [if_pos q, if_pos (by simpa using q)]
    · rw [if_neg q, if_neg (by simpa using q)]; simp
  · rcases (addU_mem S x y).1 hy with q | q
    · exact h.lt y q
    · rw [q]; exact hx
theorem wpList_putU {w : World} {ops : Array Oper} {rest : List Oper} {o : Oper} {a : Act} {Q : Exit → Act → World → Prop} (hg : o.guard = none) (m x v : Operand) (hop : o.op = Op.mapUpdate 67 m x v) (b n : Nat) (S : List Nat) (hm : a.eval m = .map (some b)) (h : MU w b n S) (hn : n < 1152921504606846976)
    (z : Nat) (hx : a.eval x = .int .u64 (z : Int)) (hv : a.eval v = .agg #[]) (hz : z < 18446744073709551616) (hK : ∀ w', MU w' b (n + 1) (addU S z) → w.grownBy w' (some b) → wpList Tryz.prog ops Q rest (a.put o.dst undef) w') : wpList Tryz.prog ops Q (o :: rest) a w := by
  obtain ⟨D, h1, h2, h3⟩ := h.ex
  refine wpList_mapUpdate_own w hg m x v 67 hop 41 128 lawU Tryz.underlying67 _ b n D hm h1 (by unfold maxLen; omega) _ _ _ hx hv (kU_key hz) _ [] unitElem_mk fun w' h5 h4 => hK w' (h.put_of hz h1 h2 h3 h5) h4
theorem wpListIn_putU {F : Fence} {d : Nat} {w : World} {ops : Array Oper} {rest : List Oper} {o : Oper} {a : Act} {Q : Exit → Act → World → Prop} (hg : o.guard = none) (m x v : Operand) (hop : o.op = Op.mapUpdate 67 m x v) (b n : Nat) (S : List Nat) (hm : a.eval m = .map (some b)) (h : MU w b n S) (hn : n < 1152921504606846976)
    (z : Nat) (hx : a.eval x = .int .u64 (z : Int)) (hv : a.eval v = .agg #[]) (hz : z < 18446744073709551616) (hK : ∀ w', MU w' b (n + 1) (addU S z) → w.grownBy w' (some b) → wpListIn F d Tryz.prog ops Q rest (a.put o.dst undef) w') : wpListIn F d Tryz.prog ops Q (o :: rest) a w := by
  obtain ⟨D, h1, h2, h3⟩ := h.ex
  refine wpListIn_mapUpdate_own w hg m x v 67 hop 41 128 lawU Tryz.underlying67 _ b n D hm h1 (by unfold maxLen; omega) _ _ _ hx hv (kU_key hz) _ [] unitElem_mk fun w' h5 h4 => hK w' (h.put_of hz h1 h2 h3 h5) h4
end Go.Proofs.YtfgkjofdgohacaaGreatDoor
namespace Go.Proofs.YtfgkjofdgohacaaGreatDoor
/-- The sum of the first n digits to the base 2 ^ k. -/
def popD (k : Nat) : Nat → Nat → Nat
  | 0, _ => 0
  | n + 1, x => x % 2 ^ k + popD k n (x / 2 ^ k)
/-- The first n digits to the base 2 ^ k are at most d, the others 0. -/
def DigOk (k d : Nat) : Nat → Nat → Prop
  | 0, x => x = 0
  | n + 1, x => x % 2 ^ k ≤ d ∧ DigOk k d n (x / 2 ^ k)
/-- The lower half of each of n pairs of digits. -/
def mk2 (k : Nat) : Nat → Nat
  | 0 => 0
  | n + 1 => 2 ^ (2 * k) * mk2 k n + (2 ^ k - 1)
theorem and_rec (k x m : Nat) : x &&& (2 ^ (2 * k) * m + (2 ^ k - 1)) = 2 ^ (2 * k) * ((x / 2 ^ (2 * k)) &&& m) + x % 2 ^ k := by
  have hk : 2 ^ k ≤ 2 ^ (2 * k) := Nat.pow_le_pow_right (by omega) (by omega)
  have hp : 0 < 2 ^ k := Nat.two_pow_pos k
  have h1 : 2 ^ k - 1 < 2 ^ (2 * k) := by omega
  have h2 : x % 2 ^ k < 2 ^ (2 * k) := Nat.lt_of_lt_of_le (Nat.mod_lt _ hp) hk
  apply Nat.eq_of_testBit_eq
  intro i
  rw [Nat.testBit_and, Nat.testBit_two_pow_mul_add _ h1, Nat.testBit_two_pow_mul_add _ h2]
  by_cases hi : i < 2 * k
  · rw [if_pos hi, if_pos hi, Nat.testBit_two_pow_sub_one, Nat.testBit_mod_two_pow, Bool.and_comm]
  · rw [if_neg hi, if_neg hi, Nat.testBit_and, Nat.testBit_div_two_pow]
    rw [show i - 2 * k + 2 * k = i by omega]
theorem DigOk.lt {k d : Nat} : ∀ {n x : Nat}, DigOk k d n x → x < 2 ^ (k * n)
  | 0, x, h => by rw [show x = 0 from h]; exact Nat.two_pow_pos _
  | n + 1, x, h => by
    have ih := DigOk.lt h.2
    rw [Nat.mul_succ, Nat.add_comm, Nat.pow_add, Nat.mul_comm]
    exact (Nat.div_lt_iff_lt_mul (Nat.two_pow_pos k)).1 ih
theorem digOk_of {k : Nat} : ∀ {n x : Nat}, x < 2 ^ (k * n) → DigOk k (2 ^ k - 1) n x
  | 0, x, h => by rw [Nat.mul_zero] at h; show x = 0; omega
  | n + 1, x, h => by
    have hp : 0 < 2 ^ k := Nat.two_pow_pos k
    refine ⟨by have := Nat.mod_lt x hp; omega, digOk_of ?_⟩
    rw [Nat.mul_succ, Nat.add_comm, Nat.pow_add, Nat.mul_comm] at h
    exact (Nat.div_lt_iff_lt_mul hp).2 h
/-- One stage: two digits are added up. -/
theorem pop_stage {k d : Nat} (hd : d < 2 ^ k) (hdd : 2 * d < 2 ^ (2 * k)) : ∀ {n x : Nat}, DigOk k d (2 * n) x → DigOk (2 * k) (2 * d) n ((x / 2 ^ k &&& mk2 k n) + (x &&& mk2 k n)) ∧ popD (2 * k) n ((x / 2 ^ k &&& mk2 k n) + (x &&& mk2 k n)) = popD k (2 * n) x
  | 0, x, h => by
    have : x = 0 := h
    subst this
    exact ⟨by show _ = 0; simp, rfl⟩
  | n + 1, x, h => by
    have hp : 0 < 2 ^ k := Nat.two_pow_pos k
    have hB : 0 < 2 ^ (2 * k) := Nat.two_pow_pos (2 * k)
    obtain ⟨h1, h2, h3⟩ : x % 2 ^ k ≤ d ∧ x / 2 ^ k % 2 ^ k ≤ d ∧ DigOk k d (2 * n) (x / 2 ^ k / 2 ^ k) := h
    have e0 : x / 2 ^ k / 2 ^ k = x / 2 ^ (2 * k) := by rw [Nat.div_div_eq_div_mul, ← Nat.pow_add, show k + k = 2 * k by omega]
    have e1 : x / 2 ^ k / 2 ^ (2 * k) = x / 2 ^ (2 * k) / 2 ^ k := by rw [Nat.div_div_eq_div_mul, Nat.div_div_eq_div_mul, Nat.mul_comm]
    rw [e0] at h3
    obtain ⟨i1, i2⟩ := pop_stage hd hdd h3
    have es : (x / 2 ^ k &&& mk2 k (n + 1)) + (x &&& mk2 k (n + 1)) = 2 ^ (2 * k) * ((x / 2 ^ (2 * k) / 2 ^ k &&& mk2 k n) + (x / 2 ^ (2 * k) &&& mk2 k n)) + (x / 2 ^ k % 2 ^ k + x % 2 ^ k) := by
      show (x / 2 ^ k &&& (2 ^ (2 * k) * mk2 k n + (2 ^ k - 1))) + (x &&& (2 ^ (2 * k) * mk2 k n + (2 ^ k - 1))) = _
      rw [and_rec, and_rec, e1, Nat.mul_add]
      omega
    rw [es]
    have em : (2 ^ (2 * k) * ((x / 2 ^ (2 * k) / 2 ^ k &&& mk2 k n) + (x / 2 ^ (2 * k) &&& mk2 k n)) + (x / 2 ^ k % 2 ^ k + x % 2 ^ k)) % 2 ^ (2 * k) = x / 2 ^ k % 2 ^ k + x % 2 ^ k := by
      rw [Nat.mul_add_mod]; exact Nat.mod_eq_of_lt (by omega)
    have ed : (2 ^ (2 * k) * ((x / 2 ^ (2 * k) / 2 ^ k &&& mk2 k n) + (x / 2 ^ (2 * k) &&& mk2 k n)) + (x / 2 ^ k % 2 ^ k + x % 2 ^ k)) / 2 ^ (2 * k) = (x / 2 ^ (2 * k) / 2 ^ k &&& mk2 k n) + (x / 2 ^ (2 * k) &&& mk2 k n) := by
      have hlt : x / 2 ^ k % 2 ^ k + x % 2 ^ k < 2 ^ (2 * k) := by omega
      rw [Nat.mul_add_div hB, Nat.div_eq_of_lt hlt, Nat.add_zero]
    refine ⟨⟨by rw [em]; omega, by rw [ed]; exact i1⟩, ?_⟩
    show _ % 2 ^ (2 * k) + popD (2 * k) n (_ / 2 ^ (2 * k)) = x % 2 ^ k + (x / 2 ^ k % 2 ^ k + popD k (2 * n) (x / 2 ^ k / 2 ^ k))
    rw [em, ed, i2, e0]
    omega
/-- The third stage: nibbles of at most 4 are added before the mask. -/
theorem pop_third : ∀ {n x : Nat}, DigOk 4 4 (2 * n) x → DigOk 8 8 n (x / 16 + x &&& mk2 4 n) ∧ popD 8 n (x / 16 + x &&& mk2 4 n) = popD 4 (2 * n) x
  | 0, x, h => by
    have : x = 0 := h
    subst this
    exact ⟨by show _ = 0; simp, rfl⟩
  | n + 1, x, h => by
    obtain ⟨h1, h2, h3⟩ : x % 2 ^ 4 ≤ 4 ∧ x / 2 ^ 4 % 2 ^ 4 ≤ 4 ∧ DigOk 4 4 (2 * n) (x / 2 ^ 4 / 2 ^ 4) := h
    have e0 : x / 2 ^ 4 / 2 ^ 4 = x / 256 := by omega
    rw [e0] at h3
    have h4 : x / 256 % 16 ≤ 4 := by
      cases n with
      | zero => rw [show x / 256 = 0 from h3]; omega
      | succ n => exact h3.1
    obtain ⟨i1, i2⟩ := pop_third h3
    have es : x / 16 + x &&& mk2 4 (n + 1) = 256 * (x / 256 / 16 + x / 256 &&& mk2 4 n) + (x % 16 + x / 16 % 16) := by
      show x / 16 + x &&& (2 ^ (2 * 4) * mk2 4 n + (2 ^ 4 - 1)) = _
      rw [and_rec]
      obtain ⟨x', hx'⟩ : ∃ y, x / 256 = y := ⟨_, rfl⟩
      obtain ⟨x2, hx2⟩ : ∃ y, x' / 16 = y := ⟨_, rfl⟩
      obtain ⟨lo, hlo⟩ : ∃ y, x % 16 = y := ⟨_, rfl⟩
      obtain ⟨hi, hhi⟩ : ∃ y, x / 16 % 16 = y := ⟨_, rfl⟩
      obtain ⟨l2, hl2⟩ : ∃ y, x' % 16 = y := ⟨_, rfl⟩
      have q1 : lo ≤ 4 := by rw [← hlo]; exact h1
      have q2 : hi ≤ 4 := by rw [← hhi]; exact h2
      have q3 : l2 ≤ 4 := by rw [← hl2, ← hx']; exact h4
      have g2 : x' = l2 + 16 * x2 := by omega
      have g3 : x / 16 = hi + 16 * x' := by omega
      have g4 : x = lo + 16 * (hi + 16 * x') := by omega
      have g1 : x / 16 + x = lo + hi + 16 * (hi + l2) + 256 * (x' + x2) := by omega
      have e2 : (x / 16 + x) / 2 ^ (2 * 4) = x2 + x' := by
        rw [g1]
        clear g1 g2 g3 g4 hx' hx2 hlo hhi hl2 h1 h2 h3 h4 i1 i2
        show (lo + hi + 16 * (hi + l2) + 256 * (x' + x2)) / 256 = _
        omega
      have e3 : (x / 16 + x) % 2 ^ 4 = lo + hi := by
        rw [g1]
        clear g1 g2 g3 g4 hx' hx2 hlo hhi hl2 h1 h2 h3 h4 i1 i2
        show (lo + hi + 16 * (hi + l2) + 256 * (x' + x2)) % 16 = _
        omega
      rw [e2, e3, hlo, hhi, hx', hx2]
    rw [es]
    generalize (x / 256 / 16 + x / 256 &&& mk2 4 n) = y at *
    have hs : x % 16 + x / 16 % 16 ≤ 8 := by
      have q1 : x % 16 ≤ 4 := h1
      have q2 : x / 16 % 16 ≤ 4 := h2
      omega
    have em : (256 * y + (x % 16 + x / 16 % 16)) % 2 ^ 8 = x % 16 + x / 16 % 16 := by
      generalize x % 16 + x / 16 % 16 = u at *
      show (256 * y + u) % 256 = u
      rw [Nat.mul_add_mod]; exact Nat.mod_eq_of_lt (by omega)
    have ed : (256 * y + (x % 16 + x / 16 % 16)) / 2 ^ 8 = y := by
      generalize x % 16 + x / 16 % 16 = u at *
      show (256 * y + u) / 256 = y
      rw [Nat.mul_add_div (by omega), Nat.div_eq_of_lt (by omega), Nat.add_zero]
    refine ⟨⟨by rw [em]; omega, by rw [ed]; exact i1⟩, ?_⟩
    show _ % 2 ^ 8 + popD 8 n (_ / 2 ^ 8) = x % 2 ^ 4 + (x / 2 ^ 4 % 2 ^ 4 + popD 4 (2 * n) (x / 2 ^ 4 / 2 ^ 4))
    rw [em, ed, i2, e0]
    omega
theorem ls1 {c1 c2 c3 c4 c5 c6 c7 y1 y2 y3 y4 y5 y6 : Nat} (h1 : y1 = c1 + 256 * y2) (h2 : y2 = c2 + 256 * y3) (h3 : y3 = c3 + 256 * y4) (h4 : y4 = c4 + 256 * y5) (h5 : y5 = c5 + 256 * y6) (h6 : y6 = c6 + 256 * c7) : y1 = c1 + 256 * c2 + 65536 * c3 + 16777216 * c4 + 4294967296 * c5 + 1099511627776 * c6 + 281474976710656 * c7 := by omega
theorem ls2 {x y c : Nat} (h : x = c + 256 * y) (b : c ≤ 8) : x / 256 = y := by omega
theorem ls3 {x c0 c1 c2 c3 c4 c5 c6 c7 : Nat} (h : x = c0 + 256 * (c1 + 256 * c2 + 65536 * c3 + 16777216 * c4 + 4294967296 * c5 + 1099511627776 * c6 + 281474976710656 * c7)) (b0 : c0 ≤ 8) (b1 : c1 ≤ 8) (b2 : c2 ≤ 8) (b3 : c3 ≤ 8) (b4 : c4 ≤ 8) (b5 : c5 ≤ 8) (b6 : c6 ≤ 8) (b7 : c7 ≤ 8) : x < 1152921504606846976 := by omega
theorem ls4 {x y1 c0 c1 c2 c3 c4 c5 c6 c7 : Nat} (h : x = c0 + 256 * y1) (k : y1 = c1 + 256 * c2 + 65536 * c3 + 16777216 * c4 + 4294967296 * c5 + 1099511627776 * c6 + 281474976710656 * c7) : x + y1 = ((c0 + c1) + 256 * (c1 + c2)) + 65536 * ((c2 + c3) + 256 * (c3 + c4) + 65536 * (c4 + c5) + 16777216 * (c5 + c6) + 4294967296 * (c6 + c7) + 1099511627776 * c7) := by omega
theorem ls5 {p u q : Nat} (h : p = u + 65536 * q) (hu : u < 65536) (hq : q < 17592186044416) : p / 65536 = q ∧ p < 1152921504606846976 := by omega
theorem ls6 {c0 c1 c2 : Nat} (b0 : c0 ≤ 8) (b1 : c1 ≤ 8) (b2 : c2 ≤ 8) : (c0 + c1) + 256 * (c1 + c2) < 65536 := by omega
theorem ls7 {c2 c3 c4 c5 c6 c7 : Nat} (b2 : c2 ≤ 8) (b3 : c3 ≤ 8) (b4 : c4 ≤ 8) (b5 : c5 ≤ 8) (b6 : c6 ≤ 8) (b7 : c7 ≤ 8) : (c2 + c3) + 256 * (c3 + c4) + 65536 * (c4 + c5) + 16777216 * (c5 + c6) + 4294967296 * (c6 + c7) + 1099511627776 * c7 < 17592186044416 := by omega
theorem ls8 {p q c0 c1 c2 c3 c4 c5 c6 c7 : Nat} (h : p = ((c0 + c1) + 256 * (c1 + c2)) + 65536 * q) (k : (c2 + c3) + 256 * (c3 + c4) + 65536 * (c4 + c5) + 16777216 * (c5 + c6) + 4294967296 * (c6 + c7) + 1099511627776 * c7 = q) : p + q = ((c0 + c1 + c2 + c3) + 256 * (c1 + c2 + c3 + c4) + 65536 * (c2 + c3 + c4 + c5) + 16777216 * (c3 + c4 + c5 + c6)) + 4294967296 * ((c4 + c5 + c6 + c7) + 256 * (c5 + c6 + c7) + 65536 * (c6 + c7) + 16777216 * c7) := by omega
theorem ls9 {c0 c1 c2 c3 c4 c5 c6 : Nat} (b0 : c0 ≤ 8) (b1 : c1 ≤ 8) (b2 : c2 ≤ 8) (b3 : c3 ≤ 8) (b4 : c4 ≤ 8) (b5 : c5 ≤ 8) (b6 : c6 ≤ 8) : (c0 + c1 + c2 + c3) + 256 * (c1 + c2 + c3 + c4) + 65536 * (c2 + c3 + c4 + c5) + 16777216 * (c3 + c4 + c5 + c6) < 4294967296 := by omega
theorem ls10 {c4 c5 c6 c7 : Nat} (b4 : c4 ≤ 8) (b5 : c5 ≤ 8) (b6 : c6 ≤ 8) (b7 : c7 ≤ 8) : (c4 + c5 + c6 + c7) + 256 * (c5 + c6 + c7) + 65536 * (c6 + c7) + 16777216 * c7 < 268435456 := by omega
theorem ls11 {r u v : Nat} (h : r = u + 4294967296 * v) (hu : u < 4294967296) (hv : v < 268435456) : r / 4294967296 = v ∧ r < 1152921504606846976 ∧ r + v < 1152921504606846976 + 268435456 := by omega
theorem ls12 {r v c0 c1 c2 c3 c4 c5 c6 c7 : Nat} (h : r = ((c0 + c1 + c2 + c3) + 256 * (c1 + c2 + c3 + c4) + 65536 * (c2 + c3 + c4 + c5) + 16777216 * (c3 + c4 + c5 + c6)) + 4294967296 * v) (k : (c4 + c5 + c6 + c7) + 256 * (c5 + c6 + c7) + 65536 * (c6 + c7) + 16777216 * c7 = v) : r + v = 128 * (2 * (c1 + c2 + c3 + c4) + 512 * (c2 + c3 + c4 + c5) + 131072 * (c3 + c4 + c5 + c6) + 33554432 * v + 2 * (c5 + c6 + c7) + 512 * (c6 + c7) + 131072 * c7) + (c0 + c1 + c2 + c3 + c4 + c5 + c6 + c7) := by omega
theorem ls13 {c0 c1 c2 c3 c4 c5 c6 c7 : Nat} (b0 : c0 ≤ 8) (b1 : c1 ≤ 8) (b2 : c2 ≤ 8) (b3 : c3 ≤ 8) (b4 : c4 ≤ 8) (b5 : c5 ≤ 8) (b6 : c6 ≤ 8) (b7 : c7 ≤ 8) : c0 + c1 + c2 + c3 + c4 + c5 + c6 + c7 < 128 := by omega
theorem last_sum {x c0 c1 c2 c3 c4 c5 c6 c7 y1 y2 y3 y4 y5 y6 : Nat} (h0 : x = c0 + 256 * y1) (h1 : y1 = c1 + 256 * y2) (h2 : y2 = c2 + 256 * y3) (h3 : y3 = c3 + 256 * y4) (h4 : y4 = c4 + 256 * y5) (h5 : y5 = c5 + 256 * y6) (h6 : y6 = c6 + 256 * c7)
    (b0 : c0 ≤ 8) (b1 : c1 ≤ 8) (b2 : c2 ≤ 8) (b3 : c3 ≤ 8) (b4 : c4 ≤ 8) (b5 : c5 ≤ 8) (b6 : c6 ≤ 8) (b7 : c7 ≤ 8) : x < 1152921504606846976 ∧ x + x / 256 < 1152921504606846976 ∧ (x + x / 256) + (x + x / 256) / 65536 < 1152921504606846976 ∧ ((x + x / 256) + (x + x / 256) / 65536) + ((x + x / 256) + (x + x / 256) / 65536) / 4294967296 < 1152921504606846976 + 268435456 ∧
    (((x + x / 256) + (x + x / 256) / 65536) + ((x + x / 256) + (x + x / 256) / 65536) / 4294967296) % 128 = c0 + c1 + c2 + c3 + c4 + c5 + c6 + c7 := by
  have f1 := ls1 h1 h2 h3 h4 h5 h6
  have hx : x < 1152921504606846976 := ls3 (h0.trans (by rw [f1])) b0 b1 b2 b3 b4 b5 b6 b7
  rw [ls2 h0 b0]
  have s1 := ls4 h0 f1
  obtain ⟨q, hq⟩ : ∃ q, (c2 + c3) + 256 * (c3 + c4) + 65536 * (c4 + c5) + 16777216 * (c5 + c6) + 4294967296 * (c6 + c7) + 1099511627776 * c7 = q := ⟨_, rfl⟩
  have hqb := ls7 b2 b3 b4 b5 b6 b7
  rw [hq] at s1 hqb
  generalize x + y1 = p at *
  have d1 := ls5 s1 (ls6 b0 b1 b2) hqb
  rw [d1.1]
  have s2 := ls8 s1 hq
  obtain ⟨v, hv⟩ : ∃ v, (c4 + c5 + c6 + c7) + 256 * (c5 + c6 + c7) + 65536 * (c6 + c7) + 16777216 * c7 = v := ⟨_, rfl⟩
  have hvb := ls10 b4 b5 b6 b7
  rw [hv] at s2 hvb
  generalize p + q = r at *
  have d2 := ls11 s2 (ls9 b0 b1 b2 b3 b4 b5 b6) hvb
  rw [d2.1]
  refine ⟨hx, d1.2, d2.2.1, d2.2.2, ?_⟩
  rw [ls12 s2 hv, Nat.mul_add_mod, Nat.mod_eq_of_lt (ls13 b0 b1 b2 b3 b4 b5 b6 b7)]
/-- The last stage: the bytes are added up. -/
theorem pop_last {x : Nat} (h : DigOk 8 8 8 x) : x < 1152921504606846976 ∧ x + x / 256 < 1152921504606846976 ∧ (x + x / 256) + (x + x / 256) / 65536 < 1152921504606846976 ∧ ((x + x / 256) + (x + x / 256) / 65536) + ((x + x / 256) + (x + x / 256) / 65536) / 4294967296 < 1152921504606846976 + 268435456 ∧
    (((x + x / 256) + (x + x / 256) / 65536) + ((x + x / 256) + (x + x / 256) / 65536) / 4294967296) % 128 = popD 8 8 x := by
  obtain ⟨a0, a1, a2, a3, a4, a5, a6, a7, a8⟩ := h
  have a9 : x / 2 ^ 8 / 2 ^ 8 / 2 ^ 8 / 2 ^ 8 / 2 ^ 8 / 2 ^ 8 / 2 ^ 8 / 2 ^ 8 = 0 := a8
  have st : ∀ z : Nat, z = z % 2 ^ 8 + 256 * (z / 2 ^ 8) := fun z => (Nat.mod_add_div z 256).symm
  have l := last_sum (st x) (st (x / 2 ^ 8)) (st (x / 2 ^ 8 / 2 ^ 8)) (st (x / 2 ^ 8 / 2 ^ 8 / 2 ^ 8)) (st (x / 2 ^ 8 / 2 ^ 8 / 2 ^ 8 / 2 ^ 8)) (st (x / 2 ^ 8 / 2 ^ 8 / 2 ^ 8 / 2 ^ 8 / 2 ^ 8)) (c7 := x / 2 ^ 8 / 2 ^ 8 / 2 ^ 8 / 2 ^ 8 / 2 ^ 8 / 2 ^ 8 / 2 ^ 8 % 2 ^ 8) (by
      have h7 := st (x / 2 ^ 8 / 2 ^ 8 / 2 ^ 8 / 2 ^ 8 / 2 ^ 8 / 2 ^ 8 / 2 ^ 8)
      rw [a9, Nat.mul_zero, Nat.add_zero] at h7
      rw [← h7]
      exact st _) a0 a1 a2 a3 a4 a5 a6 a7
  refine ⟨l.1, l.2.1, l.2.2.1, l.2.2.2.1, ?_⟩
  rw [l.2.2.2.2]
  simp only [popD, Nat.add_zero, Nat.add_assoc]
/-- The bits of x below n. -/
def cntB (x : Nat) : Nat → Nat
  | 0 => 0
  | n + 1 => cntB x n + if x.testBit n then 1 else 0
theorem cntB_le (x : Nat) : ∀ n, cntB x n ≤ n
  | 0 => Nat.le_refl _
  | n + 1 => by
    have := cntB_le x n
    unfold cntB
    split <;> omega
theorem popD_snoc : ∀ (n x : Nat), popD 1 (n + 1) x = popD 1 n x + x / 2 ^ n % 2
  | 0, x => by simp [popD]
  | n + 1, x => by
    have ih := popD_snoc n (x / 2 ^ 1)
    show x % 2 ^ 1 + popD 1 (n + 1) (x / 2 ^ 1) = (x % 2 ^ 1 + popD 1 n (x / 2 ^ 1)) + x / 2 ^ (n + 1) % 2
    rw [ih, Nat.div_div_eq_div_mul, ← Nat.pow_add, Nat.add_comm 1 n]
    omega
theorem cntB_pop (x : Nat) : ∀ n, cntB x n = popD 1 n x
  | 0 => rfl
  | n + 1 => by
    rw [popD_snoc, ← cntB_pop x n]
    show cntB x n + (if x.testBit n then 1 else 0) = _
    rw [Nat.testBit_eq_decide_div_mod_eq]
    by_cases h : x / 2 ^ n % 2 = 1
    · rw [h]; simp
    · rw [show x / 2 ^ n % 2 = 0 by omega]; simp
end Go.Proofs.YtfgkjofdgohacaaGreatDoor
namespace Go.Proofs.YtfgkjofdgohacaaGreatDoor
theorem sorted_ext4 {α : Type} {R : α → α → Prop} (irr : ∀ x, ¬ R x x) (asy : ∀ x y, R x y → R y x → False) {l m : List α} (hl : l.Pairwise R) (hm : m.Pairwise R) (h : ∀ x, x ∈ l ↔ x ∈ m) : l = m := by
  have nl : l.Nodup := hl.imp (fun {a b} h e => by subst e; exact irr _ h)
  have nm : m.Nodup := hm.imp (fun {a b} h e => by subst e; exact irr _ h)
  exact List.Perm.eq_of_pairwise (fun a b _ _ h1 h2 => (asy a b h1 h2).elim) hl hm ((List.perm_ext_iff_of_nodup nl nm).2 h)
theorem bit_of_ne4 {x : Nat} (h : x ≠ 0) : ∃ k, x.testBit k = true := by
  refine Classical.byContradiction fun hn => h ?_
  apply Nat.eq_of_testBit_eq
  intro k
  rw [Nat.zero_testBit]
  cases hb : x.testBit k with
  | false => rfl
  | true => exact absurd ⟨k, hb⟩ hn
theorem bit_lt4 {x k m : Nat} (hx : x < 2 ^ m) (h : x.testBit k = true) : k < m := by
  rcases Nat.lt_or_ge k m with q | q
  · exact q
  · have hp : 2 ^ m ≤ 2 ^ k := Nat.pow_le_pow_right (by omega) q
    rw [Nat.testBit_lt_two_pow (by omega)] at h; cases h
/-- What lies below has fewer leaves. -/
theorem sub_bit4 {a b k : Nat} (h : a &&& b = b) (hb : b.testBit k = true) : a.testBit k = true := by
  have := congrArg (fun y => y.testBit k) h
  simp only [Nat.testBit_and, hb, Bool.and_true] at this
  exact this
/-- Two nodes with a common leaf: the one with the smaller number is above. -/
theorem and_bit4 {a b : Nat} (h : a &&& b ≠ 0) : ∃ k, a.testBit k = true ∧ b.testBit k = true := by
  obtain ⟨k, hk⟩ := bit_of_ne4 h
  rw [Nat.testBit_and, Bool.and_eq_true] at hk
  exact ⟨k, hk⟩
/-- The sets of two nodes fit. -/
theorem cnt_mono4 {a b : Nat} (h : ∀ i, a.testBit i = true → b.testBit i = true) : ∀ n, cntB a n ≤ cntB b n ∧ (cntB b n ≤ cntB a n → ∀ i, i < n → b.testBit i = true → a.testBit i = true) := by
  intro n
  induction n with
  | zero => exact ⟨Nat.le_refl _, fun _ i hi => by omega⟩
  | succ n ih =>
    obtain ⟨h1, h2⟩ := ih
    unfold cntB
    cases ha : a.testBit n with
    | true =>
      rw [h n ha]
      refine ⟨by simp; exact h1, fun hle i hi hb => ?_⟩
      by_cases e : i = n
      · subst e; exact ha
      · exact h2 (by simp at hle; exact hle) i (by omega) hb
    | false =>
      cases hb : b.testBit n with
      | true => exact ⟨by simp; omega, fun hle => by simp at hle; omega⟩
      | false =>
        refine ⟨by simp; exact h1, fun hle i hi hb2 => ?_⟩
        by_cases e : i = n
        · subst e; rw [hb] at hb2; cases hb2
        · exact h2 (by simp at hle; exact hle) i (by omega) hb2
theorem sub_eq4 {a b : Nat} (_ : a < 2 ^ 64) (hb : b < 2 ^ 64) (h : b &&& a = a) (hc : cntB b 64 ≤ cntB a 64) : a = b := by
  have hs : ∀ i, a.testBit i = true → b.testBit i = true := fun i hi => sub_bit4 h hi
  have hk := (cnt_mono4 hs 64).2 hc
  apply Nat.eq_of_testBit_eq
  intro i
  cases hbi : b.testBit i with
  | true => exact hk i (bit_lt4 hb hbi) hbi
  | false =>
    cases hai : a.testBit i with
    | true => rw [hs i hai] at hbi; cases hbi
    | false => rfl
theorem sub_trans4 {a b c : Nat} (h1 : a &&& b = b) (h2 : b &&& c = c) : a &&& c = c := by
  rw [← h2, ← Nat.and_assoc, h1]
theorem sub_ne4 {a b c : Nat} (hc : c ≠ 0) (h1 : a &&& c = c) (h2 : b &&& c = c) : a &&& b ≠ 0 := by
  intro h
  obtain ⟨k, hk⟩ := bit_of_ne4 hc
  have := congrArg (fun y => y.testBit k) h
  simp only [Nat.testBit_and, sub_bit4 h1 hk, sub_bit4 h2 hk, Nat.zero_testBit, Bool.and_self] at this
  cases this
theorem sub_all4 {L x : Nat} (hx : x < 2 ^ L) : (2 ^ L - 1) &&& x = x := by
  apply Nat.eq_of_testBit_eq
  intro k
  rw [Nat.testBit_and, Nat.testBit_two_pow_sub_one]
  cases hb : x.testBit k with
  | true => rw [decide_eq_true (bit_lt4 hx hb)]; rfl
  | false => simp
/-- The node above. -/
theorem one_sub4 {x k : Nat} (h : x.testBit k = true) : x &&& 2 ^ k = 2 ^ k := by
  apply Nat.eq_of_testBit_eq
  intro i
  rw [Nat.testBit_and, Nat.testBit_two_pow]
  by_cases e : k = i
  · subst e; rw [h]; simp
  · rw [decide_eq_false e, Bool.and_false]
theorem sub_one4 {x k : Nat} (h : x &&& 2 ^ k = 2 ^ k) : x.testBit k = true := sub_bit4 h (Nat.testBit_two_pow_self)
end Go.Proofs.YtfgkjofdgohacaaGreatDoor
namespace Go.Proofs.YtfgkjofdgohacaaGreatDoor
/-- x put into an increasing list. -/
def insU (x : Nat) : List Nat → List Nat
  | [] => [x]
  | y :: l => if x < y then x :: y :: l else if x = y then y :: l else y :: insU x l
theorem insU_mem (x z : Nat) : ∀ l : List Nat, z ∈ insU x l ↔ z = x ∨ z ∈ l := by
  intro l
  induction l with
  | nil => simp [insU]
  | cons y l ih =>
    unfold insU
    by_cases h1 : x < y
    · rw [if_pos h1]; simp
    · rw [if_neg h1]
      by_cases h2 : x = y
      · rw [if_pos h2]; subst h2; simp
      · rw [if_neg h2, List.mem_cons, ih, List.mem_cons]
        constructor
        · rintro (h | h | h)
          · exact .inr (.inl h)
          · exact .inl h
          · exact .inr (.inr h)
        · rintro (h | h | h)
          · exact .inr (.inl h)
          · exact .inl h
          · exact .inr (.inr h)
theorem insU_pw {x : Nat} : ∀ {l : List Nat}, l.Pairwise (· < ·) → (insU x l).Pairwise (· < ·) := by
  intro l
  induction l with
  | nil => intro _; simp [insU]
  | cons y l ih =>
    intro h
    rw [List.pairwise_cons] at h
    unfold insU
    by_cases h1 : x < y
    · rw [if_pos h1, List.pairwise_cons, List.pairwise_cons]
      exact ⟨fun z hz => by
        rcases List.mem_cons.1 hz with e | e
        · omega
        · have := h.1 z e; omega, h⟩
    · rw [if_neg h1]
      by_cases h2 : x = y
      · rw [if_pos h2, List.pairwise_cons]; exact h
      · rw [if_neg h2, List.pairwise_cons]
        refine ⟨fun z hz => ?_, ih h.2⟩
        rcases (insU_mem x z l).1 hz with e | e
        · omega
        · exact h.1 z e
/-- The numbers of a list in increasing order, each once. -/
def sdU (l : List Nat) : List Nat := l.foldl (fun acc x => insU x acc) []
theorem sdU_snoc (l : List Nat) (x : Nat) : sdU (l ++ [x]) = insU x (sdU l) := by simp [sdU]
theorem snoc_rec {α : Type} {P : List α → Prop} (h0 : P []) (hs : ∀ l x, P l → P (l ++ [x])) (l : List α) : P l := by
  have : ∀ n (l : List α), l.length = n → P l := by
    intro n
    induction n with
    | zero => intro l hl; rw [List.length_eq_zero_iff.1 hl]; exact h0
    | succ n ih =>
      intro l hl
      have hne : l ≠ [] := fun e => by rw [e] at hl; simp at hl
      rw [← List.dropLast_concat_getLast hne]
      exact hs _ _ (ih _ (by rw [List.length_dropLast]; omega))
  exact this l.length l rfl
theorem sdU_mem (x : Nat) (l : List Nat) : x ∈ sdU l ↔ x ∈ l := by
  refine snoc_rec (P := fun l => x ∈ sdU l ↔ x ∈ l) ?_ (fun l y ih => ?_) l
  · simp [sdU]
  · rw [sdU_snoc, insU_mem, ih]; simp [or_comm]
theorem sdU_pw (l : List Nat) : (sdU l).Pairwise (· < ·) := by
  refine snoc_rec (P := fun l => (sdU l).Pairwise (· < ·)) ?_ (fun l y ih => ?_) l
  · simp [sdU]
  · rw [sdU_snoc]; exact insU_pw ih
theorem sd_ext {l m : List Nat} (hl : l.Pairwise (· < ·)) (hm : m.Pairwise (· < ·)) (h : ∀ x, x ∈ l ↔ x ∈ m) : l = m :=
  sorted_ext4 (R := (· < ·)) (fun x => Nat.lt_irrefl x) (fun x y h1 h2 => by omega) hl hm h
theorem sd_nodup {l : List Nat} (hl : l.Pairwise (· < ·)) : l.Nodup := hl.imp (fun h => Nat.ne_of_lt h)
/-- What a list without twins gives when it is sorted. -/
theorem sd_sort {l : List Nat} (hn : l.Nodup) : l.mergeSort (fun x y => decide (x ≤ y)) = sdU l := by
  refine sd_ext ?_ (sdU_pw l) fun x => by rw [List.mem_mergeSort, sdU_mem]
  have h1 : (l.mergeSort (fun x y => decide (x ≤ y))).Pairwise (fun x y => x ≤ y) := by
    have := List.pairwise_mergeSort (le := fun x y => decide ((x : Nat) ≤ y)) (fun a b c h1 h2 => by simp at *; omega) (fun a b => by simp; omega) l
    exact this.imp (fun h => by simpa using h)
  have h2 : (l.mergeSort (fun x y => decide (x ≤ y))).Nodup := (List.mergeSort_perm l _).nodup_iff.2 hn
  exact (h1.and h2).imp (fun ⟨a, b⟩ => by omega)
theorem sdU_congr {l m : List Nat} (h : ∀ x, x ∈ l ↔ x ∈ m) : sdU l = sdU m := sd_ext (sdU_pw l) (sdU_pw m) fun x => by rw [sdU_mem, sdU_mem, h]
theorem sdU_len {l : List Nat} (hn : l.Nodup) : (sdU l).length = l.length := by rw [← sd_sort hn, List.length_mergeSort]
theorem sdU_le (l : List Nat) : (sdU l).length ≤ l.length := by
  refine snoc_rec (P := fun l => (sdU l).length ≤ l.length) ?_ (fun l y ih => ?_) l
  · simp [sdU]
  · rw [sdU_snoc, List.length_append, List.length_singleton]
    have key : ∀ m : List Nat, (insU y m).length ≤ m.length + 1 := by
      intro m
      induction m with
      | nil => simp [insU]
      | cons z m ih2 =>
        unfold insU
        split
        · simp
        · split
          · simp
          · simp; exact ih2
    have := key (sdU l)
    omega
theorem sdU_self {l : List Nat} (h : l.Pairwise (· < ·)) : sdU l = l := sd_ext (sdU_pw l) h fun x => sdU_mem x l
end Go.Proofs.YtfgkjofdgohacaaGreatDoor
namespace Go.Proofs.YtfgkjofdgohacaaGreatDoor
open Go Go.RowKit Go.Maps
set_option maxHeartbeats 2000000 in
theorem hasU_any (b n x : Nat) (S : List Nat) (w : World) (h : MU w b n S) (hx : x < 18446744073709551616) :
    Calls Tryz.prog 55 #[.map (some b), .int .u64 (x : Int)] w fun e w' => e = .returned (.bool (decide (x ∈ S))) ∧ w' = w.alloc (.cells #[] 128) := by
  have hlk := h.ask x hx
  obtain ⟨c, hc⟩ : ∃ c, c = decide (x ∈ S) := ⟨_, rfl⟩
  rw [← hc] at hlk ⊢
  clear hc h
  go_enter Tryz.func55, Tryz.ntmps55
  go_wp2_with fail
  go_ret
  exact ⟨rfl, rfl⟩
/-- A set with the numbers of a list. -/
def addL (S l : List Nat) : List Nat := l.foldl addU S
theorem addL_snoc (S l : List Nat) (x : Nat) : addL S (l ++ [x]) = addU (addL S l) x := by simp [addL]
theorem addL_mem (S l : List Nat) (y : Nat) : y ∈ addL S l ↔ y ∈ S ∨ y ∈ l := by
  refine snoc_rec (P := fun l => y ∈ addL S l ↔ y ∈ S ∨ y ∈ l) (by simp [addL]) (fun l x ih => ?_) l
  rw [addL_snoc, addU_mem, ih]
  simp [or_assoc]
theorem addL_nd {S : List Nat} (h : S.Nodup) (l : List Nat) : (addL S l).Nodup :=
  snoc_rec (P := fun l => (addL S l).Nodup) (by simpa [addL] using h) (fun l x ih => by rw [addL_snoc]; exact addU_nd ih x) l
theorem take_snocV {l : List Nat} {k : Nat} (h : k < l.length) : l.take (k + 1) = l.take k ++ [vA l k] := by
  rw [List.take_succ_eq_append_getElem h]
  simp [vA, h]
set_option maxRecDepth 100000 in
set_option maxHeartbeats 2000000 in
theorem putU_any (b n : Nat) (S : List Nat) (a : Option Addr) (N c : Nat) (l : List Nat) (w : World) (h : MU w b n S) (hl : l.length = N) (hN : N ≤ 1048576) (hn : n ≤ 1048576) (hA : Rd w a (fl encV l)) (hF : ∀ i, i < N → vA l i < 18446744073709551616) :
    Calls Tryz.prog 69 #[.map (some b), .slice a N c] w fun e w' => e = .returned (.tuple #[]) ∧ MU w' b (n + N) (addL S l) ∧ w.grownBy w' (some b) := by
  have HL := Lib.hid hl
  have HA := Lib.hid hA
  have HF := Lib.hid hF
  have HM := Lib.hid h
  have HG : Hid (w.grownBy w (some b)) := ⟨rfl, rfl, rfl, Nat.le_refl _, fun _ _ _ => rfl⟩
  obtain ⟨es, cl, hbk⟩ := h.blk
  have HBK := Lib.hid hbk
  clear h hl hA hF hbk
  go_enter Tryz.func69, Tryz.ntmps69
  go_wp2_with fail
  go_loopw [8, 5] (fun x _ wr => ∃ k : Nat, k ≤ N ∧ x = .int .i64 k ∧ Hid (MU wr b (n + k) (addL S (l.take k))) ∧ Hid (w.grownBy wr (some b))) (fun x _ _ => N - (intOf x).toNat)
  case atStart => exact ⟨0, by omega, rfl, (by show MU w b (n + 0) (addL S (l.take 0)); exact HM.out), HG⟩
  case round =>
    clear HM HG
    obtain ⟨k, hk, rfl, HM, HG⟩ := hrel
    by_cases hlt : k < N
    · have HR : Hid (Rd wr a (fl encV l)) := by
        intro h0
        obtain ⟨bb, off, e, hlt2, hc⟩ := HA.out h0
        have hbb : bb ≠ b := fun e2 => by
          have h1 := hc 0 (by omega)
          subst e2
          simp [World.cell?, HBK.out] at h1
        exact ⟨bb, off, e, Nat.lt_of_lt_of_le hlt2 HG.out.size, fun i hi => by
          rw [← hc i hi]
          simp only [World.cell?]
          rw [HG.out.block bb hlt2 (fun e2 => hbb (Option.some.inj e2))]⟩
      obtain ⟨bb, o, rfl, hb, hc⟩ := rdV HR.out (by rw [HL.out]; omega)
      have G := hc k (by rw [HL.out]; exact hlt)
      have hz := HF.out k hlt
      have HNX : Hid (addU (addL S (l.take k)) (vA l k) = addL S (l.take (k + 1))) := by
        show _ = _
        rw [take_snocV (by rw [HL.out]; exact hlt), addL_snoc]
      clear hc
      generalize vA l k = z at *
      go_wp2_with (refine wpList_putU rfl (.tmp 12) (.tmp 13) (.tmp 14) rfl b (n + k) _ rfl HM.out (by omega) z rfl rfl hz ?_; intro w2 hm2 hg2; have HM2 := Lib.hid hm2; have HG2 := Lib.hid hg2; clear hm2 hg2)
      go_roundw
      case rel => exact ⟨k + 1, by omega, by go_num, by rw [← HNX.out]; exact HM2.out, ⟨HG2.out.os.trans HG.out.os, HG2.out.tape.trans HG.out.tape, HG2.out.output.trans HG.out.output, Nat.le_trans HG.out.size HG2.out.size, fun i hi hne => (HG2.out.block i (Nat.lt_of_lt_of_le hi HG.out.size) hne).trans (HG.out.block i hi hne)⟩⟩
      case measure => simp [intOf]; omega
    · obtain rfl : k = N := by omega
      go_wp2_with fail
      go_end0
      refine ⟨rfl, ?_, HG.out⟩
      have h := HM.out
      rw [List.take_of_length_le (by rw [HL.out]; exact Nat.le_refl _)] at h
      exact h
end Go.Proofs.YtfgkjofdgohacaaGreatDoor
namespace Go.Proofs.YtfgkjofdgohacaaGreatDoor
open Go Go.RowKit Go.Maps Go.Shelf
/-- What has come of a set. -/
def ColN (D : DataW Unit) (left : Lit → Bool) (ss : List Nat) : Prop := ss.Nodup ∧ ∀ x : Nat, x ∈ ss ↔ (has D (kU x) = true ∧ left (kU x) = false)
theorem ColN.start (D : DataW Unit) : ColN D (has D) [] := ⟨List.nodup_nil, fun x => by
  constructor
  · intro h; simp at h
  · rintro ⟨h1, h2⟩; rw [h1] at h2; cases h2⟩
theorem kU_same (x y : Nat) : (kU x).sameKey (kU y) = decide (x = y) := by
  by_cases h : x = y
  · subst h; simp [kU, Lit.sameKey]
  · rw [sameKey_ne (fun e => h (kU_inj e)), decide_eq_false h]
theorem ColN.step {D : DataW Unit} {left : Lit → Bool} {ss : List Nat} (h : ColN D left ss) {x : Nat} (hl : left (kU x) = true) (hh : has D (kU x) = true) : ColN D (fun z => left z && !z.sameKey (kU x)) (ss ++ [x]) := by
  have hx : x ∉ ss := fun hm => by rw [((h.2 x).1 hm).2] at hl; cases hl
  refine ⟨?_, fun y => ?_⟩
  · rw [List.nodup_append]
    exact ⟨h.1, by simp, fun a ha b hb e => by rw [List.mem_singleton.1 hb] at e; rw [e] at ha; exact hx ha⟩
  · rw [List.mem_append, List.mem_singleton, h.2 y]
    show _ ↔ has D (kU y) = true ∧ (left (kU y) && !(kU y).sameKey (kU x)) = false
    rw [kU_same]
    by_cases e : y = x
    · subst e; simp [hh]
    · simp [e]
set_option maxHeartbeats 1000000 in
theorem keysU_any (b : Nat) (w : World) : Calls Tryz.prog 96 #[.map (some b)] w fun e w' => e = .returned (.func (.func 121) #[] #[.pointer (some ⟨w.heap.size, 0, none⟩)]) ∧ w' = w.alloc (.cells #[.map (some b)] 67) := by
  go_enter Tryz.func96, Tryz.ntmps96
  go_wp2_with fail
  go_ret
  exact ⟨rfl, rfl⟩
set_option maxRecDepth 100000 in
set_option maxHeartbeats 2000000 in
theorem keysU_stops (m Bm b n : Nat) (S : List Nat) (w : World) (hm : 1 ≤ m) (hBm : Bm < w.heap.size) (hc : w.cell? ⟨Bm, 0, none⟩ = some (.map (some b))) (h : MU w b n S) :
    SeqStopsK Fence.wide m Tryz.prog 121 #[.pointer (some ⟨Bm, 0, none⟩)] (fun x : Nat => #[.int .u64 (x : Int)]) KeepsWalks (fun xs => xs.Perm S) (fun _ => True) S.length w := fun l J Jx W hW hJ hJx hY h0 => by
  have hW0 := h.bl hW
  have hcW : W.cell? ⟨Bm, 0, none⟩ = some (.map (some b)) := (hW.cell (p := ⟨Bm, 0, none⟩) hBm).trans hc
  obtain ⟨D, hown, hhas, hsz⟩ := hW0.ex
  have HP : Hid (∀ ss, ColN D (fun _ => false) ss → ss.Perm S) := fun ss hC => by
    refine (List.perm_ext_iff_of_nodup hC.1 h.nd).2 fun x => ?_
    rw [hC.2 x, hhas]
    simp
  have HSZ := Lib.hid hsz
  have HLT := Lib.hid (fun x (hx : has D (kU x) = true) => h.lt x (by rw [hhas] at hx; simpa using hx))
  have HJ := Lib.hid hJ
  have HJx := Lib.hid hJx
  have HY := Lib.hid hY
  have H0 := Lib.hid h0
  clear hW hJ hJx hY h0 h hW0 hc hBm hsz hhas
  refine callsIn_of_wp Tryz.func121 rfl trivial ?_ rfl
  simp only [Tryz.ntmps121, List.size_toArray, List.length_cons, List.length_nil, Nat.reduceAdd, Nat.reduceSub, Array.replicate_succ, Array.replicate_zero, List.push_toArray, List.append_toArray, List.nil_append, List.cons_append]
  gi_wp2_with (first
    | (gi_at_range; refine wpListIn_range_own _ rfl _ 67 rfl 41 128 lawU Tryz.underlying67 _ b n _ rfl hown ?_; intro w0 hrg0 hg0 hs0)
    | gi_in)
  try go_frame
  gi_loopw [3] (fun _ wr => ∃ (left : Lit → Bool) (cnt : Nat) (ss : List Nat), wr.ranges Tryz.prog 41 unitElem b W.heap.size n D left cnt ∧ ss.length + cnt ≤ S.length ∧ Hid (ColN D left ss) ∧ Hid (J ss wr))
    (fun _ wr => wr.rangeLeft b W.heap.size)
  case atStart =>
    exact ⟨_, _, [], hrg0, by rw [HSZ.out]; simp, ColN.start D, HJ.out [] W w0 none H0.out hg0 (fun r e => by cases e)⟩
  case round =>
    clear hrg0 hg0 hs0
    obtain ⟨left, cnt, ss, hrg, hcs, hC, hJs⟩ := hrel
    gi_wp2_with (first
      | (gi_at_next; refine wpListIn_next_ranges _ rfl _ rfl 41 lawU unitElem (Value.int .u64) id (fun key kl hk => by obtain ⟨x, hx, _⟩ := Maps.keyOf_int_inv Tryz.underlying41 hk; exact ⟨x, hx⟩) (fun v _ _ => ⟨v, rfl⟩) b W.heap.size n _ _ _ rfl hrg ?_ ?_)
      | gi_in)
    · intro hc0 hl0
      have hl : left = fun _ => false := funext hl0
      have HF := Lib.hid (HP.out ss (by rw [← hl]; exact hC.out))
      clear hl
      gi_wp2
      go_end0
      exact ⟨⟨_, rfl⟩, .inl ⟨ss, HF.out, hJs.out⟩⟩
    · intro x c kl yd yp w2 cnt2 hkey hlk hv hat hrg2 hlt hg2 hs2 hen
      obtain ⟨x', ex, rfl, hwf⟩ := Maps.keyOf_int_inv Tryz.underlying41 hkey
      obtain rfl : x = x' := by injection ex
      obtain ⟨y, rfl⟩ : ∃ y : Nat, x = (y : Int) := ⟨x.toNat, by simp [Lit.wf, IntKind.min, IntKind.max, IntKind.bits, IntKind.signed] at hwf; omega⟩
      have hh : has D (kU y) = true := has_true_of_atKey hat
      have hC2 := Lib.hid (hC.out.step hlk hh)
      have hJ2 : J ss w2 := HJ.out ss wr w2 (some W.heap.size) hJs.out hg2 (fun r e => by cases e; exact ⟨Nat.le_refl _, hrg.iter_walk⟩)
      obtain ⟨fn, tmps, assign, body, hy, hR⟩ := HY.out ss y w2 hJ2 (by omega)
      have HR := Lib.hid hR
      have HRG2 := Lib.hid hrg2
      have HRG := Lib.hid hrg
      clear hs2 hJ2 hR hrg2 hrg hv hat hwf hkey hlk ex
      gi_wp2
      refine HR.out.mono ?_
      rintro e W3 (⟨rfl, hJ3, hk3⟩ | ⟨rfl, hJx3⟩)
      · have hrg3 := Lib.hid (HRG2.out.of_walks hk3)
        have HJ3 := Lib.hid hJ3
        clear hk3 hJ3
        gi_wp2
        go_roundw
        case rel => exact ⟨_, cnt2, ss ++ [y], hrg3.out, by simp; omega, hC2, HJ3⟩
        case measure => rw [hrg3.out.left_eq, HRG.out.left_eq]; exact hlt
      · have HJx3 := Lib.hid hJx3
        clear hJx3
        gi_wp2
        refine bodyPost_ret (results_none rfl _ _ _) rfl ?_
        exact ⟨⟨_, rfl⟩, .inr ⟨ss ++ [y], trivial, HJx3.out⟩⟩
end Go.Proofs.YtfgkjofdgohacaaGreatDoor
namespace Go.Proofs.YtfgkjofdgohacaaGreatDoor
open Go Go.RowKit Go.Shelf Go.Sort
/-- Numbers in a row of memory, and their order. -/
def encN (x : Nat) : Value := .int .u64 (x : Int)
def ltN (x y : Nat) : Bool := decide (x < y)
theorem swoN : SWO ltN := ⟨fun x => by simp [ltN], fun x y z h1 h2 => by simp [ltN] at *; omega, fun x y z h1 h2 => by simp [ltN] at *; omega⟩
/-- w' is w, the row of block blk turned to d; new blocks, more draws. -/
def RowTo (w w' : World) (blk off : Nat) (d : Array Nat) : Prop := ∃ (m : Nat) (os : Array Obj), w' = grow (putRow encN (Sort.ahead w m) blk off d) os
theorem RowTo.of_put {w w' : World} {blk off m : Nat} {d : Array Nat} (h : w' = putRow encN (Sort.ahead w m) blk off d) : RowTo w w' blk off d := ⟨m, #[], by rw [h, grow_empty]⟩
theorem RowTo.self {w : World} {blk off : Nat} {d : Array Nat} (h : Holds encN w blk off d) : RowTo w w blk off d := ⟨0, #[], by rw [grow_empty]; exact (putRow_self encN w blk off d h).symm⟩
theorem RowTo.size {w w' : World} {blk off : Nat} {d : Array Nat} (h : RowTo w w' blk off d) : w.heap.size ≤ w'.heap.size := by
  obtain ⟨m, os, rfl⟩ := h
  rw [size_grow, size_putRow]
  show w.heap.size ≤ w.heap.size + _
  omega
theorem RowTo.holds {w w' : World} {blk off : Nat} {d0 d : Array Nat} (h : RowTo w w' blk off d) (h0 : Holds encN w blk off d0) (hs : d.size = d0.size) (hb : blk < w.heap.size) : Holds encN w' blk off d := by
  obtain ⟨m, os, rfl⟩ := h
  exact holds_grow _ _ _ _ _ _ (by rw [size_putRow]; exact hb) (holds_putRow encN _ blk off d0 d (holds_ahead _ _ m _ _ _ h0) hs)
theorem RowTo.trans {w w1 w2 : World} {blk off : Nat} {d1 d2 : Array Nat} (h1 : RowTo w w1 blk off d1) (h2 : RowTo w1 w2 blk off d2) (hs : d2.size = d1.size) (hb : blk < w.heap.size) : RowTo w w2 blk off d2 := by
  obtain ⟨m, os, rfl⟩ := h1
  obtain ⟨n, os', rfl⟩ := h2
  exact ⟨m + n, os ++ os', grow_step_grow encN w os os' m n blk off d1 d2 hb hs⟩
theorem RowTo.draws {w w1 : World} {blk off : Nat} {d : Array Nat} (h : RowTo w w1 blk off d) (n : Nat) : RowTo w (w1.drewN n) blk off d := by
  obtain ⟨m, os, rfl⟩ := h
  refine ⟨m + n, os, ?_⟩
  show Sort.ahead (grow (putRow encN (Sort.ahead w m) blk off d) os) n = _
  rw [ahead_grow, putRow_ahead, putRow_ahead, ahead_ahead]
theorem draws_put {w w1 : World} {blk off m : Nat} {d : Array Nat} (h : w1 = putRow encN (Sort.ahead w m) blk off d) (n : Nat) : w1.drewN n = putRow encN (Sort.ahead w (m + n)) blk off d := by
  rw [h]
  show Sort.ahead (putRow encN (Sort.ahead w m) blk off d) n = _
  rw [putRow_ahead, putRow_ahead, ahead_ahead]
/-- Two cells exchanged. -/
theorem swap_put {w w1 : World} {blk off m i j : Nat} {d : Array Nat} (h : w1 = putRow encN (Sort.ahead w m) blk off d) (n : Nat) (hi : i < d.size) (hj : j < d.size) :
    ((w1.drewN n).setCell ⟨blk, off + i, none⟩ (encN d[j]!)).setCell ⟨blk, off + j, none⟩ (encN d[i]!) = putRow encN (Sort.ahead w (m + n)) blk off (swp d i j) := by
  rw [draws_put h]
  exact putRow_swp encN _ blk off d i j hi hj
theorem put_cells {w w1 : World} {blk off m : Nat} {d0 d : Array Nat} (h0 : Holds encN w blk off d0) (h : w1 = putRow encN (Sort.ahead w m) blk off d) (hs : d.size = d0.size) : Holds encN w1 blk off d := by
  rw [h]; exact holds_putRow encN _ blk off d0 d (holds_ahead _ _ m _ _ _ h0) hs
/-- The row's cells under one name. -/
theorem row_fam {w : World} {blk off : Nat} {d : Array Nat} (h : Holds encN w blk off d) : ∃ G : Nat → Nat, Hid (∀ t, G t = d[t]!) ∧ (∀ t, t < d.size → w.cell? ⟨blk, off + t, none⟩ = some (.int .u64 (G t : Int))) ∧ ∀ t, t < d.size → w.frozen? ⟨blk, off + t, none⟩ = false :=
  ⟨fun t => d[t]!, fun _ => rfl, fun t ht => (h t ht).1, fun t ht => (h t ht).2⟩
set_option maxHeartbeats 1000000 in
theorem nanU_any (x : Nat) (w : World) : Calls Tryz.prog 188 #[.int .u64 (x : Int)] w fun e w' => e = .returned (.bool false) ∧ w' = w := by
  go_enter Tryz.func188, Tryz.ntmps188
  go_wp2_with fail
  go_ret
  exact ⟨by simp, rfl⟩
set_option maxHeartbeats 1000000 in
theorem lessU_any (x y : Nat) (w : World) : Calls Tryz.prog 162 #[.int .u64 (x : Int), .int .u64 (y : Int)] w fun e w' => e = .returned (.bool (ltN x y)) ∧ w' = w := by
  have H := Lib.hid (fun x w => nanU_any x w)
  go_enter Tryz.func162, Tryz.ntmps162
  go_wp2_with (go_at_call 188; refine (H.out _ _).mono ?_; rintro e w' ⟨rfl, rfl⟩)
  go_ret
  exact ⟨by simp [ltN], rfl⟩
theorem ins_go (a j : Nat) (d : Array Nat) (hj : a < j) (hl : ltN d[j]! d[j - 1]! = true) : insInner ltN a j d = insInner ltN a (j - 1) (swp d j (j - 1)) := by
  cases j with
  | zero => omega
  | succ k => rw [insInner]; simp only [Nat.add_sub_cancel] at hl ⊢; rw [hl]; simp [hj]
theorem ins_stop (a j : Nat) (d : Array Nat) (h : j ≤ a ∨ ltN d[j]! d[j - 1]! = false) : insInner ltN a j d = d := by
  cases j with
  | zero => rw [insInner]
  | succ k =>
    rw [insInner]
    simp only [Nat.add_sub_cancel] at h
    rcases h with h | h
    · simp [show ¬ k + 1 > a by omega]
    · simp [h]
theorem ins_outer {a b i : Nat} (d : Array Nat) (h : i < b) : insOuter ltN a b i d = insOuter ltN a b (i + 1) (insInner ltN a i d) := by rw [insOuter, if_pos h]
theorem ins_outer_end {a b i : Nat} (d : Array Nat) (h : ¬ i < b) : insOuter ltN a b i d = d := by rw [insOuter, if_neg h]
set_option maxRecDepth 100000 in
set_option maxHeartbeats 4000000 in
theorem insU_any (blk off cap a b : Nat) (d : Array Nat) (w : World) (hH : Holds encN w blk off d) (hab : a ≤ b) (hb : b ≤ d.size) (hsz : d.size < 4611686018427387904) :
    Calls Tryz.prog 156 #[.slice (some ⟨blk, off, none⟩) d.size cap, .int .i64 a, .int .i64 b] w fun e w' =>
      e = .returned (.tuple #[]) ∧ ∃ n, w' = putRow encN (Sort.ahead w n) blk off (Sort.insertionSort ltN d a b) := by
  have HH := Lib.hid hH
  have HS := Lib.hid (putRow_self encN w blk off d hH).symm
  have HL := Lib.hid (fun x y w => lessU_any x y w)
  clear hH
  go_enter Tryz.func156, Tryz.ntmps156
  go_wp2_with fail
  go_loopw [6] (fun vi wr => ∃ (i n : Nat) (dk : Array Nat), vi = .int .i64 i ∧ a < i ∧ i ≤ b + 1 ∧ Hid (dk.size = d.size) ∧ Hid (wr = putRow encN (Sort.ahead w n) blk off dk) ∧ Hid (insOuter ltN a b i dk = insOuter ltN a b (a + 1) d)) (fun vi _ => b + 1 - (intOf vi).toNat)
  case atStart => exact ⟨a + 1, 0, d, by go_num, by omega, by omega, rfl, HS.out, rfl⟩
  case round =>
    obtain ⟨i, n, dk, rfl, hai, hib, hsk, HW0, HO⟩ := hrel
    by_cases hlt : i < b
    · go_wp2_with fail
      go_loopw [7] (fun vj wr2 => ∃ (j m : Nat) (dj : Array Nat), vj = .int .i64 j ∧ a ≤ j ∧ j ≤ i ∧ Hid (dj.size = d.size) ∧ Hid (wr2 = putRow encN (Sort.ahead w m) blk off dj) ∧ Hid (insInner ltN a j dj = insInner ltN a i dk)) (fun vj _ => (intOf vj).toNat)
      case atStart => exact ⟨i, n, dk, rfl, by omega, Nat.le_refl _, hsk, HW0, rfl⟩
      case round =>
        obtain ⟨j, m, dj, rfl, haj, hji, hsj, HW, HI⟩ := hrel
        obtain ⟨G, HG, hcw0, hfw0⟩ := row_fam (put_cells HH.out HW.out hsj.out)
        have hcw : ∀ t, t < d.size → wr.cell? ⟨blk, off + t, none⟩ = some (.int .u64 (G t : Int)) := fun t ht => hcw0 t (by rw [hsj.out]; exact ht)
        have hfw : ∀ t, t < d.size → wr.frozen? ⟨blk, off + t, none⟩ = false := fun t ht => hfw0 t (by rw [hsj.out]; exact ht)
        clear hcw0 hfw0
        have OUT : Hid ((j ≤ a ∨ ltN (G j) (G (j - 1)) = false) → ∀ q, ∃ (i' n' : Nat) (dk' : Array Nat), Value.int .i64 ((i : Int) + 1) = .int .i64 (i' : Nat) ∧ a < i' ∧ i' ≤ b + 1 ∧ Hid (dk'.size = d.size) ∧
            Hid (wr.drewN q = putRow encN (Sort.ahead w n') blk off dk') ∧ Hid (insOuter ltN a b i' dk' = insOuter ltN a b (a + 1) d)) := fun hs q =>
          ⟨i + 1, m + q, dj, by go_num, by omega, by omega, hsj, draws_put HW.out q, by
            show _ = _
            rw [HG.out, HG.out] at hs
            rw [← HO.out, ins_outer dk hlt, ← HI.out, ins_stop _ _ _ hs]⟩
        by_cases hja : a < j
        · rcases Bool.eq_false_or_eq_true (ltN (G j) (G (j - 1))) with hl | hl
          · have HL1 := Lib.hid hl
            have HC : Hid (∀ W, Calls Tryz.prog 162 #[.int .u64 (G j : Int), .int .u64 (G (j - 1) : Int)] W fun e w' => e = .returned (.bool true) ∧ w' = W) := fun W => by rw [← hl]; exact HL.out _ _ W
            clear hl
            go_wp2_with fail
            go_quiet (first | (go_at_call 162; refine Calls.quiet_of_same (HC.out _)))
            go_wp2_with fail
            go_region
            all_goals go_wp2_with fail
            go_roundw
            case rel =>
              refine ⟨j - 1, m + (nq + 1), swp dj j (j - 1), by congr 1; omega, by omega, by omega, by show _ = _; rw [size_swp]; exact hsj.out, ?_, ?_⟩
              · show _ = _
                rw [HG.out, HG.out]
                exact swap_put (w1 := wr) HW.out (nq + 1) (i := j) (j := j - 1) (by rw [hsj.out]; omega) (by rw [hsj.out]; omega)
              · show _ = _
                rw [← HI.out, ins_go a j dj hja (by rw [← HG.out, ← HG.out]; exact HL1.out)]
            case measure => simp [intOf]; omega
          · have HL1 := Lib.hid hl
            have HC : Hid (∀ W, Calls Tryz.prog 162 #[.int .u64 (G j : Int), .int .u64 (G (j - 1) : Int)] W fun e w' => e = .returned (.bool false) ∧ w' = W) := fun W => by rw [← hl]; exact HL.out _ _ W
            clear hl
            go_wp2_with fail
            go_quiet (first | (go_at_call 162; refine Calls.quiet_of_same (HC.out _)))
            go_wp2_with fail
            go_roundw
            case rel => exact OUT.out (Or.inr HL1.out) nq
            case measure => simp [intOf]; omega
        · go_wp2_with fail
          go_quiet (fail)
          go_wp2_with fail
          go_roundw
          case rel => exact OUT.out (Or.inl (by omega)) nq
          case measure => simp [intOf]; omega
    · go_wp2_with fail
      go_end0
      exact ⟨rfl, n, by
        rw [HW0.out]
        congr 1
        unfold Sort.insertionSort; rw [← HO.out, ins_outer_end dk hlt]⟩
end Go.Proofs.YtfgkjofdgohacaaGreatDoor
namespace Go.Proofs.YtfgkjofdgohacaaGreatDoor
open Go Go.RowKit Go.Shelf Go.Sort
theorem sift_size (hi F : Nat) : ∀ (n root : Nat) (d : Array Nat), hi - root ≤ n → (siftDown ltN hi F root d).size = d.size := by
  intro n
  induction n with
  | zero =>
    intro root d h
    rw [siftDown, dif_pos (by omega)]
  | succ n ih =>
    intro root d h
    rw [siftDown]
    split
    · rfl
    · split
      · split
        · rfl
        · split
          · rw [ih _ _ (by omega), size_swp]
          · rfl
      · split
        · rfl
        · rw [ih _ _ (by omega), size_swp]
/-- The greater child. -/
def kidD (hi F root : Nat) (d : Array Nat) : Nat := if 2 * root + 2 < hi ∧ ltN d[F + (2 * root + 1)]! d[F + (2 * root + 2)]! = true then 2 * root + 2 else 2 * root + 1
theorem sift_eq {hi F root : Nat} (d : Array Nat) (h : 2 * root + 1 < hi) : siftDown ltN hi F root d = if ltN d[F + root]! d[F + kidD hi F root d]! = true then siftDown ltN hi F (kidD hi F root d) (swp d (F + root) (F + kidD hi F root d)) else d := by
  rw [siftDown, dif_neg (by omega)]
  unfold kidD
  by_cases c : 2 * root + 2 < hi ∧ ltN d[F + (2 * root + 1)]! d[F + (2 * root + 2)]! = true
  · rw [if_pos (show (decide (2 * root + 1 + 1 < hi) && ltN d[F + (2 * root + 1)]! d[F + (2 * root + 1) + 1]!) = true by
      rw [show F + (2 * root + 1) + 1 = F + (2 * root + 2) by omega, c.2]; simp; omega), if_pos c]
    cases q : ltN d[F + root]! d[F + (2 * root + 2)]! with
    | true => rw [if_neg (by simp), if_pos rfl, dif_pos c.1]
    | false => rw [if_pos (by simp), if_neg (by simp)]
  · rw [if_neg (show ¬ (decide (2 * root + 1 + 1 < hi) && ltN d[F + (2 * root + 1)]! d[F + (2 * root + 1) + 1]!) = true by
      rw [show F + (2 * root + 1) + 1 = F + (2 * root + 2) by omega]
      intro e
      rw [Bool.and_eq_true, decide_eq_true_eq] at e
      exact c ⟨by omega, e.2⟩), if_neg c]
    cases q : ltN d[F + root]! d[F + (2 * root + 1)]! with
    | true => rw [if_neg (by simp), if_pos rfl]
    | false => rw [if_pos (by simp), if_neg (by simp)]
set_option maxRecDepth 100000 in
set_option maxHeartbeats 4000000 in
theorem siftU_any (blk off len cap : Nat) (d : Array Nat) (hlen : d.size = len) (lo hi F : Nat) (w : World) (hH : Holds encN w blk off d) (hlo : lo ≤ hi) (hb : F + hi ≤ len) (hsz : len < 4611686018427387904) :
    Calls Tryz.prog 185 #[.slice (some ⟨blk, off, none⟩) len cap, .int .i64 lo, .int .i64 hi, .int .i64 F] w fun e w' =>
      e = .returned (.tuple #[]) ∧ ∃ n, w' = putRow encN (Sort.ahead w n) blk off (siftDown ltN hi F lo d) := by
  have HH := Lib.hid hH
  have HS := Lib.hid (putRow_self encN w blk off d hH).symm
  have HL := Lib.hid (fun x y w => lessU_any x y w)
  have HLN := Lib.hid hlen
  clear hH hlen
  go_enter Tryz.func185, Tryz.ntmps185
  go_wp2_with fail
  go_loopw [8, 9] (fun vi _ wr => ∃ (r n : Nat) (dk : Array Nat), vi = .int .i64 r ∧ r ≤ hi ∧ Hid (dk.size = len) ∧ Hid (wr = putRow encN (Sort.ahead w n) blk off dk) ∧ Hid (siftDown ltN hi F r dk = siftDown ltN hi F lo d)) (fun vi _ _ => hi - (intOf vi).toNat)
  case atStart => exact ⟨lo, 0, d, rfl, by omega, HLN, HS.out, rfl⟩
  case round =>
    obtain ⟨r, n, dk, rfl, hr, hsk, HW, HO⟩ := hrel
    obtain ⟨G, HG, hcw0, hfw0⟩ := row_fam (put_cells HH.out HW.out (by rw [hsk.out, HLN.out]))
    have hcw : ∀ t, t < len → wr.cell? ⟨blk, off + t, none⟩ = some (.int .u64 (G t : Int)) := fun t ht => hcw0 t (by rw [hsk.out]; exact ht)
    have hfw : ∀ t, t < len → wr.frozen? ⟨blk, off + t, none⟩ = false := fun t ht => hfw0 t (by rw [hsk.out]; exact ht)
    clear hcw0 hfw0
    by_cases h1 : 2 * r + 1 < hi
    · have HE := Lib.hid (sift_eq (F := F) dk h1)
      have HK : Hid (kidD hi F r dk = if 2 * r + 2 < hi ∧ ltN (G (F + (2 * r + 1))) (G (F + (2 * r + 2))) = true then 2 * r + 2 else 2 * r + 1) := by
        show _ = _
        rw [HG.out, HG.out]; rfl
      have hge : ¬ (hi : Int) ≤ 2 * r + 1 := by omega
      by_cases h2 : 2 * r + 2 < hi
      · have h2' : (2 * (r : Int) + 1 + 1) < hi := by omega
        rcases Bool.eq_false_or_eq_true (ltN (G (F + (2 * r + 1))) (G (F + (2 * r + 2)))) with hm | hm
        · have HM := Lib.hid hm
          have HC1 : Hid (∀ W, Calls Tryz.prog 162 #[.int .u64 (G (F + (2 * r + 1)) : Int), .int .u64 (G (F + (2 * r + 2)) : Int)] W fun e w' => e = .returned (.bool true) ∧ w' = W) := fun W => by rw [← hm]; exact HL.out _ _ W
          clear hm
          have HKC : Hid (kidD hi F r dk = 2 * r + 2) := by
            show _ = _
            rw [HK.out]; exact if_pos ⟨h2, HM.out⟩
          rcases Bool.eq_false_or_eq_true (ltN (G (F + r)) (G (F + (2 * r + 2)))) with hl | hl
          · have HL1 := Lib.hid hl
            have HC2 : Hid (∀ W, Calls Tryz.prog 162 #[.int .u64 (G (F + r) : Int), .int .u64 (G (F + (2 * r + 2)) : Int)] W fun e w' => e = .returned (.bool true) ∧ w' = W) := fun W => by rw [← hl]; exact HL.out _ _ W
            clear hl
            go_wp2_with fail
            go_quiet (first | (go_at_call 162; refine Calls.quiet_of_same (HC1.out _)))
            revert nq; intro nq1
            generalize hw2 : wr.drewN nq1 = wr2 at *
            have HW2 : Hid (wr2 = putRow encN (Sort.ahead w (n + nq1)) blk off dk) := by rw [← hw2]; exact draws_put HW.out nq1
            have hcw2 : ∀ t, t < len → wr2.cell? ⟨blk, off + t, none⟩ = some (.int .u64 (G t : Int)) := fun t ht => by rw [← hw2]; exact hcw t ht
            have hfw2 : ∀ t, t < len → wr2.frozen? ⟨blk, off + t, none⟩ = false := fun t ht => by rw [← hw2]; exact hfw t ht
            clear hw2 hcw hfw
            go_wp2_with fail
            go_quiet (first | (go_at_call 162; refine Calls.quiet_of_same (HC2.out _)))
            generalize hw3 : wr2.drewN nq = wr3 at *
            have HW3 : Hid (wr3 = putRow encN (Sort.ahead w (n + nq1 + nq)) blk off dk) := by rw [← hw3]; exact draws_put HW2.out nq
            have hcw3 : ∀ t, t < len → wr3.cell? ⟨blk, off + t, none⟩ = some (.int .u64 (G t : Int)) := fun t ht => by rw [← hw3]; exact hcw2 t ht
            have hfw3 : ∀ t, t < len → wr3.frozen? ⟨blk, off + t, none⟩ = false := fun t ht => by rw [← hw3]; exact hfw2 t ht
            clear hw3 hcw2 hfw2
            go_wp2_with fail
            go_region
            all_goals go_wp2_with fail
            go_roundw
            case rel =>
              refine ⟨2 * r + 2, n + nq1 + nq + 1, swp dk (F + r) (F + (2 * r + 2)), by go_num, by omega, by show _ = _; rw [size_swp]; exact hsk.out, ?_, ?_⟩
              · show _ = _
                rw [HG.out, HG.out]
                exact swap_put (w1 := wr3) HW3.out 1 (i := F + r) (j := F + (2 * r + 2)) (by rw [hsk.out]; omega) (by rw [hsk.out]; omega)
              · show _ = _
                rw [← HO.out, HE.out, HKC.out, ← HG.out, ← HG.out, if_pos HL1.out]
            case measure => simp [intOf]; omega
          · have HL1 := Lib.hid hl
            have HC2 : Hid (∀ W, Calls Tryz.prog 162 #[.int .u64 (G (F + r) : Int), .int .u64 (G (F + (2 * r + 2)) : Int)] W fun e w' => e = .returned (.bool false) ∧ w' = W) := fun W => by rw [← hl]; exact HL.out _ _ W
            clear hl
            go_wp2_with fail
            go_quiet (first | (go_at_call 162; refine Calls.quiet_of_same (HC1.out _)))
            revert nq; intro nq1
            generalize hw2 : wr.drewN nq1 = wr2 at *
            have HW2 : Hid (wr2 = putRow encN (Sort.ahead w (n + nq1)) blk off dk) := by rw [← hw2]; exact draws_put HW.out nq1
            have hcw2 : ∀ t, t < len → wr2.cell? ⟨blk, off + t, none⟩ = some (.int .u64 (G t : Int)) := fun t ht => by rw [← hw2]; exact hcw t ht
            clear hw2 hcw hfw
            go_wp2_with fail
            go_quiet (first | (go_at_call 162; refine Calls.quiet_of_same (HC2.out _)))
            go_wp2_with fail
            refine bodyPost_ret (results_none rfl _ _ _) rfl ?_
            exact ⟨rfl, n + nq1 + nq, by
              rw [draws_put HW2.out nq, ← HO.out, HE.out, HKC.out, ← HG.out, ← HG.out, if_neg (by rw [HL1.out]; simp)]⟩
        · have HM := Lib.hid hm
          have HC1 : Hid (∀ W, Calls Tryz.prog 162 #[.int .u64 (G (F + (2 * r + 1)) : Int), .int .u64 (G (F + (2 * r + 2)) : Int)] W fun e w' => e = .returned (.bool false) ∧ w' = W) := fun W => by rw [← hm]; exact HL.out _ _ W
          clear hm
          have HKC : Hid (kidD hi F r dk = 2 * r + 1) := by
            show _ = _
            rw [HK.out]; exact if_neg (fun h => by rw [HM.out] at h; exact absurd h.2 (by simp))
          rcases Bool.eq_false_or_eq_true (ltN (G (F + r)) (G (F + (2 * r + 1)))) with hl | hl
          · have HL1 := Lib.hid hl
            have HC2 : Hid (∀ W, Calls Tryz.prog 162 #[.int .u64 (G (F + r) : Int), .int .u64 (G (F + (2 * r + 1)) : Int)] W fun e w' => e = .returned (.bool true) ∧ w' = W) := fun W => by rw [← hl]; exact HL.out _ _ W
            clear hl
            go_wp2_with fail
            go_quiet (first | (go_at_call 162; refine Calls.quiet_of_same (HC1.out _)))
            revert nq; intro nq1
            generalize hw2 : wr.drewN nq1 = wr2 at *
            have HW2 : Hid (wr2 = putRow encN (Sort.ahead w (n + nq1)) blk off dk) := by rw [← hw2]; exact draws_put HW.out nq1
            have hcw2 : ∀ t, t < len → wr2.cell? ⟨blk, off + t, none⟩ = some (.int .u64 (G t : Int)) := fun t ht => by rw [← hw2]; exact hcw t ht
            have hfw2 : ∀ t, t < len → wr2.frozen? ⟨blk, off + t, none⟩ = false := fun t ht => by rw [← hw2]; exact hfw t ht
            clear hw2 hcw hfw
            go_wp2_with fail
            go_quiet (first | (go_at_call 162; refine Calls.quiet_of_same (HC2.out _)))
            generalize hw3 : wr2.drewN nq = wr3 at *
            have HW3 : Hid (wr3 = putRow encN (Sort.ahead w (n + nq1 + nq)) blk off dk) := by rw [← hw3]; exact draws_put HW2.out nq
            have hcw3 : ∀ t, t < len → wr3.cell? ⟨blk, off + t, none⟩ = some (.int .u64 (G t : Int)) := fun t ht => by rw [← hw3]; exact hcw2 t ht
            have hfw3 : ∀ t, t < len → wr3.frozen? ⟨blk, off + t, none⟩ = false := fun t ht => by rw [← hw3]; exact hfw2 t ht
            clear hw3 hcw2 hfw2
            go_wp2_with fail
            go_region
            all_goals go_wp2_with fail
            go_roundw
            case rel =>
              refine ⟨2 * r + 1, n + nq1 + nq + 1, swp dk (F + r) (F + (2 * r + 1)), by go_num, by omega, by show _ = _; rw [size_swp]; exact hsk.out, ?_, ?_⟩
              · show _ = _
                rw [HG.out, HG.out]
                exact swap_put (w1 := wr3) HW3.out 1 (i := F + r) (j := F + (2 * r + 1)) (by rw [hsk.out]; omega) (by rw [hsk.out]; omega)
              · show _ = _
                rw [← HO.out, HE.out, HKC.out, ← HG.out, ← HG.out, if_pos HL1.out]
            case measure => simp [intOf]; omega
          · have HL1 := Lib.hid hl
            have HC2 : Hid (∀ W, Calls Tryz.prog 162 #[.int .u64 (G (F + r) : Int), .int .u64 (G (F + (2 * r + 1)) : Int)] W fun e w' => e = .returned (.bool false) ∧ w' = W) := fun W => by rw [← hl]; exact HL.out _ _ W
            clear hl
            go_wp2_with fail
            go_quiet (first | (go_at_call 162; refine Calls.quiet_of_same (HC1.out _)))
            revert nq; intro nq1
            generalize hw2 : wr.drewN nq1 = wr2 at *
            have HW2 : Hid (wr2 = putRow encN (Sort.ahead w (n + nq1)) blk off dk) := by rw [← hw2]; exact draws_put HW.out nq1
            have hcw2 : ∀ t, t < len → wr2.cell? ⟨blk, off + t, none⟩ = some (.int .u64 (G t : Int)) := fun t ht => by rw [← hw2]; exact hcw t ht
            clear hw2 hcw hfw
            go_wp2_with fail
            go_quiet (first | (go_at_call 162; refine Calls.quiet_of_same (HC2.out _)))
            go_wp2_with fail
            refine bodyPost_ret (results_none rfl _ _ _) rfl ?_
            exact ⟨rfl, n + nq1 + nq, by
              rw [draws_put HW2.out nq, ← HO.out, HE.out, HKC.out, ← HG.out, ← HG.out, if_neg (by rw [HL1.out]; simp)]⟩
      · have h2' : ¬ (2 * (r : Int) + 1 + 1) < hi := by omega
        have h2d : decide (2 * (r : Int) + 1 + 1 < (hi : Int)) = false := by simp; omega
        have HKC : Hid (kidD hi F r dk = 2 * r + 1) := by
          show _ = _
          rw [HK.out]; exact if_neg (fun h => h2 h.1)
        rcases Bool.eq_false_or_eq_true (ltN (G (F + r)) (G (F + (2 * r + 1)))) with hl | hl
        · have HL1 := Lib.hid hl
          have HC2 : Hid (∀ W, Calls Tryz.prog 162 #[.int .u64 (G (F + r) : Int), .int .u64 (G (F + (2 * r + 1)) : Int)] W fun e w' => e = .returned (.bool true) ∧ w' = W) := fun W => by rw [← hl]; exact HL.out _ _ W
          clear hl
          go_wp2_with fail
          go_quiet (fail)
          revert nq; intro nq1
          generalize hw2 : wr.drewN nq1 = wr2 at *
          have HW2 : Hid (wr2 = putRow encN (Sort.ahead w (n + nq1)) blk off dk) := by rw [← hw2]; exact draws_put HW.out nq1
          have hcw2 : ∀ t, t < len → wr2.cell? ⟨blk, off + t, none⟩ = some (.int .u64 (G t : Int)) := fun t ht => by rw [← hw2]; exact hcw t ht
          have hfw2 : ∀ t, t < len → wr2.frozen? ⟨blk, off + t, none⟩ = false := fun t ht => by rw [← hw2]; exact hfw t ht
          clear hw2 hcw hfw
          go_wp2_with fail
          go_quiet (first | (go_at_call 162; refine Calls.quiet_of_same (HC2.out _)))
          generalize hw3 : wr2.drewN nq = wr3 at *
          have HW3 : Hid (wr3 = putRow encN (Sort.ahead w (n + nq1 + nq)) blk off dk) := by rw [← hw3]; exact draws_put HW2.out nq
          have hcw3 : ∀ t, t < len → wr3.cell? ⟨blk, off + t, none⟩ = some (.int .u64 (G t : Int)) := fun t ht => by rw [← hw3]; exact hcw2 t ht
          have hfw3 : ∀ t, t < len → wr3.frozen? ⟨blk, off + t, none⟩ = false := fun t ht => by rw [← hw3]; exact hfw2 t ht
          clear hw3 hcw2 hfw2
          go_wp2_with fail
          go_region
          all_goals go_wp2_with fail
          go_roundw
          case rel =>
            refine ⟨2 * r + 1, n + nq1 + nq + 1, swp dk (F + r) (F + (2 * r + 1)), by go_num, by omega, by show _ = _; rw [size_swp]; exact hsk.out, ?_, ?_⟩
            · show _ = _
              rw [HG.out, HG.out]
              exact swap_put (w1 := wr3) HW3.out 1 (i := F + r) (j := F + (2 * r + 1)) (by rw [hsk.out]; omega) (by rw [hsk.out]; omega)
            · show _ = _
              rw [← HO.out, HE.out, HKC.out, ← HG.out, ← HG.out, if_pos HL1.out]
          case measure => simp [intOf]; omega
        · have HL1 := Lib.hid hl
          have HC2 : Hid (∀ W, Calls Tryz.prog 162 #[.int .u64 (G (F + r) : Int), .int .u64 (G (F + (2 * r + 1)) : Int)] W fun e w' => e = .returned (.bool false) ∧ w' = W) := fun W => by rw [← hl]; exact HL.out _ _ W
          clear hl
          go_wp2_with fail
          go_quiet (fail)
          revert nq; intro nq1
          generalize hw2 : wr.drewN nq1 = wr2 at *
          have HW2 : Hid (wr2 = putRow encN (Sort.ahead w (n + nq1)) blk off dk) := by rw [← hw2]; exact draws_put HW.out nq1
          have hcw2 : ∀ t, t < len → wr2.cell? ⟨blk, off + t, none⟩ = some (.int .u64 (G t : Int)) := fun t ht => by rw [← hw2]; exact hcw t ht
          clear hw2 hcw hfw
          go_wp2_with fail
          go_quiet (first | (go_at_call 162; refine Calls.quiet_of_same (HC2.out _)))
          go_wp2_with fail
          refine bodyPost_ret (results_none rfl _ _ _) rfl ?_
          exact ⟨rfl, n + nq1 + nq, by
            rw [draws_put HW2.out nq, ← HO.out, HE.out, HKC.out, ← HG.out, ← HG.out, if_neg (by rw [HL1.out]; simp)]⟩
    · have hge : (hi : Int) ≤ 2 * r + 1 := by omega
      have HE : Hid (siftDown ltN hi F r dk = dk) := by
        show _ = _
        rw [siftDown, dif_pos (by omega)]
      go_wp2_with fail
      go_end0
      exact ⟨rfl, n, by rw [HW.out, ← HO.out, HE.out]⟩
end Go.Proofs.YtfgkjofdgohacaaGreatDoor
namespace Go.Proofs.YtfgkjofdgohacaaGreatDoor
open Go Go.RowKit Go.Shelf Go.Sort
theorem half_st {a b : Nat} (hab : a ≤ b) : ((b : Int) - (a : Int) - 1).tdiv 2 = (((b - a - 1) / 2 + 1 : Nat) : Int) - 1 := by
  by_cases h : a < b
  · have e : (b : Int) - (a : Int) - 1 = ((b - a - 1 : Nat) : Int) := by omega
    rw [e, show ((b - a - 1 : Nat) : Int).tdiv 2 = (((b - a - 1) / 2 : Nat) : Int) from rfl]
    omega
  · obtain rfl : a = b := by omega
    simp
theorem build_size (hi F : Nat) : ∀ (k : Nat) (d : Array Nat), (heapBuild ltN hi F k d).size = d.size := by
  intro k
  induction k with
  | zero => intro d; rfl
  | succ k ih => intro d; rw [heapBuild, ih, sift_size _ _ _ _ _ (Nat.le_refl _)]
set_option maxRecDepth 100000 in
set_option maxHeartbeats 4000000 in
theorem heapU_any (blk off len cap a b : Nat) (d : Array Nat) (hlen : d.size = len) (w : World) (hH : Holds encN w blk off d) (hab : a ≤ b) (hb : b ≤ len) (hsz : len < 4611686018427387904) :
    Calls Tryz.prog 157 #[.slice (some ⟨blk, off, none⟩) len cap, .int .i64 a, .int .i64 b] w fun e w' =>
      e = .returned (.tuple #[]) ∧ ∃ n, w' = putRow encN (Sort.ahead w n) blk off (heapSort ltN d a b) := by
  have HH := Lib.hid hH
  have HS := Lib.hid (putRow_self encN w blk off d hH).symm
  have HLN := Lib.hid hlen
  have HHALF := Lib.hid (half_st hab)
  have HSD := Lib.hid (fun d' hl' lo hi F w' hH' hlo hb' => siftU_any blk off len cap d' hl' lo hi F w' hH' hlo hb' hsz)
  have ecast : (b : Int) - (a : Int) = ((b - a : Nat) : Int) := by omega
  have hba : b - a ≤ len := by omega
  have hab2 : a + (b - a) ≤ len := by omega
  rw [ecast] at HHALF
  clear hH hlen
  obtain ⟨H, hHd⟩ : ∃ H, H = b - a := ⟨_, rfl⟩
  have HHd := Lib.hid hHd
  rw [← hHd] at HHALF ecast hba hab2
  clear hHd
  obtain ⟨q, hq⟩ : ∃ q, q = (H - 1) / 2 + 1 := ⟨_, rfl⟩
  have hqb : q ≤ H + 1 := by omega
  rw [← hq] at HHALF
  have HQ := Lib.hid hq
  clear hq
  have hhalf := HHALF.out
  go_enter Tryz.func157, Tryz.ntmps157
  go_wp2_with fail
  go_loopw [9] (fun x wr => ∃ (k n : Nat) (dk : Array Nat), x = .int .i64 ((k : Int) - 1) ∧ k ≤ q ∧ Hid (dk.size = len) ∧ Hid (wr = putRow encN (Sort.ahead w n) blk off dk) ∧ Hid (heapBuild ltN H a k dk = heapBuild ltN H a q d)) (fun x _ => (intOf x + 1).toNat)
  case atStart => exact ⟨q, 0, d, rfl, Nat.le_refl _, HLN, HS.out, rfl⟩
  case round =>
    obtain ⟨k, n, dk, rfl, hk, hsk, HW, HO⟩ := hrel
    clear hhalf
    cases k with
    | zero =>
      have HB : Hid (heapBuild ltN H a q d = dk) := HO.out.symm
      clear HO
      have d0 : ¬ ((0 : Int) ≤ ((0 : Nat) : Int) - 1) := by omega
      go_wp2_with fail
      go_loopw [10] (fun x wr => ∃ (k n : Nat) (dj : Array Nat), x = .int .i64 ((k : Int) - 1) ∧ k ≤ H ∧ Hid (dj.size = len) ∧ Hid (wr = putRow encN (Sort.ahead w n) blk off dj) ∧ Hid (heapPop ltN a k dj = heapPop ltN a H dk)) (fun x _ => (intOf x + 1).toNat)
      case atStart => exact ⟨H, n, dk, rfl, Nat.le_refl _, hsk, HW, rfl⟩
      case round =>
        obtain ⟨k, m, dj, rfl, hk2, hsj, HW2, HO2⟩ := hrel
        cases k with
        | zero =>
          have d1 : ¬ ((0 : Int) ≤ ((0 : Nat) : Int) - 1) := by omega
          go_wp2_with fail
          go_end0
          refine ⟨rfl, m, ?_⟩
          rw [HW2.out]
          congr 1
          have e1 : dj = heapPop ltN a H dk := HO2.out
          rw [e1, ← HB.out, HQ.out]
          unfold heapSort
          rw [HHd.out]
        | succ k =>
          have d1 : (0 : Int) ≤ ((k + 1 : Nat) : Int) - 1 := by omega
          have ek : ((k + 1 : Nat) : Int) - 1 = (k : Int) := by omega
          rw [ek] at d1 ⊢
          obtain ⟨G, HG, hcw0, hfw0⟩ := row_fam (put_cells HH.out HW2.out (by rw [hsj.out, HLN.out]))
          have hcw : ∀ t, t < len → wr.cell? ⟨blk, off + t, none⟩ = some (.int .u64 (G t : Int)) := fun t ht => hcw0 t (by rw [hsj.out]; exact ht)
          have hfw : ∀ t, t < len → wr.frozen? ⟨blk, off + t, none⟩ = false := fun t ht => hfw0 t (by rw [hsj.out]; exact ht)
          clear hcw0 hfw0
          rcases Nat.eq_zero_or_pos k with hk0 | hkp
          · subst hk0
            rw [show ((0 : Nat) : Int) = 0 from rfl] at d1 ⊢
            go_wp2_with fail
            go_region
            all_goals go_wp2_with fail
            have HW3 : Hid (((wr.setCell ⟨blk, off + a, none⟩ (.int .u64 (G (a) : Int))).setCell ⟨blk, off + (a), none⟩ (.int .u64 (G a : Int))).drew = putRow encN (Sort.ahead w (m + 1)) blk off (swp dj a (a))) := by
              show _ = _
              simp only [HG.out]
              exact swap_put (w1 := wr) HW2.out 1 (i := a) (j := a) (by rw [hsj.out]; omega) (by rw [hsj.out]; omega)
            generalize hw3 : ((wr.setCell ⟨blk, off + a, none⟩ (.int .u64 (G (a) : Int))).setCell ⟨blk, off + (a), none⟩ (.int .u64 (G a : Int))).drew = w3 at *
            have hC0 := HSD.out (swp dj a (a)) (by rw [size_swp]; exact hsj.out) 0 0 a w3 (put_cells HH.out HW3.out (by rw [size_swp, hsj.out, HLN.out])) (Nat.zero_le _) (by omega)
            rw [show ((0 : Nat) : Int) = 0 from rfl] at hC0
            have HC := Lib.hid hC0
            clear hC0 hw3 hcw hfw
            go_wp2_with (go_at_call 185; refine HC.out.mono ?_; rintro e w1 ⟨rfl, p, hw1⟩; have HX1 := Lib.hid hw1; clear hw1)
            have HW1 : Hid (w1 = putRow encN (Sort.ahead w (m + 1 + p)) blk off (siftDown ltN 0 a 0 (swp dj a (a)))) := by
              show _ = _
              rw [HX1.out, HW3.out, putRow_ahead_putRow encN w (m + 1) p blk off _ _ (sift_size _ _ _ _ _ (Nat.le_refl _))]
            go_roundw
            case rel => exact ⟨0, m + 1 + p, siftDown ltN 0 a 0 (swp dj a (a)), by go_num, by omega, by show _ = _; rw [sift_size _ _ _ _ _ (Nat.le_refl _), size_swp]; exact hsj.out, HW1, HO2⟩
            case measure => simp [intOf]
          ·
            go_wp2_with fail
            go_region
            all_goals go_wp2_with fail
            have HW3 : Hid (((wr.setCell ⟨blk, off + a, none⟩ (.int .u64 (G (a + k) : Int))).setCell ⟨blk, off + (a + k), none⟩ (.int .u64 (G a : Int))).drew = putRow encN (Sort.ahead w (m + 1)) blk off (swp dj a (a + k))) := by
              show _ = _
              simp only [HG.out]
              exact swap_put (w1 := wr) HW2.out 1 (i := a) (j := a + k) (by rw [hsj.out]; omega) (by rw [hsj.out]; omega)
            generalize hw3 : ((wr.setCell ⟨blk, off + a, none⟩ (.int .u64 (G (a + k) : Int))).setCell ⟨blk, off + (a + k), none⟩ (.int .u64 (G a : Int))).drew = w3 at *
            have hC0 := HSD.out (swp dj a (a + k)) (by rw [size_swp]; exact hsj.out) 0 k a w3 (put_cells HH.out HW3.out (by rw [size_swp, hsj.out, HLN.out])) (Nat.zero_le _) (by omega)
            rw [show ((0 : Nat) : Int) = 0 from rfl] at hC0
            have HC := Lib.hid hC0
            clear hC0 hw3 hcw hfw
            go_wp2_with (go_at_call 185; refine HC.out.mono ?_; rintro e w1 ⟨rfl, p, hw1⟩; have HX1 := Lib.hid hw1; clear hw1)
            have HW1 : Hid (w1 = putRow encN (Sort.ahead w (m + 1 + p)) blk off (siftDown ltN k a 0 (swp dj a (a + k)))) := by
              show _ = _
              rw [HX1.out, HW3.out, putRow_ahead_putRow encN w (m + 1) p blk off _ _ (sift_size _ _ _ _ _ (Nat.le_refl _))]
            go_roundw
            case rel => exact ⟨k, m + 1 + p, siftDown ltN k a 0 (swp dj a (a + k)), by go_num, by omega, by show _ = _; rw [sift_size _ _ _ _ _ (Nat.le_refl _), size_swp]; exact hsj.out, HW1, HO2⟩
            case measure => simp [intOf]
    | succ k =>
      have d1 : (0 : Int) ≤ ((k + 1 : Nat) : Int) - 1 := by omega
      have ek : ((k + 1 : Nat) : Int) - 1 = (k : Int) := by omega
      rw [ek] at d1 ⊢
      have HC := Lib.hid (HSD.out dk hsk.out k H a wr (put_cells HH.out HW.out (by rw [hsk.out, HLN.out])) (by omega) hab2)
      go_wp2_with (go_at_call 185; refine HC.out.mono ?_; rintro e w1 ⟨rfl, m, hw1⟩; have HX1 := Lib.hid hw1; clear hw1)
      have HW1 : Hid (w1 = putRow encN (Sort.ahead w (n + m)) blk off (siftDown ltN H a k dk)) := by
        show _ = _
        rw [HX1.out, HW.out, putRow_ahead_putRow encN w n m blk off dk _ (sift_size _ _ _ _ _ (Nat.le_refl _))]
      go_roundw
      case rel => exact ⟨k, n + m, siftDown ltN H a k dk, by go_num, by omega, by show _ = _; rw [sift_size _ _ _ _ _ (Nat.le_refl _)]; exact hsk.out, HW1, HO⟩
      case measure => simp [intOf]
end Go.Proofs.YtfgkjofdgohacaaGreatDoor
namespace Go.Proofs.YtfgkjofdgohacaaGreatDoor
open Go Go.RowKit Go.Shelf Go.Sort
set_option maxRecDepth 100000 in
set_option maxHeartbeats 4000000 in
theorem revU_any (blk off len cap a b : Nat) (d : Array Nat) (hlen : d.size = len) (w : World) (hH : Holds encN w blk off d) (hab : a < b) (hb : b ≤ len) (hsz : len < 4611686018427387904) :
    Calls Tryz.prog 160 #[.slice (some ⟨blk, off, none⟩) len cap, .int .i64 a, .int .i64 b] w fun e w' =>
      e = .returned (.tuple #[]) ∧ ∃ n d', PermIn a b d d' ∧ w' = putRow encN (Sort.ahead w n) blk off d' := by
  have HH := Lib.hid hH
  have HS := Lib.hid (putRow_self encN w blk off d hH).symm
  have HLN := Lib.hid hlen
  clear hH hlen
  go_enter Tryz.func160, Tryz.ntmps160
  go_wp2_with fail
  go_loopw [6, 7] (fun x y wr => ∃ (i j n : Nat) (dk : Array Nat), x = .int .i64 i ∧ y = .int .i64 j ∧ a ≤ i ∧ j < b ∧ i ≤ j + 1 ∧ Hid (PermIn a b d dk) ∧ Hid (wr = putRow encN (Sort.ahead w n) blk off dk)) (fun x y _ => (intOf y - intOf x + 1).toNat)
  case atStart => exact ⟨a, b - 1, 0, d, rfl, by go_num, Nat.le_refl _, by omega, by omega, permIn_refl _ _ _, HS.out⟩
  case round =>
    obtain ⟨i, j, n, dk, rfl, rfl, hai, hjb, hij, hP, HW⟩ := hrel
    have hsk : Hid (dk.size = len) := by show _ = _; rw [hP.out.1, HLN.out]
    by_cases hlt : i < j
    · obtain ⟨G, HG, hcw0, hfw0⟩ := row_fam (put_cells HH.out HW.out (by rw [hsk.out, HLN.out]))
      have hcw : ∀ t, t < len → wr.cell? ⟨blk, off + t, none⟩ = some (.int .u64 (G t : Int)) := fun t ht => hcw0 t (by rw [hsk.out]; exact ht)
      have hfw : ∀ t, t < len → wr.frozen? ⟨blk, off + t, none⟩ = false := fun t ht => hfw0 t (by rw [hsk.out]; exact ht)
      clear hcw0 hfw0
      go_wp2_with fail
      go_region
      all_goals go_wp2_with fail
      have HW3 : Hid (((wr.setCell ⟨blk, off + i, none⟩ (.int .u64 (G j : Int))).setCell ⟨blk, off + j, none⟩ (.int .u64 (G i : Int))).drew = putRow encN (Sort.ahead w (n + 1)) blk off (swp dk i j)) := by
        show _ = _
        simp only [HG.out]
        exact swap_put (w1 := wr) HW.out 1 (i := i) (j := j) (by rw [hsk.out]; omega) (by rw [hsk.out]; omega)
      go_roundw
      case rel => exact ⟨i + 1, j - 1, n + 1, swp dk i j, by go_num, by congr 1; omega, by omega, by omega, by omega, permIn_trans _ _ _ _ _ hP.out (swp_permIn dk a b i j (by omega) (by omega) (by omega) (by omega) (by rw [hsk.out]; omega)), HW3⟩
      case measure => simp [intOf]; omega
    · go_wp2_with fail
      go_end0
      exact ⟨rfl, n, dk, hP.out, HW.out⟩
end Go.Proofs.YtfgkjofdgohacaaGreatDoor
