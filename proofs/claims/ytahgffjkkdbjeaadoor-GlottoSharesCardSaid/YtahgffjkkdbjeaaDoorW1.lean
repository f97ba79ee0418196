/- The greatest common divisor, fractions in lowest terms; slices.ContainsFunc with the closures of glotto. -/
import Derived.Test.YtahgffjkkdbjeaaDoorP0
import Derived.Test.YtahgffjkkdbjeaaDoorRows
import Derived.Deep.QuietTactic
import Derived.BigQuiet
namespace Go.Proofs.YtahgffjkkdbjeaaDoor
open Go.RowKit

theorem gcd_step (a b : Nat) : Nat.gcd b (a % b) = Nat.gcd a b := by
  rw [Nat.gcd_comm a b, Nat.gcd_rec b a, Nat.gcd_comm]
theorem div_bd (a b : Nat) (hb : a ≤ 9223372036854775807) : wrap64 ((a : Int) / (b : Int)) = ((a / b : Nat) : Int) := by
  have : a / b ≤ a := Nat.div_le_self _ _
  have e : (a : Int) / (b : Int) = ((a / b : Nat) : Int) := by rw [Int.natCast_ediv]
  rw [e]
  generalize a / b = q at *
  exact IntWalk.wrap64_in _ ⟨by omega, by omega⟩

set_option maxHeartbeats 400000 in
theorem div_any (a b : Nat) (w : World) (ha : a ≤ 9223372036854775807) (hb : b ≤ 9223372036854775807) :
    Calls Tryd.prog 86 #[.int .i64 a, .int .i64 b] w fun e w' => e = .returned (.int .i64 (Nat.gcd a b)) ∧ ∃ n, w' = w.drewN n := by
  go_enter Tryd.func86, Tryd.ntmps86
  go_wp2
  go_loopw [0, 1] (fun x y wr => ∃ p q : Nat, p ≤ 9223372036854775807 ∧ q ≤ 9223372036854775807 ∧ x = .int .i64 p ∧ y = .int .i64 q ∧ Nat.gcd p q = Nat.gcd a b ∧ ∃ n, wr = w.drewN n) (fun _ y _ => (intOf y).toNat)
  case atStart => exact ⟨a, b, ha, hb, rfl, rfl, rfl, 0, rfl⟩
  case round =>
    obtain ⟨p, q, hp, hq, rfl, rfl, hg, n, rfl⟩ := hrel
    have Hg := Lib.hid hg; clear hg
    by_cases h0 : q = 0
    · subst h0
      go_wp2
      go_ret
      have := Hg.out
      exact ⟨by rw [← this]; simp, n, rfl⟩
    · go_wp2
      go_quiet (fail)
      go_wp2
      have hlt : p % q < q := Nat.mod_lt _ (by omega)
      go_roundw
      case rel => exact ⟨q, p % q, hq, by omega, rfl, by go_num, by rw [gcd_step]; exact Hg.out, n + nq, by simp⟩
      case measure => simp only [intOf]; rw [← Int.natCast_emod]; omega

set_option maxHeartbeats 400000 in
theorem rdiv_any (a b : Nat) (w : World) (ha : a ≤ 9223372036854775807) (hb : b ≤ 9223372036854775807) :
    Calls Tryd.prog 87 #[.int .i64 a, .int .i64 b] w fun e w' => e = .returned (.int .i64 (Nat.gcd a b)) ∧ ∃ n, w' = w.drewN n := by
  go_enter Tryd.func87, Tryd.ntmps87
  go_wp2
  go_loopw [0, 1, 5] (fun x y _ wr => ∃ p q : Nat, p ≤ 9223372036854775807 ∧ q ≤ 9223372036854775807 ∧ x = .int .i64 p ∧ y = .int .i64 q ∧ Nat.gcd p q = Nat.gcd a b ∧ ∃ n, wr = w.drewN n) (fun _ y _ _ => (intOf y).toNat)
  case atStart => exact ⟨a, b, ha, hb, rfl, rfl, rfl, 0, rfl⟩
  case round =>
    obtain ⟨p, q, hp, hq, rfl, rfl, hg, n, rfl⟩ := hrel
    have Hg := Lib.hid hg; clear hg
    by_cases h0 : q = 0
    · subst h0
      go_wp2
      go_ret
      have := Hg.out
      exact ⟨by rw [← this]; simp, n, rfl⟩
    · go_wp2
      skip
      skip
      have hlt : p % q < q := Nat.mod_lt _ (by omega)
      go_roundw
      case rel => exact ⟨q, p % q, hq, by omega, rfl, by go_num, by rw [gcd_step]; exact Hg.out, n, rfl⟩
      case measure => simp only [intOf]; rw [← Int.natCast_emod]; omega

set_option maxHeartbeats 400000 in
theorem low_any (a b : Nat) (w : World) (ha : a ≤ 9223372036854775807) (hb : b ≤ 9223372036854775807) (h0 : 0 < b) :
    Calls Tryd.prog 57 #[.int .i64 a, .int .i64 b] w fun e w' => e = .returned (.agg #[.int .i64 (a / Nat.gcd a b : Nat), .int .i64 (b / Nat.gcd a b : Nat)]) ∧ Below w.heap.size w w' := by
  have hg : 0 < Nat.gcd a b := Nat.gcd_pos_of_pos_right _ h0
  have hg2 : Nat.gcd a b ≤ b := Nat.gcd_le_right _ h0
  go_enter Tryd.func57, Tryd.ntmps57
  go_wp2_with fail
  refine (div_any a b _ ha hb).mono ?_
  rintro e w' ⟨rfl, n, rfl⟩
  go_wp2_with fail
  go_region
  go_wp2
  refine bodyPost_ret (v := .agg #[.int .i64 (a / Nat.gcd a b : Nat), .int .i64 (b / Nat.gcd a b : Nat)]) ?_ rfl ?_
  · simp [results, Tryd.results57, go_sem, div_bd, ha, hb]
  · exact ⟨rfl, bl_set (bl_set (bl_drewN (bl_alloc (Below.refl _ _) _) _) _ _ _ _ (Nat.le_refl _)) _ _ _ _ (Nat.le_refl _)⟩

set_option maxHeartbeats 400000 in
theorem rlow_any (a b : Nat) (w : World) (ha : a ≤ 9223372036854775807) (hb : b ≤ 9223372036854775807) (h0 : 0 < b) :
    Calls Tryd.prog 65 #[.int .i64 a, .int .i64 b] w fun e w' => e = .returned (.agg #[.int .i64 (a / Nat.gcd a b : Nat), .int .i64 (b / Nat.gcd a b : Nat)]) ∧ Below w.heap.size w w' := by
  have hg : 0 < Nat.gcd a b := Nat.gcd_pos_of_pos_right _ h0
  have hg2 : Nat.gcd a b ≤ b := Nat.gcd_le_right _ h0
  go_enter Tryd.func65, Tryd.ntmps65
  go_wp2_with fail
  refine (rdiv_any a b _ ha hb).mono ?_
  rintro e w' ⟨rfl, n, rfl⟩
  go_wp2_with fail
  go_region
  go_wp2
  refine bodyPost_ret (v := .agg #[.int .i64 (a / Nat.gcd a b : Nat), .int .i64 (b / Nat.gcd a b : Nat)]) ?_ rfl ?_
  · simp [results, Tryd.results65, go_sem, div_bd, ha, hb]
  · exact ⟨rfl, bl_set (bl_set (bl_drewN (bl_alloc (Below.refl _ _) _) _) _ _ _ _ (Nat.le_refl _)) _ _ _ _ (Nat.le_refl _)⟩

set_option maxHeartbeats 400000 in
theorem bad_cl (x : Fr) (w : World) : Calls Tryd.prog 85 #[.agg #[.int .i64 x.1, .int .i64 x.2]] w fun e w' => e = .returned (.bool (badFr x)) ∧ Below w.heap.size w w' := by
  by_cases h : x.2 < 1
  · go_enter Tryd.func85, Tryd.ntmps85
    go_wp2
    go_ret
    exact ⟨ret_b (by simp [badFr, h]), bl_alloc (Below.refl _ _) _⟩
  · have h2 : decide (x.2 < 1) = false := by simpa using h
    go_enter Tryd.func85, Tryd.ntmps85
    go_wp2
    go_ret
    exact ⟨ret_b (by simp [badFr, h2]), bl_alloc (Below.refl _ _) _⟩
set_option maxHeartbeats 400000 in
theorem long_cl (a : Option Addr) (n c : Nat) (w : World) (h : n ≤ 1152921504606846976) : Calls Tryd.prog 60 #[.slice a n c] w fun e w' => e = .returned (.bool (decide (24 < n))) ∧ Below w.heap.size w w' := by
  by_cases h : 24 < n
  · go_enter Tryd.func60, Tryd.ntmps60
    go_wp2
    go_ret
    exact ⟨ret_b (by simp; omega), Below.refl _ _⟩
  · go_enter Tryd.func60, Tryd.ntmps60
    go_wp2
    go_ret
    exact ⟨ret_b (by simp; omega), Below.refl _ _⟩
def under (x : Int) : Bool := decide (x < -1)
set_option maxHeartbeats 400000 in
theorem under_cl (x : Int) (w : World) : Calls Tryd.prog 62 #[.int .i64 x] w fun e w' => e = .returned (.bool (under x)) ∧ Below w.heap.size w w' := by
  go_enter Tryd.func62, Tryd.ntmps62
  go_wp2
  go_ret
  exact ⟨ret_b (by simp [under]), Below.refl _ _⟩

theorem anyBad_at (l : List Fr) (k : Nat) (h : k < l.length) : l[k] = (fN l k, fD l k) := by simp [fN, fD, h]
set_option maxHeartbeats 400000 in
theorem anyBad_idx (a : Option Addr) (n c : Nat) (l : List Fr) (w : World) (hn : l.length = n) (hm : n ≤ 1152921504606846976) (hA : Rd w a (fl encFr l)) :
    Calls Tryd.prog 99 #[.slice a n c, .func (.func 85) #[] #[]] w fun e w' => e = .returned (.int .i64 (idxF badFr l)) ∧ Below w.heap.size w w' := by
  have HN := Lib.hid hn; clear hn
  go_enter Tryd.func99, Tryd.ntmps99
  go_wp2
  go_loopw [8, 5] (fun x _ wr => ∃ k : Nat, k ≤ n ∧ x = .int .i64 k ∧ NoneBefore badFr l k ∧ Below w.heap.size w wr) (fun x _ _ => n - (intOf x).toNat)
  case atStart => exact ⟨0, by omega, rfl, NoneBefore.zero _ _, Below.refl _ _⟩
  case round =>
    obtain ⟨k, hk, rfl, hnb, hbl⟩ := hrel
    by_cases hlt : k < n
    · obtain ⟨b, o, rfl, _, hc⟩ := rdFr (hA.bl hbl) (by rw [HN.out]; omega)
      have G := hc k (by rw [HN.out]; omega)
      clear hc hA
      have hkl : Hid (k < l.length) := by rw [HN.out]; exact hlt
      have hat := Lib.hid (anyBad_at l k hkl.out)
      obtain ⟨g0, g1⟩ := G
      go_wp2_with fail
      refine (bad_cl (fN l k, fD l k) _).mono ?_
      rintro e w' ⟨rfl, hb2⟩
      rcases Bool.eq_false_or_eq_true (badFr (fN l k, fD l k)) with hp | hp
      · have HP := Lib.hid hp
        rw [hp]
        clear hp
        go_wp2
        go_ret
        exact ⟨ret_i (by rw [hnb.found hkl.out (by rw [hat.out]; exact HP.out)]), bl_trans hbl hb2⟩
      · have HP := Lib.hid hp
        rw [hp]
        clear hp
        go_wp2
        go_roundw
        case rel => exact ⟨k + 1, by omega, by go_num, hnb.next hkl.out (by rw [hat.out]; exact HP.out), bl_trans hbl hb2⟩
        case measure => simp [intOf]; omega
    · go_wp2
      go_ret
      exact ⟨ret_i (by rw [hnb.none (by rw [HN.out]; omega)]), hbl⟩
set_option maxHeartbeats 400000 in
theorem anyBad_any (a : Option Addr) (n c : Nat) (l : List Fr) (w : World) (hn : l.length = n) (hm : n ≤ 1152921504606846976) (hA : Rd w a (fl encFr l)) :
    Calls Tryd.prog 84 #[.slice a n c, .func (.func 85) #[] #[]] w fun e w' => e = .returned (.bool (l.any badFr)) ∧ Below w.heap.size w w' := by
  go_enter Tryd.func84, Tryd.ntmps84
  go_wp2_with fail
  refine (anyBad_idx a n c l _ hn hm hA).mono ?_
  rintro e w' ⟨rfl, hb⟩
  have hi := idxF_ge badFr l
  rcases Bool.eq_false_or_eq_true (l.any badFr) with hp | hp
  · have HP := Lib.hid hp
    rw [hp] at hi
    clear hp
    go_wp2
    go_ret
    exact ⟨ret_b (by rw [HP.out]), hb⟩
  · have HP := Lib.hid hp
    rw [hp] at hi
    clear hp
    go_wp2
    go_ret
    exact ⟨ret_b (by rw [HP.out]), hb⟩

theorem anyUnder_at (l : List Int) (k : Nat) (h : k < l.length) : l[k] = (iA l k) := by simp [iA, h]
set_option maxHeartbeats 400000 in
theorem anyUnder_idx (a : Option Addr) (n c : Nat) (l : List Int) (w : World) (hn : l.length = n) (hm : n ≤ 1152921504606846976) (hA : Rd w a (fl encI l)) :
    Calls Tryd.prog 92 #[.slice a n c, .func (.func 62) #[] #[]] w fun e w' => e = .returned (.int .i64 (idxF under l)) ∧ Below w.heap.size w w' := by
  have HN := Lib.hid hn; clear hn
  go_enter Tryd.func92, Tryd.ntmps92
  go_wp2
  go_loopw [8, 5] (fun x _ wr => ∃ k : Nat, k ≤ n ∧ x = .int .i64 k ∧ NoneBefore under l k ∧ Below w.heap.size w wr) (fun x _ _ => n - (intOf x).toNat)
  case atStart => exact ⟨0, by omega, rfl, NoneBefore.zero _ _, Below.refl _ _⟩
  case round =>
    obtain ⟨k, hk, rfl, hnb, hbl⟩ := hrel
    by_cases hlt : k < n
    · obtain ⟨b, o, rfl, _, hc⟩ := rdI (hA.bl hbl) (by rw [HN.out]; omega)
      have G := hc k (by rw [HN.out]; omega)
      clear hc hA
      have hkl : Hid (k < l.length) := by rw [HN.out]; exact hlt
      have hat := Lib.hid (anyUnder_at l k hkl.out)
      skip
      go_wp2_with fail
      refine (under_cl (iA l k) _).mono ?_
      rintro e w' ⟨rfl, hb2⟩
      rcases Bool.eq_false_or_eq_true (under (iA l k)) with hp | hp
      · have HP := Lib.hid hp
        rw [hp]
        clear hp
        go_wp2
        go_ret
        exact ⟨ret_i (by rw [hnb.found hkl.out (by rw [hat.out]; exact HP.out)]), bl_trans hbl hb2⟩
      · have HP := Lib.hid hp
        rw [hp]
        clear hp
        go_wp2
        go_roundw
        case rel => exact ⟨k + 1, by omega, by go_num, hnb.next hkl.out (by rw [hat.out]; exact HP.out), bl_trans hbl hb2⟩
        case measure => simp [intOf]; omega
    · go_wp2
      go_ret
      exact ⟨ret_i (by rw [hnb.none (by rw [HN.out]; omega)]), hbl⟩
set_option maxHeartbeats 400000 in
theorem anyUnder_any (a : Option Addr) (n c : Nat) (l : List Int) (w : World) (hn : l.length = n) (hm : n ≤ 1152921504606846976) (hA : Rd w a (fl encI l)) :
    Calls Tryd.prog 61 #[.slice a n c, .func (.func 62) #[] #[]] w fun e w' => e = .returned (.bool (l.any under)) ∧ Below w.heap.size w w' := by
  go_enter Tryd.func61, Tryd.ntmps61
  go_wp2_with fail
  refine (anyUnder_idx a n c l _ hn hm hA).mono ?_
  rintro e w' ⟨rfl, hb⟩
  have hi := idxF_ge under l
  rcases Bool.eq_false_or_eq_true (l.any under) with hp | hp
  · have HP := Lib.hid hp
    rw [hp] at hi
    clear hp
    go_wp2
    go_ret
    exact ⟨ret_b (by rw [HP.out]), hb⟩
  · have HP := Lib.hid hp
    rw [hp] at hi
    clear hp
    go_wp2
    go_ret
    exact ⟨ret_b (by rw [HP.out]), hb⟩

end Go.Proofs.YtahgffjkkdbjeaaDoor
