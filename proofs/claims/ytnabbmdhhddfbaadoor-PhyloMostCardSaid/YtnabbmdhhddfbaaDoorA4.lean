/- The document's Check of a table; compatible sets; the first conflict of a table, in the program and in the document. -/
import Derived.Test.YtnabbmdhhddfbaaDoorA3
namespace Go.Proofs.YtnabbmdhhddfbaaDoor
open Go.RowKit Go.Shelf
/-- Compatible sets. -/
def fitB (x y : Nat) : Bool := decide (x &&& y = 0) || decide (x &&& y = x) || decide (x &&& y = y)
set_option maxHeartbeats 1000000 in
theorem fits_any (x y : Nat) (w : World) (hx : x < 18446744073709551616) (hy : y < 18446744073709551616) :
    Calls Tryd.prog 42 #[.int .u64 x, .int .u64 y] w fun e w' => e = .returned (.bool (fitB x y)) ∧ w' = w := by
  have hb := bits_and hx hy
  obtain ⟨z, hz⟩ : ∃ z, x &&& y = z := ⟨_, rfl⟩
  rw [hz] at hb
  have HF : Hid (fitB x y = (decide (z = 0) || decide (z = x) || decide (z = y))) := by show _ = _; unfold fitB; rw [hz]
  clear hz
  by_cases q1 : z = 0
  · have t1 : ((z : Int) == 0) = true := by simp [q1]
    have HQ : Hid (fitB x y = true) := by show _ = _; rw [HF.out, decide_eq_true q1]; rfl
    have t2 : (z == 0) = true := by simp [q1]
    clear q1
    go_enter Tryd.func42, Tryd.ntmps42
    go_wp2_with fail
    go_ret
    exact ⟨ret_b (by rw [HQ.out]; try simp [t1]), rfl⟩
  · have t1 : ((z : Int) == 0) = false := by simp [q1]
    have t1n : (z == 0) = false := by simp [q1]
    by_cases q2 : z = x
    · have t2 : ((z : Int) == (x : Int)) = true := by simp [q2]
      have t2n : (z == x) = true := by simp [q2]
      have HQ : Hid (fitB x y = true) := by show _ = _; rw [HF.out, decide_eq_true q2]; simp
      clear q1 q2
      go_enter Tryd.func42, Tryd.ntmps42
      go_wp2_with fail
      all_goals
        go_ret
        exact ⟨ret_b (by rw [HQ.out]; try simp [t1, t1n, t2, t2n]), rfl⟩
    · have t2 : ((z : Int) == (x : Int)) = false := by simp; omega
      have t2n : (z == x) = false := by simp [q2]
      by_cases q3 : z = y
      · have t3 : ((z : Int) == (y : Int)) = true := by simp [q3]
        have t3n : (z == y) = true := by simp [q3]
        have HQ : Hid (fitB x y = true) := by show _ = _; rw [HF.out, decide_eq_true q3]; simp
        clear q1 q2 q3
        go_enter Tryd.func42, Tryd.ntmps42
        go_wp2_with fail
        all_goals
          go_ret
          exact ⟨ret_b (by rw [HQ.out]; try simp [t1, t1n, t2, t2n, t3, t3n]), rfl⟩
      · have t3 : ((z : Int) == (y : Int)) = false := by simp; omega
        have t3n : (z == y) = false := by simp [q3]
        have HQ : Hid (fitB x y = false) := by show _ = _; rw [HF.out, decide_eq_false q1, decide_eq_false q2, decide_eq_false q3]; rfl
        clear q1 q2 q3
        go_enter Tryd.func42, Tryd.ntmps42
        go_wp2_with fail
        all_goals
          go_ret
          exact ⟨ret_b (by rw [HQ.out]; try simp [t1, t1n, t2, t2n, t3, t3n]), rfl⟩
set_option maxHeartbeats 1000000 in
theorem rfit_any (x y : Nat) (w : World) (hx : x < 18446744073709551616) (hy : y < 18446744073709551616) :
    Calls Tryd.prog 44 #[.int .u64 x, .int .u64 y] w fun e w' => e = .returned (.bool (fitB x y)) ∧ w' = w := by
  have hb := bits_and hx hy
  obtain ⟨z, hz⟩ : ∃ z, x &&& y = z := ⟨_, rfl⟩
  rw [hz] at hb
  have HF : Hid (fitB x y = (decide (z = 0) || decide (z = x) || decide (z = y))) := by show _ = _; unfold fitB; rw [hz]
  clear hz
  by_cases q1 : z = 0
  · have t1 : ((z : Int) == 0) = true := by simp [q1]
    have HQ : Hid (fitB x y = true) := by show _ = _; rw [HF.out, decide_eq_true q1]; rfl
    have t2 : (z == 0) = true := by simp [q1]
    clear q1
    go_enter Tryd.func44, Tryd.ntmps44
    go_wp2_with fail
    go_ret
    exact ⟨ret_b (by rw [HQ.out]; try simp [t1]), rfl⟩
  · have t1 : ((z : Int) == 0) = false := by simp [q1]
    have t1n : (z == 0) = false := by simp [q1]
    by_cases q2 : z = x
    · have t2 : ((z : Int) == (x : Int)) = true := by simp [q2]
      have t2n : (z == x) = true := by simp [q2]
      have HQ : Hid (fitB x y = true) := by show _ = _; rw [HF.out, decide_eq_true q2]; simp
      clear q1 q2
      go_enter Tryd.func44, Tryd.ntmps44
      go_wp2_with fail
      all_goals
        go_ret
        exact ⟨ret_b (by rw [HQ.out]; try simp [t1, t1n, t2, t2n]), rfl⟩
    · have t2 : ((z : Int) == (x : Int)) = false := by simp; omega
      have t2n : (z == x) = false := by simp [q2]
      by_cases q3 : z = y
      · have t3 : ((z : Int) == (y : Int)) = true := by simp [q3]
        have t3n : (z == y) = true := by simp [q3]
        have HQ : Hid (fitB x y = true) := by show _ = _; rw [HF.out, decide_eq_true q3]; simp
        clear q1 q2 q3
        go_enter Tryd.func44, Tryd.ntmps44
        go_wp2_with fail
        all_goals
          go_ret
          exact ⟨ret_b (by rw [HQ.out]; try simp [t1, t1n, t2, t2n, t3, t3n]), rfl⟩
      · have t3 : ((z : Int) == (y : Int)) = false := by simp; omega
        have t3n : (z == y) = false := by simp [q3]
        have HQ : Hid (fitB x y = false) := by show _ = _; rw [HF.out, decide_eq_false q1, decide_eq_false q2, decide_eq_false q3]; rfl
        clear q1 q2 q3
        go_enter Tryd.func44, Tryd.ntmps44
        go_wp2_with fail
        all_goals
          go_ret
          exact ⟨ret_b (by rw [HQ.out]; try simp [t1, t1n, t2, t2n, t3, t3n]), rfl⟩
theorem in_bits {x k : Nat} (hx : x < 18446744073709551616) : bits .and .u64 ((x : Int) / 2 ^ k) 1 = ((x / 2 ^ k % 2 : Nat) : Int) := by
  have e : ((x : Int) / 2 ^ k) = ((x / 2 ^ k : Nat) : Int) := by simp
  rw [e, show (1 : Int) = ((1 : Nat) : Int) from rfl, bits_and (Nat.lt_of_le_of_lt (Nat.div_le_self _ _) hx) (by omega), Nat.and_one_is_mod]
set_option maxHeartbeats 1000000 in
theorem in_any (x k : Nat) (w : World) (hx : x < 18446744073709551616) (hk : k < 64) :
    Calls Tryd.prog 69 #[.int .u64 x, .int .i64 k] w fun e w' => e = .returned (.bool (x.testBit k)) ∧ w' = w := by
  have hb := Lib.hid (in_bits (k := k) hx)
  have ht := Lib.hid (Nat.testBit_eq_decide_div_mod_eq (x := x) (i := k))
  go_enter Tryd.func69, Tryd.ntmps69
  go_wp2_with fail
  go_ret
  refine ⟨ret_b ?_, rfl⟩
  have h1 := hb.out
  rw [ht.out]
  generalize bits .and .u64 ((x : Int) / 2 ^ k) 1 = z at *
  subst h1
  by_cases q : x / 2 ^ k % 2 = 1
  · rw [decide_eq_true q, q]; rfl
  · rw [decide_eq_false q, show x / 2 ^ k % 2 = 0 by omega]; rfl
/-- A set is wide if it has a language from L to 63. -/
theorem wide_bit {x L : Nat} (hx : x < 18446744073709551616) : wide L x = false ↔ ∀ j, L ≤ j → j < 64 → x.testBit j = false := by
  unfold wide
  simp only [Bool.not_eq_false', decide_eq_true_eq]
  constructor
  · intro h j h1 _
    exact Nat.testBit_lt_two_pow (Nat.lt_of_lt_of_le h (Nat.pow_le_pow_right (n := 2) (by omega) h1))
  · intro h
    refine Nat.lt_pow_two_of_testBit x fun j hj => ?_
    by_cases h64 : j < 64
    · exact h j hj h64
    · exact Nat.testBit_lt_two_pow (Nat.lt_of_lt_of_le hx (Nat.pow_le_pow_right (n := 2) (by omega) (show 64 ≤ j by omega)))
theorem any_take {l : List Nat} {p : Nat → Bool} {k : Nat} (h : l.length ≤ k) (hn : NoneBefore p l k) : l.any p = false := hn.any h
theorem any_at {l : List Nat} {p : Nat → Bool} {k : Nat} (h : k < l.length) (hp : p (vA l k) = true) : l.any p = true := by
  rw [List.any_eq_true]
  exact ⟨l[k], List.getElem_mem h, by rw [← vA_get h]; exact hp⟩
set_option maxRecDepth 100000 in
set_option maxHeartbeats 1000000 in
theorem rtchk_any (L : Int) (a : Option Addr) (N c : Nat) (l : List Nat) (w : World) (hl : l.length = N) (hN : N ≤ 1152921504606846976) (hA : Rd w a (fl encV l)) (hF : FitV l) :
    Calls Tryd.prog 43 #[.agg #[.int .i64 L, .slice a N c]] w fun e w' => e = .returned (.int .i64 (chkT L l)) ∧ Below w.heap.size w w' := by
  have hb0 := bl_alloc (Below.refl _ w) (.cells #[.int .i64 L, .slice a N c] 32)
  have HL := Lib.hid hl
  have HA := Lib.hid hA
  have HF := Lib.hid hF
  clear hl hA hF
  by_cases h1 : L < 0
  · have he : Hid (chkT L l = 3) := if_pos (.inl h1)
    have d1 : decide (L < 0) = true := by simpa using h1
    go_enter Tryd.func43, Tryd.ntmps43
    go_wp2_with fail
    go_ret
    exact ⟨by rw [he.out]; rfl, hb0⟩
  · have d1 : decide (L < 0) = false := by simpa using h1
    by_cases h2 : 32 < L
    · have he : Hid (chkT L l = 3) := if_pos (.inr h2)
      have d2 : decide (32 < L) = true := by simpa using h2
      go_enter Tryd.func43, Tryd.ntmps43
      go_wp2_with fail
      go_ret
      exact ⟨by rw [he.out]; rfl, hb0⟩
    · have d2 : decide (32 < L) = false := by simpa using h2
      by_cases h3 : 64 < N
      · have he : Hid (chkT L l = 12) := by show _ = _; unfold chkT; rw [if_neg (by omega), if_pos (by rw [HL.out]; exact h3)]
        have d3 : decide (64 < N) = true := by simpa using h3
        go_enter Tryd.func43, Tryd.ntmps43
        go_wp2_with fail
        go_ret
        exact ⟨by rw [he.out]; rfl, hb0⟩
      · have d3 : decide (64 < N) = false := by simpa using h3
        obtain ⟨M, rfl⟩ : ∃ M : Nat, L = M := ⟨L.toNat, by omega⟩
        have hM : M ≤ 32 := by omega
        have he : Hid (chkT (M : Int) l = if l.any (wide M) then 2 else 0) := by show _ = _; unfold chkT; rw [if_neg (by omega), if_neg (by rw [HL.out]; exact h3), Int.toNat_natCast]
        have hB := Blk.new w #[.int .i64 M, .slice a N c] 32
        have e0 := hB.cell 0
        have e1 := hB.cell 1
        obtain ⟨X, hX⟩ : ∃ X, X = w.heap.size := ⟨_, rfl⟩
        obtain ⟨w1, hw1⟩ : ∃ w1, w1 = w.alloc (.cells #[.int .i64 M, .slice a N c] 32) := ⟨_, rfl⟩
        rw [← hw1] at e0 e1 hb0
        have HA1 := Lib.hid (HA.out.bl hb0)
        rw [← hX] at e0 e1
        have e0' : w1.cell? ⟨X, 0, none⟩ = some (.int .i64 M) := e0
        have e1' : w1.cell? ⟨X, 1, none⟩ = some (.slice a N c) := e1
        have HB0 := Lib.hid hb0
        clear hB e0 e1 hb0
        go_enter Tryd.func43, Tryd.ntmps43
        go_upto_region 5 with fail
        rw [← hw1, ← hX]
        clear hw1 hX
        go_wp2_with fail
        go_loopw [3, 4] (fun x _ wr => ∃ k : Nat, k ≤ N ∧ x = .int .i64 k ∧ Hid (NoneBefore (wide M) l k) ∧ wr = w1) (fun x _ _ => N - (intOf x).toNat)
        case atStart => exact ⟨0, by omega, rfl, NoneBefore.zero _ _, rfl⟩
        case round =>
          obtain ⟨k, hk, rfl, hnb, rfl⟩ := hrel
          by_cases hlt : k < N
          · obtain ⟨b, o, rfl, hb, hc⟩ := rdV HA1.out (by rw [HL.out]; omega)
            have hkl : k < l.length := by rw [HL.out]; exact hlt
            have G := hc k hkl
            have hxb := HF.out k hkl
            have HW := Lib.hid (wide_bit (L := M) hxb)
            have HNX : Hid (wide M (vA l k) = false → NoneBefore (wide M) l (k + 1)) := fun e => hnb.out.next hkl (by rw [← vA_get hkl]; exact e)
            have HY : Hid (wide M (vA l k) = true → l.any (wide M) = true) := fun e => any_at hkl e
            clear hc hkl
            generalize vA l k = z at *
            go_wp2_with fail
            go_loopw [4] (fun x wx => ∃ j : Nat, M ≤ j ∧ j ≤ 64 ∧ x = .int .i64 j ∧ Hid (∀ i, M ≤ i → i < j → z.testBit i = false) ∧ wx = wr) (fun x _ => 64 - (intOf x).toNat)
            case atStart => exact ⟨M, by omega, by omega, rfl, fun i h1 h2 => absurd h2 (by omega), rfl⟩
            case round =>
              obtain ⟨j, hj1, hj2, rfl, hz, rfl⟩ := hrel
              by_cases hlt2 : j < 64
              · have HI := Lib.hid (fun W => in_any z j W hxb hlt2)
                go_wp2_with fail
                refine (HI.out _).mono ?_
                rintro e w' ⟨rfl, rfl⟩
                obtain ⟨tb, htb⟩ : ∃ tb, z.testBit j = tb := ⟨_, rfl⟩
                have HTB := Lib.hid htb
                rw [htb]
                clear htb
                cases tb with
                | true =>
                  have hy : Hid (l.any (wide M) = true) := HY.out (by
                    rcases Bool.eq_false_or_eq_true (wide M z) with h | h
                    · exact h
                    · have := HW.out.1 h j hj1 hlt2
                      rw [HTB.out] at this; cases this)
                  go_wp2_with fail
                  go_ret
                  exact ⟨by rw [he.out, hy.out]; rfl, HB0.out⟩
                | false =>
                  have hz2 : Hid (∀ i, M ≤ i → i < j + 1 → z.testBit i = false) := fun i h1 h2 => by
                    by_cases e : i = j
                    · rw [e]; exact HTB.out
                    · exact hz.out i h1 (by omega)
                  go_wp2_with fail
                  go_roundw
                  case rel => exact ⟨j + 1, by omega, by omega, by go_num, hz2, by trivial⟩
                  case measure => simp [intOf]; omega
              · have hnx := Lib.hid (HNX.out (HW.out.2 fun i h1 h2 => hz.out i h1 (by omega)))
                go_wp2_with fail
                go_roundw
                case rel => exact ⟨k + 1, by omega, by go_num, hnx, by trivial⟩
                case measure => simp [intOf]; omega
          · have hy : Hid (l.any (wide M) = false) := NoneBefore.any hnb.out (by rw [HL.out]; omega)
            go_wp2_with fail
            go_ret
            exact ⟨by rw [he.out, hy.out]; rfl, HB0.out⟩
end Go.Proofs.YtnabbmdhhddfbaaDoor
