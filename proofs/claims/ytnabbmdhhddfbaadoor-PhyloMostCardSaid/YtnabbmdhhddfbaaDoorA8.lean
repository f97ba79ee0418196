/- How many languages a set has, in Go's library and in the document; the order of sets. -/
import Derived.Test.YtnabbmdhhddfbaaDoorA7
namespace Go.Proofs.YtnabbmdhhddfbaaDoor
open Go.RowKit Go.Shelf
theorem pop_m1 {x y1 : Nat} (hx : x < 18446744073709551616) (e : y1 = (x / 2 &&& 6148914691236517205) + (x &&& 6148914691236517205)) (hy : y1 < 18446744073709551616) :
    IntKind.u64.wrap (bits .and .u64 ((x : Int) / 2) 6148914691236517205 + bits .and .u64 (x : Int) 6148914691236517205) = (y1 : Int) := by
  have e1 : ((x : Int) / 2) = ((x / 2 : Nat) : Int) := by omega
  have b1 := bits_and (x := x / 2) (y := 6148914691236517205) (by omega) (by decide)
  have b2 := bits_and (x := x) (y := 6148914691236517205) hx (by decide)
  rw [e1]
  rw [show ((6148914691236517205 : Nat) : Int) = (6148914691236517205 : Int) from rfl] at b1 b2
  rw [b1, b2, show (((x / 2 &&& 6148914691236517205 : Nat) : Int) + ((x &&& 6148914691236517205 : Nat) : Int)) = (y1 : Int) by rw [e]; simp, w64 _ hy]
theorem pop_m2 {x y1 : Nat} (hx : x < 18446744073709551616) (e : y1 = (x / 4 &&& 3689348814741910323) + (x &&& 3689348814741910323)) (hy : y1 < 18446744073709551616) :
    IntKind.u64.wrap (bits .and .u64 ((x : Int) / 4) 3689348814741910323 + bits .and .u64 (x : Int) 3689348814741910323) = (y1 : Int) := by
  have e1 : ((x : Int) / 4) = ((x / 4 : Nat) : Int) := by omega
  have b1 := bits_and (x := x / 4) (y := 3689348814741910323) (by omega) (by decide)
  have b2 := bits_and (x := x) (y := 3689348814741910323) hx (by decide)
  rw [e1]
  rw [show ((3689348814741910323 : Nat) : Int) = (3689348814741910323 : Int) from rfl] at b1 b2
  rw [b1, b2, show (((x / 4 &&& 3689348814741910323 : Nat) : Int) + ((x &&& 3689348814741910323 : Nat) : Int)) = (y1 : Int) by rw [e]; simp, w64 _ hy]
theorem pop_m3 {x y3 : Nat} (hx : x < 5764607523034234880) (e : y3 = (x / 16 + x &&& 1085102592571150095)) :
    bits .and .u64 (IntKind.u64.wrap ((x : Int) / 16 + (x : Int))) 1085102592571150095 = (y3 : Int) := by
  have e1 : ((x : Int) / 16 + (x : Int)) = ((x / 16 + x : Nat) : Int) := by omega
  have b1 := bits_and (x := x / 16 + x) (y := 1085102592571150095) (by omega) (by decide)
  rw [show ((1085102592571150095 : Nat) : Int) = (1085102592571150095 : Int) from rfl] at b1
  rw [e1, w64 _ (by omega), b1, e]
theorem pop_m4 {y k : Nat} (hy : y + y / k < 18446744073709551616) : IntKind.u64.wrap ((y : Int) + (y : Int) / (k : Int)) = ((y + y / k : Nat) : Int) := by
  rw [show ((y : Int) + (y : Int) / (k : Int)) = ((y + y / k : Nat) : Int) by simp, w64 _ hy]
theorem pop_m4' {y : Nat} (k : Nat) (k' : Int) (e : k' = (k : Int)) (hy : y + y / k < 18446744073709551616) : IntKind.u64.wrap ((y : Int) + (y : Int) / k') = ((y + y / k : Nat) : Int) := by
  subst e; exact pop_m4 hy
theorem i64w {x : Nat} (h : x < 9223372036854775808) : IntKind.i64.wrap (x : Int) = (x : Int) := wrap_nat _ x rfl (by omega)
theorem and127 (y : Nat) : y &&& 127 = y % 128 := by
  have := Nat.and_two_pow_sub_one_eq_mod y 7
  simpa using this
theorem pop_m5 {y c : Nat} (hy : y < 9223372036854775808) (e : y % 128 = c) : bits .and .i64 (wrap64 (y : Int)) 127 = (c : Int) := by
  have h1 : wrap64 (y : Int) = (y : Int) := IntWalk.wrap64_in _ ⟨by omega, by omega⟩
  rw [h1]
  show IntKind.i64.wrap ((BitVec.ofInt 64 (y : Int) &&& BitVec.ofInt 64 ((127 : Nat) : Int)).toNat : Int) = _
  rw [BitVec.toNat_and, bv64 (by omega), bv64 (by decide), and127, e]
  exact i64w (by omega)
set_option maxHeartbeats 1000000 in
/-- OnesCount64 answers the number of bits set. -/
theorem ones_any (x : Nat) (w : World) (hx : x < 18446744073709551616) :
    Calls Tryd.prog 82 #[.int .u64 x] w (fun e w' => e = .returned (.int .i64 (cntB x 64)) ∧ w' = w) := by
  obtain ⟨y1, y2, y3, hp⟩ := pops_of hx
  have M1 := Lib.hid (pop_m1 hx hp.s1 hp.b1)
  have M2 := Lib.hid (pop_m2 hp.b1 hp.s2 (by have := hp.b2; omega))
  have M3 := Lib.hid (pop_m3 hp.b2 hp.s3)
  obtain ⟨l0, l1, l2, l3, l4⟩ := hp.last
  have M4 := Lib.hid (pop_m4' (y := y3) 256 256 rfl (by omega))
  obtain ⟨y4, hy4⟩ : ∃ y, y3 + y3 / 256 = y := ⟨_, rfl⟩
  rw [hy4] at M4 l1 l2 l3 l4
  have M5 := Lib.hid (pop_m4' (y := y4) 65536 65536 rfl (by omega))
  obtain ⟨y5, hy5⟩ : ∃ y, y4 + y4 / 65536 = y := ⟨_, rfl⟩
  rw [hy5] at M5 l2 l3 l4
  have M6 := Lib.hid (pop_m4' (y := y5) 4294967296 4294967296 rfl (by omega))
  obtain ⟨y6, hy6⟩ : ∃ y, y5 + y5 / 4294967296 = y := ⟨_, rfl⟩
  rw [hy6] at M6 l3 l4
  have M7 := Lib.hid (pop_m5 (by omega) l4)
  clear hx hp l0 l1 l2 l3 l4 hy4 hy5 hy6
  go_enter Tryd.func82, Tryd.ntmps82
  go_upto_region 2 with fail
  try rw [M1.out]
  go_upto_region 3 with fail
  try rw [M2.out]
  go_upto_region 4 with fail
  try rw [M3.out]
  go_upto_region 5 with fail
  try rw [M4.out]
  go_upto_region 6 with fail
  try rw [M5.out]
  go_upto_region 7 with fail
  try rw [M6.out]
  go_wp2_with fail
  go_ret
  exact ⟨ret_i M7.out, rfl⟩
set_option maxHeartbeats 1000000 in
/-- The document's count. -/
theorem size_any (x : Nat) (w : World) (hx : x < 18446744073709551616) :
    Calls Tryd.prog 55 #[.int .u64 x] w (fun e w' => e = .returned (.int .i64 (cntB x 64)) ∧ w' = w) := by
  have hx' := Lib.hid hx
  have hle := Lib.hid (cntB_le x)
  clear hx
  go_enter Tryd.func55, Tryd.ntmps55
  go_wp2_with fail
  go_loopw [4, 3] (fun a b wr => ∃ k : Nat, k ≤ 64 ∧ a = .int .i64 k ∧ b = .int .i64 (cntB x k) ∧ wr = w) (fun a _ _ => 64 - (intOf a).toNat)
  case atStart => exact ⟨0, by omega, rfl, rfl, rfl⟩
  case round =>
    obtain ⟨k, hk, rfl, rfl, rfl⟩ := hrel
    by_cases hlt : k < 64
    · have hb := Lib.hid (in_bits (k := k) hx'.out)
      have ht := Lib.hid (Nat.testBit_eq_decide_div_mod_eq (x := x) (i := k))
      have HL := Lib.hid (hle.out k)
      have HS : Hid (cntB x (k + 1) = cntB x k + if x.testBit k then 1 else 0) := rfl
      obtain ⟨tb, htb⟩ : ∃ tb, x.testBit k = tb := ⟨_, rfl⟩
      rw [htb] at HS ht
      clear htb
      have hb' := hb.out
      cases tb with
      | true =>
        have h1 : (bits .and .u64 ((x : Int) / 2 ^ k) 1 == (1 : Int)) = true := by
          have hm : x / 2 ^ k % 2 = 1 := of_decide_eq_true ht.out.symm
          rw [hb', hm]; rfl
        have h2 : decide (bits .and .u64 ((x : Int) / 2 ^ k) 1 = (1 : Int)) = true := by simpa using h1
        have h3 : Hid ((cntB x k : Int) + 1 = (cntB x (k + 1) : Int)) := by show _ = _; rw [HS.out]; simp
        have h4 : cntB x k ≤ 64 := by have := HL.out; omega
        clear hb'
        go_wp2_with fail
        go_roundw
        case rel => exact ⟨k + 1, by omega, by go_num, by first | rw [← h3.out] | rw [h3.out], by trivial⟩
        case measure => simp [intOf]; omega
      | false =>
        have h1 : (bits .and .u64 ((x : Int) / 2 ^ k) 1 == (1 : Int)) = false := by
          have hm : ¬ (x / 2 ^ k % 2 = 1) := of_decide_eq_false ht.out.symm
          have hz : x / 2 ^ k % 2 = 0 := by omega
          rw [hb', hz]; rfl
        have h2 : decide (bits .and .u64 ((x : Int) / 2 ^ k) 1 = (1 : Int)) = false := by simpa using h1
        have h3 : Hid ((cntB x k : Int) = (cntB x (k + 1) : Int)) := by show _ = _; rw [HS.out]; simp
        clear hb'
        go_wp2_with fail
        go_roundw
        case rel => exact ⟨k + 1, by omega, by go_num, by first | rw [← h3.out] | rw [h3.out], by trivial⟩
        case measure => simp [intOf]; omega
    · have e : k = 64 := by omega
      subst e
      go_wp2_with fail
      go_ret
      exact ⟨rfl, rfl⟩
/-- The order of sets: more languages first, then the lesser number. -/
def setBef (x y : Nat) : Bool := if cntB x 64 = cntB y 64 then decide (x < y) else decide (cntB y 64 < cntB x 64)
set_option maxHeartbeats 1000000 in
theorem before_any (x y : Nat) (w : World) (hx : x < 18446744073709551616) (hy : y < 18446744073709551616) :
    Calls Tryd.prog 56 #[.int .u64 x, .int .u64 y] w (fun e w' => e = .returned (.bool (setBef x y)) ∧ w' = w) := by
  have HX := Lib.hid (fun W => size_any x W hx)
  have HY := Lib.hid (fun W => size_any y W hy)
  have LX := cntB_le x 64
  have LY := cntB_le y 64
  have HB : Hid (setBef x y = if cntB x 64 = cntB y 64 then decide (x < y) else decide (cntB y 64 < cntB x 64)) := rfl
  clear hx hy
  obtain ⟨a, ha⟩ : ∃ a, cntB x 64 = a := ⟨_, rfl⟩
  obtain ⟨b, hb⟩ : ∃ b, cntB y 64 = b := ⟨_, rfl⟩
  rw [ha] at HX HB LX
  rw [hb] at HY HB LY
  clear ha hb
  by_cases q : a = b
  · subst q
    have HB1 : Hid (setBef x y = decide (x < y)) := by show _ = _; rw [HB.out, if_pos rfl]
    clear HB
    go_enter Tryd.func56, Tryd.ntmps56
    go_wp2_with fail
    refine (HX.out _).mono ?_
    rintro e w' ⟨rfl, rfl⟩
    go_wp2_with fail
    refine (HY.out _).mono ?_
    rintro e w' ⟨rfl, rfl⟩
    go_wp2_with fail
    go_ret
    refine ⟨?_, rfl⟩
    rw [HB1.out]
    exact ret_b (by simp)
  · have HB1 : Hid (setBef x y = decide (b < a)) := by show _ = _; rw [HB.out, if_neg q]
    have q2 : ¬ ((a : Int) = (b : Int)) := by omega
    have q3 : ((a : Int) == (b : Int)) = false := by rw [beq_eq_false_iff_ne]; exact q2
    have q4 : decide ((a : Int) = (b : Int)) = false := decide_eq_false q2
    clear q2
    clear HB
    go_enter Tryd.func56, Tryd.ntmps56
    go_wp2_with fail
    refine (HX.out _).mono ?_
    rintro e w' ⟨rfl, rfl⟩
    go_wp2_with fail
    refine (HY.out _).mono ?_
    rintro e w' ⟨rfl, rfl⟩
    go_wp2_with fail
    refine (HX.out _).mono ?_
    rintro e w' ⟨rfl, rfl⟩
    go_wp2_with fail
    refine (HY.out _).mono ?_
    rintro e w' ⟨rfl, rfl⟩
    go_wp2_with fail
    go_ret
    refine ⟨?_, rfl⟩
    rw [HB1.out]
    exact ret_b (by simp)
/-- What the program's comparison answers. -/
def setCmp (x y : Nat) : Int := if cntB y 64 = cntB x 64 then (if x < y then -1 else if y < x then 1 else 0) else (cntB y 64 : Int) - cntB x 64
set_option maxHeartbeats 1000000 in
theorem cmp_any (x y : Nat) (w : World) (hx : x < 18446744073709551616) (hy : y < 18446744073709551616) :
    Calls Tryd.prog 64 #[.int .u64 x, .int .u64 y] w (fun e w' => e = .returned (.int .i64 (setCmp x y)) ∧ w' = w) := by
  have HX := Lib.hid (fun W => ones_any x W hx)
  have HY := Lib.hid (fun W => ones_any y W hy)
  have LX := cntB_le x 64
  have LY := cntB_le y 64
  have HB : Hid (setCmp x y = if cntB y 64 = cntB x 64 then (if x < y then -1 else if y < x then 1 else 0) else (cntB y 64 : Int) - cntB x 64) := rfl
  clear hx hy
  obtain ⟨a, ha⟩ : ∃ a, cntB x 64 = a := ⟨_, rfl⟩
  obtain ⟨b, hb⟩ : ∃ b, cntB y 64 = b := ⟨_, rfl⟩
  rw [ha] at HX HB LX
  rw [hb] at HY HB LY
  clear ha hb
  by_cases q : b = a
  · subst q
    have HB1 : Hid (setCmp x y = if x < y then -1 else if y < x then 1 else 0) := by show _ = _; rw [HB.out, if_pos rfl]
    have z1 : decide ((b : Int) - (b : Int) = 0) = true := by simp
    have z2 : ((b : Int) - (b : Int) == 0) = true := by simp
    have z3 : ((b : Int) - (b : Int)) = 0 := by omega
    clear HB
    rcases Nat.lt_trichotomy x y with h | h | h
    · have HB2 : Hid (setCmp x y = -1) := by show _ = _; rw [HB1.out, if_pos h]
      have d1 : decide (x < y) = true := decide_eq_true h
      clear HB1
      go_enter Tryd.func64, Tryd.ntmps64
      go_wp2_with fail
      refine (HY.out _).mono ?_
      rintro e w' ⟨rfl, rfl⟩
      go_wp2_with fail
      refine (HX.out _).mono ?_
      rintro e w' ⟨rfl, rfl⟩
      go_wp2_with fail
      go_ret
      exact ⟨ret_i HB2.out.symm, rfl⟩
    · have HB2 : Hid (setCmp x y = 0) := by show _ = _; rw [HB1.out, if_neg (by omega), if_neg (by omega)]
      subst h
      clear HB1
      go_enter Tryd.func64, Tryd.ntmps64
      go_wp2_with fail
      refine (HY.out _).mono ?_
      rintro e w' ⟨rfl, rfl⟩
      go_wp2_with fail
      refine (HX.out _).mono ?_
      rintro e w' ⟨rfl, rfl⟩
      go_wp2_with fail
      go_ret
      exact ⟨ret_i HB2.out.symm, rfl⟩
    · have HB2 : Hid (setCmp x y = 1) := by show _ = _; rw [HB1.out, if_neg (by omega), if_pos h]
      have h2 : ¬ x < y := by omega
      have d1 : decide (x < y) = false := decide_eq_false h2
      have d2 : decide (y < x) = true := decide_eq_true h
      clear HB1
      go_enter Tryd.func64, Tryd.ntmps64
      go_wp2_with fail
      refine (HY.out _).mono ?_
      rintro e w' ⟨rfl, rfl⟩
      go_wp2_with fail
      refine (HX.out _).mono ?_
      rintro e w' ⟨rfl, rfl⟩
      go_wp2_with fail
      go_ret
      exact ⟨ret_i HB2.out.symm, rfl⟩
  · have HB1 : Hid (setCmp x y = (b : Int) - a) := by show _ = _; rw [HB.out, if_neg q]
    have z0 : ¬ ((b : Int) - (a : Int) = 0) := by omega
    have z1 : decide ((b : Int) - (a : Int) = 0) = false := decide_eq_false z0
    have z2 : ((b : Int) - (a : Int) == 0) = false := by rw [beq_eq_false_iff_ne]; exact z0
    clear HB z0
    go_enter Tryd.func64, Tryd.ntmps64
    go_wp2_with fail
    refine (HY.out _).mono ?_
    rintro e w' ⟨rfl, rfl⟩
    go_wp2_with fail
    refine (HX.out _).mono ?_
    rintro e w' ⟨rfl, rfl⟩
    go_wp2_with fail
    go_ret
    exact ⟨ret_i HB1.out.symm, rfl⟩
end Go.Proofs.YtnabbmdhhddfbaaDoor
