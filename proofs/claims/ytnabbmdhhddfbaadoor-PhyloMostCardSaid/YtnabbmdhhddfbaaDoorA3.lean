/- Sets as numbers of 64 bits; slices.IndexFunc and ContainsFunc of such numbers; innov.Check at every table. -/
import Derived.Test.YtnabbmdhhddfbaaDoorA1
namespace Go.Proofs.YtnabbmdhhddfbaaDoor
open Go.RowKit Go.Shelf
theorem w64 (x : Nat) (h : x < 18446744073709551616) : IntKind.u64.wrap (x : Int) = (x : Int) := by
  rw [IntKind.wrap_u64]; omega
theorem bv64 {x : Nat} (h : x < 18446744073709551616) : (BitVec.ofInt 64 (x : Int)).toNat = x := by
  rw [BitVec.ofInt_natCast, BitVec.toNat_ofNat]; exact Nat.mod_eq_of_lt h
theorem and_lt {x y : Nat} (h : x < 18446744073709551616) : x &&& y < 18446744073709551616 := Nat.lt_of_le_of_lt Nat.and_le_left h
theorem or_lt {x y : Nat} (h : x < 18446744073709551616) (k : y < 18446744073709551616) : x ||| y < 18446744073709551616 := Nat.or_lt_two_pow (n := 64) h k
theorem bits_and {x y : Nat} (hx : x < 18446744073709551616) (hy : y < 18446744073709551616) : bits .and .u64 (x : Int) (y : Int) = ((x &&& y : Nat) : Int) := by
  show IntKind.u64.wrap ((BitVec.ofInt 64 (x : Int) &&& BitVec.ofInt 64 (y : Int)).toNat : Int) = _
  rw [BitVec.toNat_and, bv64 hx, bv64 hy, w64 _ (and_lt hx)]
theorem bits_or {x y : Nat} (hx : x < 18446744073709551616) (hy : y < 18446744073709551616) : bits .or .u64 (x : Int) (y : Int) = ((x ||| y : Nat) : Int) := by
  show IntKind.u64.wrap ((BitVec.ofInt 64 (x : Int) ||| BitVec.ofInt 64 (y : Int)).toNat : Int) = _
  rw [BitVec.toNat_or, bv64 hx, bv64 hy, w64 _ (or_lt hx hy)]
/-- What of x lies above its low L bits. -/
def hiB (x L : Nat) : Nat := x &&& (18446744073709551615 - (2 ^ L - 1))
theorem hiB_zero {x L : Nat} (hx : x < 18446744073709551616) (hL : L ≤ 32) : hiB x L = 0 ↔ x < 2 ^ L := by
  have hp : 2 ^ L ≤ 4294967296 := Nat.pow_le_pow_right (n := 2) (by omega) (show L ≤ 32 by omega)
  have hp0 : 0 < 2 ^ L := Nat.two_pow_pos L
  have e : ∀ i, (hiB x L).testBit i = (x.testBit i && (decide (i < 64) && !(decide (i < L)))) := fun i => by
    unfold hiB
    rw [Nat.testBit_and, show 18446744073709551615 - (2 ^ L - 1) = 2 ^ 64 - ((2 ^ L - 1) + 1) by omega, Nat.testBit_two_pow_sub_succ (by omega), Nat.testBit_two_pow_sub_one]
  constructor
  · intro h
    refine Nat.lt_pow_two_of_testBit x fun i hi => ?_
    have h1 := e i
    rw [h, Nat.zero_testBit] at h1
    by_cases h64 : i < 64
    · simp [h64, show ¬ i < L by omega] at h1
      exact h1
    · exact Nat.testBit_lt_two_pow (Nat.lt_of_lt_of_le hx (Nat.pow_le_pow_right (n := 2) (by omega) (show 64 ≤ i by omega)))
  · intro h
    apply Nat.eq_of_testBit_eq
    intro i
    rw [e, Nat.zero_testBit]
    by_cases hi : i < L
    · simp [hi]
    · rw [Nat.testBit_lt_two_pow (Nat.lt_of_lt_of_le h (Nat.pow_le_pow_right (n := 2) (by omega) (show L ≤ i by omega)))]
      rfl
theorem bits_hi {x L : Nat} (hx : x < 18446744073709551616) (hL : L ≤ 32) : bits .andNot .u64 (x : Int) ((2 ^ L - 1 : Nat) : Int) = (hiB x L : Int) := by
  have hp : 2 ^ L ≤ 4294967296 := Nat.pow_le_pow_right (n := 2) (by omega) (show L ≤ 32 by omega)
  show IntKind.u64.wrap ((BitVec.ofInt 64 (x : Int) &&& ~~~ BitVec.ofInt 64 ((2 ^ L - 1 : Nat) : Int)).toNat : Int) = _
  rw [BitVec.toNat_and, BitVec.toNat_not, bv64 hx, bv64 (by omega)]
  exact w64 _ (and_lt hx)
theorem hiB_lt {x L : Nat} (hx : x < 18446744073709551616) : hiB x L < 18446744073709551616 := and_lt hx
theorem wrap_all {L : Nat} (hL : L ≤ 32) : IntKind.u64.wrap (IntKind.u64.wrap (2 ^ L) - 1) = ((2 ^ L - 1 : Nat) : Int) := by
  have hp : 2 ^ L ≤ 4294967296 := Nat.pow_le_pow_right (n := 2) (by omega) (show L ≤ 32 by omega)
  have hp0 : 0 < 2 ^ L := Nat.two_pow_pos L
  have e : ((2 : Int) ^ L) = ((2 ^ L : Nat) : Int) := by simp
  rw [e, w64 _ (by omega), show ((2 ^ L : Nat) : Int) - 1 = ((2 ^ L - 1 : Nat) : Int) by omega, w64 _ (by omega)]
set_option maxHeartbeats 1000000 in
theorem all_any (L : Nat) (a : Option Addr) (n c : Nat) (w : World) (hL : L ≤ 32) :
    Calls Tryd.prog 68 #[.agg #[.int .i64 L, .slice a n c]] w fun e w' => e = .returned (.int .u64 ((2 ^ L - 1 : Nat) : Int)) ∧ Below w.heap.size w w' := by
  have hw := Lib.hid (wrap_all hL)
  go_enter Tryd.func68, Tryd.ntmps68
  go_wp2_with fail
  go_ret
  exact ⟨ret_i hw.out, bl_alloc (Below.refl _ _) _⟩
set_option maxHeartbeats 1000000 in
theorem chk1_any (x L B : Nat) (a : Option Addr) (n c : Nat) (w : World) (hx : x < 18446744073709551616) (hL : L ≤ 32) (hB : Blk w B #[.int .i64 L, .slice a n c] 24) :
    Calls Tryd.prog 67 #[.int .u64 x, .pointer (some ⟨B, 0, none⟩)] w fun e w' => e = .returned (.bool (!decide (x < 2 ^ L))) ∧ Below w.heap.size w w' := by
  have c0 := hB.cell 0
  have c1 := hB.cell 1
  have e0 : w.cell? ⟨B, 0, none⟩ = some (.int .i64 L) := c0
  have e1 : w.cell? ⟨B, 1, none⟩ = some (.slice a n c) := c1
  have HZ := Lib.hid (hiB_zero hx hL)
  have HB := Lib.hid (bits_hi hx hL)
  clear c0 c1
  obtain ⟨A, hA⟩ : ∃ A, 2 ^ L - 1 = A := ⟨_, rfl⟩
  rw [hA] at HB
  have HAA := Lib.hid (fun w' => all_any L a n c w' hL)
  rw [hA] at HAA
  clear hA
  obtain ⟨h, hh⟩ : ∃ h, hiB x L = h := ⟨_, rfl⟩
  rw [hh] at HZ HB
  have HH := Lib.hid hh
  clear hh
  go_enter Tryd.func67, Tryd.ntmps67
  go_wp2_with fail
  refine (HAA.out _).mono ?_
  rintro e w1 ⟨rfl, hb1⟩
  have hb := HB.out
  by_cases hz : h = 0
  · have t : ((h : Int) == 0) = true := by simp [hz]
    have HT : Hid (x < 2 ^ L) := HZ.out.1 hz
    have HH0 := Lib.hid hz
    clear hz
    go_wp2_with fail
    go_ret
    exact ⟨ret_b (by rw [decide_eq_true HT.out]; simp [HH0.out]), hb1⟩
  · have t : ((h : Int) == 0) = false := by simp [hz]
    have HT : Hid (¬ x < 2 ^ L) := fun h2 => hz (HZ.out.2 h2)
    have HH0 := Lib.hid hz
    clear hz
    go_wp2_with fail
    go_ret
    exact ⟨ret_b (by rw [decide_eq_false HT.out]; simp [HH0.out]), hb1⟩
theorem vA_get {l : List Nat} {k : Nat} (h : k < l.length) : vA l k = l[k] := by simp [vA, h]
set_option maxRecDepth 100000 in
set_option maxHeartbeats 1000000 in
theorem indexF_any (g : Nat) (hen : Enters Tryd.prog g) (env : Array Value) (p : Nat → Bool) (a : Option Addr) (N c : Nat) (l : List Nat) (w : World) (hl : l.length = N) (hN : N ≤ 1152921504606846976) (hA : Rd w a (fl encV l))
    (hp : ∀ i, i < N → ∀ W, Below w.heap.size w W → Calls Tryd.prog g (#[.int .u64 (vA l i)] ++ env) W fun e w' => e = .returned (.bool (p (vA l i))) ∧ Below W.heap.size W w') :
    Calls Tryd.prog 40 #[.slice a N c, .func (.func g) #[] env] w fun e w' => e = .returned (.int .i64 (idxF p l)) ∧ Below w.heap.size w w' := by
  have HL := Lib.hid hl
  have HA := Lib.hid hA
  have HP := Lib.hid hp
  clear hl hA hp
  have hbz := Below.refl w.heap.size w
  go_enter Tryd.func40, Tryd.ntmps40
  go_wp2_with fail
  go_loopw [8, 5] (fun x _ wr => ∃ k : Nat, k ≤ N ∧ x = .int .i64 k ∧ Hid (NoneBefore p l k) ∧ Below w.heap.size w wr) (fun x _ _ => N - (intOf x).toNat)
  case atStart => exact ⟨0, by omega, rfl, NoneBefore.zero _ _, hbz⟩
  case round =>
    obtain ⟨k, hk, rfl, hnb, hbl⟩ := hrel
    clear hbz
    by_cases hlt : k < N
    · obtain ⟨b, o, rfl, hb, hc⟩ := rdV HA.out (by rw [HL.out]; omega)
      have hkl : k < l.length := by rw [HL.out]; exact hlt
      have G := (hbl.cell (p := ⟨b, o + k, none⟩) hb).trans (hc k hkl)
      have HC := Lib.hid (HP.out k hlt wr hbl)
      have HY : Hid (p (vA l k) = true → idxF p l = k) := fun e => hnb.out.found hkl (by rw [← vA_get hkl]; exact e)
      have HNX : Hid (p (vA l k) = false → NoneBefore p l (k + 1)) := fun e => hnb.out.next hkl (by rw [← vA_get hkl]; exact e)
      clear hc hkl
      generalize vA l k = z at *
      have hcall := fun args W => hen args W
      go_wp2_with fail
      refine HC.out.mono ?_
      rintro e w1 ⟨rfl, hb1⟩
      clear hcall
      have hbl1 := hbl.trans (hb1.mono hbl.size)
      rcases Bool.eq_false_or_eq_true (p z) with q | q
      · have hy := Lib.hid (HY.out q)
        rw [q]
        clear q HY HNX
        go_wp2_with fail
        go_ret
        exact ⟨by rw [hy.out]; rfl, hbl1⟩
      · have hy := Lib.hid (HNX.out q)
        rw [q]
        clear q HY HNX
        go_wp2_with fail
        go_roundw
        case rel => exact ⟨k + 1, by omega, by go_num, hy, hbl1⟩
        case measure => simp [intOf]; omega
    · have hy : Hid (idxF p l = -1) := NoneBefore.none hnb.out (by rw [HL.out]; omega)
      go_wp2_with fail
      go_ret
      exact ⟨by rw [hy.out]; rfl, hbl⟩
set_option maxHeartbeats 1000000 in
theorem containsF_any (g : Nat) (hen : Enters Tryd.prog g) (env : Array Value) (p : Nat → Bool) (a : Option Addr) (N c : Nat) (l : List Nat) (w : World) (hl : l.length = N) (hN : N ≤ 1152921504606846976) (hA : Rd w a (fl encV l))
    (hp : ∀ i, i < N → ∀ W, Below w.heap.size w W → Calls Tryd.prog g (#[.int .u64 (vA l i)] ++ env) W fun e w' => e = .returned (.bool (p (vA l i))) ∧ Below W.heap.size W w') :
    Calls Tryd.prog 61 #[.slice a N c, .func (.func g) #[] env] w fun e w' => e = .returned (.bool (l.any p)) ∧ Below w.heap.size w w' := by
  have H := Lib.hid (indexF_any g hen env p a N c l w hl hN hA hp)
  have hb : Hid (decide (0 ≤ idxF p l) = l.any p) := idxF_ge _ _
  clear hl hA hp hen
  go_enter Tryd.func61, Tryd.ntmps61
  go_wp2_with fail
  refine H.out.mono ?_
  rintro e w' ⟨rfl, hb1⟩
  generalize idxF p l = z at *
  go_wp2_with fail
  go_ret
  exact ⟨by rw [← hb.out]; rfl, hb1⟩
/-- Numbers of 64 bits. -/
def FitV (l : List Nat) : Prop := ∀ i, i < l.length → vA l i < 18446744073709551616
/-- A set with a language that is none of the first L. -/
def wide (L : Nat) (x : Nat) : Bool := !decide (x < 2 ^ L)
/-- Why a table is not valid. -/
def chkT (L : Int) (has : List Nat) : Int := if L < 0 ∨ 32 < L then 3 else if 64 < has.length then 12 else if has.any (wide L.toNat) then 2 else 0
set_option maxRecDepth 100000 in
set_option maxHeartbeats 1000000 in
theorem tchk_any (L : Int) (a : Option Addr) (N c : Nat) (l : List Nat) (w : World) (hl : l.length = N) (hN : N ≤ 1152921504606846976) (hA : Rd w a (fl encV l)) (hF : FitV l) :
    Calls Tryd.prog 39 #[.agg #[.int .i64 L, .slice a N c]] w fun e w' => e = .returned (.int .i64 (chkT L l)) ∧ Below w.heap.size w w' := by
  have hb0 := bl_alloc (Below.refl _ w) (.cells #[.int .i64 L, .slice a N c] 24)
  have HL := Lib.hid hl
  have HA := Lib.hid hA
  have HF := Lib.hid hF
  clear hl hA hF
  by_cases h1 : L < 0
  · have he : Hid (chkT L l = 3) := if_pos (.inl h1)
    have d1 : decide (L < 0) = true := by simpa using h1
    go_enter Tryd.func39, Tryd.ntmps39
    go_wp2_with fail
    go_ret
    exact ⟨by rw [he.out]; rfl, hb0⟩
  · have d1 : decide (L < 0) = false := by simpa using h1
    by_cases h2 : 32 < L
    · have he : Hid (chkT L l = 3) := if_pos (.inr h2)
      have d2 : decide (32 < L) = true := by simpa using h2
      go_enter Tryd.func39, Tryd.ntmps39
      go_wp2_with fail
      go_ret
      exact ⟨by rw [he.out]; rfl, hb0⟩
    · have d2 : decide (32 < L) = false := by simpa using h2
      by_cases h3 : 64 < N
      · have he : Hid (chkT L l = 12) := by show _ = _; unfold chkT; rw [if_neg (by omega), if_pos (by rw [HL.out]; exact h3)]
        have d3 : decide (64 < N) = true := by simpa using h3
        go_enter Tryd.func39, Tryd.ntmps39
        go_wp2_with fail
        go_ret
        exact ⟨by rw [he.out]; rfl, hb0⟩
      · have d3 : decide (64 < N) = false := by simpa using h3
        obtain ⟨M, rfl⟩ : ∃ M : Nat, L = M := ⟨L.toNat, by omega⟩
        have he : Hid (chkT (M : Int) l = if l.any (wide M) then 2 else 0) := by show _ = _; unfold chkT; rw [if_neg (by omega), if_neg (by rw [HL.out]; exact h3), Int.toNat_natCast]
        have hB := Blk.new w #[.int .i64 M, .slice a N c] 24
        have HC := Lib.hid (containsF_any 67 (enters_of Tryd.func67 (by kernel_rfl) rfl) #[.pointer (some ⟨w.heap.size, 0, none⟩)] (wide M) a N c l (w.alloc (.cells #[.int .i64 M, .slice a N c] 24)) HL.out hN (HA.out.bl hb0) (fun i hi W hW => chk1_any (vA l i) M w.heap.size a N c W (HF.out i (by rw [HL.out]; exact hi)) (by omega) (hB.below hW)))
        clear hB
        go_enter Tryd.func39, Tryd.ntmps39
        go_wp2_with fail
        refine HC.out.mono ?_
        rintro e w1 ⟨rfl, hb1⟩
        have hb2 := bl_trans hb0 hb1
        rcases Bool.eq_false_or_eq_true (l.any (wide M)) with q | q
        · have HQ := Lib.hid q
          rw [q]
          clear q
          go_wp2_with fail
          go_ret
          exact ⟨by rw [he.out, HQ.out]; rfl, hb2⟩
        · have HQ := Lib.hid q
          rw [q]
          clear q
          go_wp2_with fail
          go_ret
          exact ⟨by rw [he.out, HQ.out]; rfl, hb2⟩
end Go.Proofs.YtnabbmdhhddfbaaDoor
