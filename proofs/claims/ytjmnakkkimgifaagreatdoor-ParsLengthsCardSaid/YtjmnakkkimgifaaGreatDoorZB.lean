/- Sets as numbers of 64 bits; slices.IndexFunc and ContainsFunc of such numbers; innov.Check at every table. The document's Check of a table; compatible sets; the first conflict of a table, in the program and in the document. The document's tree: letters, names. The document's tree: Check. tree.Leaves; phylo.check. The document's tree: the way from the root. The document's tree: the deepest common node. The document's tree: the set of a node. The document's tree: common nodes and ways, plain. The document's tree: ways are increasing; the node above, plain. The sets of a tree's nodes: plain. The place of a leaf, plain. The set of a node: its leaves are those whose way it lies on. The sets of a tree's nodes fit one another (plain). What an innovation costs on a tree (plain). Binary trees without numbers, and how they are numbered (plain). -/
import Derived.Test.YtjmnakkkimgifaaGreatDoorZA
namespace Go.Proofs.YtjmnakkkimgifaaGreatDoor
open Go.RowKit Go.Shelf
theorem w64 (x : Nat) (h : x < 18446744073709551616) : IntKind.u64.wrap (x : Int) = (x : Int) := by
  rw [IntKind.wrap_u64]; omega
theorem bv64 {x : Nat} (h : x < 18446744073709551616) : (BitVec.ofInt 64 (x : Int)).toNat = x := by
  rw [BitVec.ofInt_natCast, BitVec.toNat_ofNat]; exact Nat.mod_eq_of_lt h
theorem and_lt {x y : Nat} (h : x < 18446744073709551616) : x &&& y < 18446744073709551616 := Nat.lt_of_le_of_lt Nat.and_le_left h
theorem or_lt {x y : Nat} (h : x < 18446744073709551616) (k : y < 18446744073709551616) : x ||| y < 18446744073709551616 := Nat.or_lt_two_pow (n := 64) h k
theorem bits_and {x y : Nat} (hx : x < 18446744073709551616) (hy : y < 18446744073709551616) : bits .and .u64 (x : Int) (y : Int) = ((x &&& y : Nat) : Int) := by
  show IntKind.u64.wrap ((BitVec.ofInt 64 (x : Int) &&& BitVec.ofInt 64 (y : Int)).toNat : Int) = _
  rw [BitVec.toNat_and, bv64 hx, bv64 hy, w64 _ (and_lt hx)]
theorem bits_or {x y : Nat} (hx : x < 18446744073709551616) (hy : y < 18446744073709551616) : bits .or .u64 (x : Int) (y : Int) = ((x ||| y : Nat) : Int) := by
  show IntKind.u64.wrap ((BitVec.ofInt 64 (x : Int) ||| BitVec.ofInt 64 (y : Int)).toNat : Int) = _
  rw [BitVec.toNat_or, bv64 hx, bv64 hy, w64 _ (or_lt hx hy)]
/-- What of x lies above its low L bits. -/
def hiB (x L : Nat) : Nat := x &&& (18446744073709551615 - (2 ^ L - 1))
theorem hiB_zero {x L : Nat} (hx : x < 18446744073709551616) (hL : L ≤ 32) : hiB x L = 0 ↔ x < 2 ^ L := by
  have hp : 2 ^ L ≤ 4294967296 := Nat.pow_le_pow_right (n := 2) (by omega) (show L ≤ 32 by omega)
  have hp0 : 0 < 2 ^ L := Nat.two_pow_pos L
  have e : ∀ i, (hiB x L).testBit i = (x.testBit i && (decide (i < 64) && !(decide (i < L)))) := fun i => by
    unfold hiB
    rw [Nat.testBit_and, show 18446744073709551615 - (2 ^ L - 1) = 2 ^ 64 - ((2 ^ L - 1) + 1) by omega, Nat.testBit_two_pow_sub_succ (by omega), Nat.testBit_two_pow_sub_one]
  constructor
  · intro h
    refine Nat.lt_pow_two_of_testBit x fun i hi => ?_
    have h1 := e i
    rw [h, Nat.zero_testBit] at h1
    by_cases h64 : i < 64
    · simp [h64, show ¬ i < L by omega] at h1
      exact h1
    · exact Nat.testBit_lt_two_pow (Nat.lt_of_lt_of_le hx (Nat.pow_le_pow_right (n := 2) (by omega) (show 64 ≤ i by omega)))
  · intro h
    apply Nat.eq_of_testBit_eq
    intro i
    rw [e, Nat.zero_testBit]
    by_cases hi : i < L
    · simp [hi]
    · rw [Nat.testBit_lt_two_pow (Nat.lt_of_lt_of_le h (Nat.pow_le_pow_right (n := 2) (by omega) (show L ≤ i by omega)))]
      rfl
theorem bits_hi {x L : Nat} (hx : x < 18446744073709551616) (hL : L ≤ 32) : bits .andNot .u64 (x : Int) ((2 ^ L - 1 : Nat) : Int) = (hiB x L : Int) := by
  have hp : 2 ^ L ≤ 4294967296 := Nat.pow_le_pow_right (n := 2) (by omega) (show L ≤ 32 by omega)
  show IntKind.u64.wrap ((BitVec.ofInt 64 (x : Int) &&& ~~~ BitVec.ofInt 64 ((2 ^ L - 1 : Nat) : Int)).toNat : Int) = _
  rw [BitVec.toNat_and, BitVec.toNat_not, bv64 hx, bv64 (by omega)]
  exact w64 _ (and_lt hx)
theorem hiB_lt {x L : Nat} (hx : x < 18446744073709551616) : hiB x L < 18446744073709551616 := and_lt hx
theorem wrap_all {L : Nat} (hL : L ≤ 32) : IntKind.u64.wrap (IntKind.u64.wrap (2 ^ L) - 1) = ((2 ^ L - 1 : Nat) : Int) := by
  have hp : 2 ^ L ≤ 4294967296 := Nat.pow_le_pow_right (n := 2) (by omega) (show L ≤ 32 by omega)
  have hp0 : 0 < 2 ^ L := Nat.two_pow_pos L
  have e : ((2 : Int) ^ L) = ((2 ^ L : Nat) : Int) := by simp
  rw [e, w64 _ (by omega), show ((2 ^ L : Nat) : Int) - 1 = ((2 ^ L - 1 : Nat) : Int) by omega, w64 _ (by omega)]
set_option maxHeartbeats 1000000 in
theorem all_any (L : Nat) (a : Option Addr) (n c : Nat) (w : World) (hL : L ≤ 32) :
    Calls Tryz.prog 79 #[.agg #[.int .i64 L, .slice a n c]] w fun e w' => e = .returned (.int .u64 ((2 ^ L - 1 : Nat) : Int)) ∧ Below w.heap.size w w' := by
  have hw := Lib.hid (wrap_all hL)
  go_enter Tryz.func79, Tryz.ntmps79
  go_wp2_with fail
  go_ret
  exact ⟨ret_i hw.out, bl_alloc (Below.refl _ _) _⟩
set_option maxHeartbeats 1000000 in
theorem chk1_any (x L B : Nat) (a : Option Addr) (n c : Nat) (w : World) (hx : x < 18446744073709551616) (hL : L ≤ 32) (hB : Blk w B #[.int .i64 L, .slice a n c] 24) :
    Calls Tryz.prog 78 #[.int .u64 x, .pointer (some ⟨B, 0, none⟩)] w fun e w' => e = .returned (.bool (!decide (x < 2 ^ L))) ∧ Below w.heap.size w w' := by
  have c0 := hB.cell 0
  have c1 := hB.cell 1
  have e0 : w.cell? ⟨B, 0, none⟩ = some (.int .i64 L) := c0
  have e1 : w.cell? ⟨B, 1, none⟩ = some (.slice a n c) := c1
  have HZ := Lib.hid (hiB_zero hx hL)
  have HB := Lib.hid (bits_hi hx hL)
  clear c0 c1
  obtain ⟨A, hA⟩ : ∃ A, 2 ^ L - 1 = A := ⟨_, rfl⟩
  rw [hA] at HB
  have HAA := Lib.hid (fun w' => all_any L a n c w' hL)
  rw [hA] at HAA
  clear hA
  obtain ⟨h, hh⟩ : ∃ h, hiB x L = h := ⟨_, rfl⟩
  rw [hh] at HZ HB
  have HH := Lib.hid hh
  clear hh
  go_enter Tryz.func78, Tryz.ntmps78
  go_wp2_with fail
  refine (HAA.out _).mono ?_
  rintro e w1 ⟨rfl, hb1⟩
  have hb := HB.out
  by_cases hz : h = 0
  · have t : ((h : Int) == 0) = true := by simp [hz]
    have HT : Hid (x < 2 ^ L) := HZ.out.1 hz
    have HH0 := Lib.hid hz
    clear hz
    go_wp2_with fail
    go_ret
    exact ⟨ret_b (by rw [decide_eq_true HT.out]; simp [HH0.out]), hb1⟩
  · have t : ((h : Int) == 0) = false := by simp [hz]
    have HT : Hid (¬ x < 2 ^ L) := fun h2 => hz (HZ.out.2 h2)
    have HH0 := Lib.hid hz
    clear hz
    go_wp2_with fail
    go_ret
    exact ⟨ret_b (by rw [decide_eq_false HT.out]; simp [HH0.out]), hb1⟩
theorem vA_get {l : List Nat} {k : Nat} (h : k < l.length) : vA l k = l[k] := by simp [vA, h]
set_option maxRecDepth 100000 in
set_option maxHeartbeats 1000000 in
theorem indexF_any (g : Nat) (hen : Enters Tryz.prog g) (env : Array Value) (p : Nat → Bool) (a : Option Addr) (N c : Nat) (l : List Nat) (w : World) (hl : l.length = N) (hN : N ≤ 1152921504606846976) (hA : Rd w a (fl encV l))
    (hp : ∀ i, i < N → ∀ W, Below w.heap.size w W → Calls Tryz.prog g (#[.int .u64 (vA l i)] ++ env) W fun e w' => e = .returned (.bool (p (vA l i))) ∧ Below W.heap.size W w') :
    Calls Tryz.prog 103 #[.slice a N c, .func (.func g) #[] env] w fun e w' => e = .returned (.int .i64 (idxF p l)) ∧ Below w.heap.size w w' := by
  have HL := Lib.hid hl
  have HA := Lib.hid hA
  have HP := Lib.hid hp
  clear hl hA hp
  have hbz := Below.refl w.heap.size w
  go_enter Tryz.func103, Tryz.ntmps103
  go_wp2_with fail
  go_loopw [8, 5] (fun x _ wr => ∃ k : Nat, k ≤ N ∧ x = .int .i64 k ∧ Hid (NoneBefore p l k) ∧ Below w.heap.size w wr) (fun x _ _ => N - (intOf x).toNat)
  case atStart => exact ⟨0, by omega, rfl, NoneBefore.zero _ _, hbz⟩
  case round =>
    obtain ⟨k, hk, rfl, hnb, hbl⟩ := hrel
    clear hbz
    by_cases hlt : k < N
    · obtain ⟨b, o, rfl, hb, hc⟩ := rdV HA.out (by rw [HL.out]; omega)
      have hkl : k < l.length := by rw [HL.out]; exact hlt
      have G := (hbl.cell (p := ⟨b, o + k, none⟩) hb).trans (hc k hkl)
      have HC := Lib.hid (HP.out k hlt wr hbl)
      have HY : Hid (p (vA l k) = true → idxF p l = k) := fun e => hnb.out.found hkl (by rw [← vA_get hkl]; exact e)
      have HNX : Hid (p (vA l k) = false → NoneBefore p l (k + 1)) := fun e => hnb.out.next hkl (by rw [← vA_get hkl]; exact e)
      clear hc hkl
      generalize vA l k = z at *
      have hcall := fun args W => hen args W
      go_wp2_with fail
      refine HC.out.mono ?_
      rintro e w1 ⟨rfl, hb1⟩
      clear hcall
      have hbl1 := hbl.trans (hb1.mono hbl.size)
      rcases Bool.eq_false_or_eq_true (p z) with q | q
      · have hy := Lib.hid (HY.out q)
        rw [q]
        clear q HY HNX
        go_wp2_with fail
        go_ret
        exact ⟨by rw [hy.out]; rfl, hbl1⟩
      · have hy := Lib.hid (HNX.out q)
        rw [q]
        clear q HY HNX
        go_wp2_with fail
        go_roundw
        case rel => exact ⟨k + 1, by omega, by go_num, hy, hbl1⟩
        case measure => simp [intOf]; omega
    · have hy : Hid (idxF p l = -1) := NoneBefore.none hnb.out (by rw [HL.out]; omega)
      go_wp2_with fail
      go_ret
      exact ⟨by rw [hy.out]; rfl, hbl⟩
set_option maxHeartbeats 1000000 in
theorem containsF_any (g : Nat) (hen : Enters Tryz.prog g) (env : Array Value) (p : Nat → Bool) (a : Option Addr) (N c : Nat) (l : List Nat) (w : World) (hl : l.length = N) (hN : N ≤ 1152921504606846976) (hA : Rd w a (fl encV l))
    (hp : ∀ i, i < N → ∀ W, Below w.heap.size w W → Calls Tryz.prog g (#[.int .u64 (vA l i)] ++ env) W fun e w' => e = .returned (.bool (p (vA l i))) ∧ Below W.heap.size W w') :
    Calls Tryz.prog 77 #[.slice a N c, .func (.func g) #[] env] w fun e w' => e = .returned (.bool (l.any p)) ∧ Below w.heap.size w w' := by
  have H := Lib.hid (indexF_any g hen env p a N c l w hl hN hA hp)
  have hb : Hid (decide (0 ≤ idxF p l) = l.any p) := idxF_ge _ _
  clear hl hA hp hen
  go_enter Tryz.func77, Tryz.ntmps77
  go_wp2_with fail
  refine H.out.mono ?_
  rintro e w' ⟨rfl, hb1⟩
  generalize idxF p l = z at *
  go_wp2_with fail
  go_ret
  exact ⟨by rw [← hb.out]; rfl, hb1⟩
/-- Numbers of 64 bits. -/
def FitV (l : List Nat) : Prop := ∀ i, i < l.length → vA l i < 18446744073709551616
/-- A set with a language that is none of the first L. -/
def wide (L : Nat) (x : Nat) : Bool := !decide (x < 2 ^ L)
/-- Why a table is not valid. -/
def chkT (L : Int) (has : List Nat) : Int := if L < 0 ∨ 32 < L then 3 else if 64 < has.length then 12 else if has.any (wide L.toNat) then 2 else 0
set_option maxRecDepth 100000 in
set_option maxHeartbeats 1000000 in
theorem tchk_any (L : Int) (a : Option Addr) (N c : Nat) (l : List Nat) (w : World) (hl : l.length = N) (hN : N ≤ 1152921504606846976) (hA : Rd w a (fl encV l)) (hF : FitV l) :
    Calls Tryz.prog 52 #[.agg #[.int .i64 L, .slice a N c]] w fun e w' => e = .returned (.int .i64 (chkT L l)) ∧ Below w.heap.size w w' := by
  have hb0 := bl_alloc (Below.refl _ w) (.cells #[.int .i64 L, .slice a N c] 24)
  have HL := Lib.hid hl
  have HA := Lib.hid hA
  have HF := Lib.hid hF
  clear hl hA hF
  by_cases h1 : L < 0
  · have he : Hid (chkT L l = 3) := if_pos (.inl h1)
    have d1 : decide (L < 0) = true := by simpa using h1
    go_enter Tryz.func52, Tryz.ntmps52
    go_wp2_with fail
    go_ret
    exact ⟨by rw [he.out]; rfl, hb0⟩
  · have d1 : decide (L < 0) = false := by simpa using h1
    by_cases h2 : 32 < L
    · have he : Hid (chkT L l = 3) := if_pos (.inr h2)
      have d2 : decide (32 < L) = true := by simpa using h2
      go_enter Tryz.func52, Tryz.ntmps52
      go_wp2_with fail
      go_ret
      exact ⟨by rw [he.out]; rfl, hb0⟩
    · have d2 : decide (32 < L) = false := by simpa using h2
      by_cases h3 : 64 < N
      · have he : Hid (chkT L l = 12) := by show _ = _; unfold chkT; rw [if_neg (by omega), if_pos (by rw [HL.out]; exact h3)]
        have d3 : decide (64 < N) = true := by simpa using h3
        go_enter Tryz.func52, Tryz.ntmps52
        go_wp2_with fail
        go_ret
        exact ⟨by rw [he.out]; rfl, hb0⟩
      · have d3 : decide (64 < N) = false := by simpa using h3
        obtain ⟨M, rfl⟩ : ∃ M : Nat, L = M := ⟨L.toNat, by omega⟩
        have he : Hid (chkT (M : Int) l = if l.any (wide M) then 2 else 0) := by show _ = _; unfold chkT; rw [if_neg (by omega), if_neg (by rw [HL.out]; exact h3), Int.toNat_natCast]
        have hB := Blk.new w #[.int .i64 M, .slice a N c] 24
        have HC := Lib.hid (containsF_any 78 (enters_of Tryz.func78 (by kernel_rfl) rfl) #[.pointer (some ⟨w.heap.size, 0, none⟩)] (wide M) a N c l (w.alloc (.cells #[.int .i64 M, .slice a N c] 24)) HL.out hN (HA.out.bl hb0) (fun i hi W hW => chk1_any (vA l i) M w.heap.size a N c W (HF.out i (by rw [HL.out]; exact hi)) (by omega) (hB.below hW)))
        clear hB
        go_enter Tryz.func52, Tryz.ntmps52
        go_wp2_with fail
        refine HC.out.mono ?_
        rintro e w1 ⟨rfl, hb1⟩
        have hb2 := bl_trans hb0 hb1
        rcases Bool.eq_false_or_eq_true (l.any (wide M)) with q | q
        · have HQ := Lib.hid q
          rw [q]
          clear q
          go_wp2_with fail
          go_ret
          exact ⟨by rw [he.out, HQ.out]; rfl, hb2⟩
        · have HQ := Lib.hid q
          rw [q]
          clear q
          go_wp2_with fail
          go_ret
          exact ⟨by rw [he.out, HQ.out]; rfl, hb2⟩
end Go.Proofs.YtjmnakkkimgifaaGreatDoor
namespace Go.Proofs.YtjmnakkkimgifaaGreatDoor
open Go.RowKit Go.Shelf
/-- Compatible sets. -/
def fitB (x y : Nat) : Bool := decide (x &&& y = 0) || decide (x &&& y = x) || decide (x &&& y = y)
theorem in_bits {x k : Nat} (hx : x < 18446744073709551616) : bits .and .u64 ((x : Int) / 2 ^ k) 1 = ((x / 2 ^ k % 2 : Nat) : Int) := by
  have e : ((x : Int) / 2 ^ k) = ((x / 2 ^ k : Nat) : Int) := by simp
  rw [e, show (1 : Int) = ((1 : Nat) : Int) from rfl, bits_and (Nat.lt_of_le_of_lt (Nat.div_le_self _ _) hx) (by omega), Nat.and_one_is_mod]
/-- A set is wide if it has a language from L to 63. -/
theorem wide_bit {x L : Nat} (hx : x < 18446744073709551616) : wide L x = false ↔ ∀ j, L ≤ j → j < 64 → x.testBit j = false := by
  unfold wide
  simp only [Bool.not_eq_false', decide_eq_true_eq]
  constructor
  · intro h j h1 _
    exact Nat.testBit_lt_two_pow (Nat.lt_of_lt_of_le h (Nat.pow_le_pow_right (n := 2) (by omega) h1))
  · intro h
    refine Nat.lt_pow_two_of_testBit x fun j hj => ?_
    by_cases h64 : j < 64
    · exact h j hj h64
    · exact Nat.testBit_lt_two_pow (Nat.lt_of_lt_of_le hx (Nat.pow_le_pow_right (n := 2) (by omega) (show 64 ≤ j by omega)))
theorem any_take {l : List Nat} {p : Nat → Bool} {k : Nat} (h : l.length ≤ k) (hn : NoneBefore p l k) : l.any p = false := hn.any h
theorem any_at {l : List Nat} {p : Nat → Bool} {k : Nat} (h : k < l.length) (hp : p (vA l k) = true) : l.any p = true := by
  rw [List.any_eq_true]
  exact ⟨l[k], List.getElem_mem h, by rw [← vA_get h]; exact hp⟩
end Go.Proofs.YtjmnakkkimgifaaGreatDoor
namespace Go.Proofs.YtjmnakkkimgifaaGreatDoor
open Go Go.RowKit Go.Shelf
set_option maxHeartbeats 4000000 in
theorem rletter_any (n : Int) (w : World) (h0 : 0 ≤ n) (h1 : n ≤ 255) : Calls Tryz.prog 84 #[.int .u8 n] w fun e w' => e = .returned (.bool (ltrI n)) ∧ w' = w := by
  obtain ⟨r, hr⟩ : ∃ r, r = ltrI n := ⟨_, rfl⟩
  have HR : Hid (r = decide (97 ≤ n ∧ n ≤ 122 ∨ 65 ≤ n ∧ n ≤ 90 ∨ 48 ≤ n ∧ n ≤ 57 ∨ n = 45)) := hr
  rw [← hr]
  clear hr
  by_cases H : 97 ≤ n ∧ n ≤ 122 ∨ 65 ≤ n ∧ n ≤ 90 ∨ 48 ≤ n ∧ n ≤ 57 ∨ n = 45
  · have HV : Hid (r = true) := by show _ = _; rw [HR.out]; exact decide_eq_true H
    by_cases a7 : n = 45
    · have b1 : ¬ 97 ≤ n := by omega
      have b2 : ¬ 65 ≤ n := by omega
      have b3 : ¬ 48 ≤ n := by omega
      have b4 : (n == 45) = true := by simp [a7]
      first
        | omega
        | (clear a7 H
           go_enter Tryz.func84, Tryz.ntmps84
           go_wp2
           go_ret
           exact ⟨ret_b (by rw [HV.out]; try simp [*]), rfl⟩)
    · have b4 : (n == 45) = false := by simp [a7]
      by_cases a1 : 97 ≤ n <;> by_cases a2 : n ≤ 122 <;> by_cases a3 : 65 ≤ n <;> by_cases a4 : n ≤ 90 <;> by_cases a5 : 48 ≤ n <;> by_cases a6 : n ≤ 57
      all_goals first
        | omega
        | (clear a7 H
           go_enter Tryz.func84, Tryz.ntmps84
           go_wp2
           go_ret
           exact ⟨ret_b (by rw [HV.out]; try simp [*]), rfl⟩)
  · have HV : Hid (r = false) := by show _ = _; rw [HR.out]; exact decide_eq_false H
    by_cases a7 : n = 45
    · have b1 : ¬ 97 ≤ n := by omega
      have b2 : ¬ 65 ≤ n := by omega
      have b3 : ¬ 48 ≤ n := by omega
      have b4 : (n == 45) = true := by simp [a7]
      first
        | omega
        | (clear a7 H
           go_enter Tryz.func84, Tryz.ntmps84
           go_wp2
           go_ret
           exact ⟨ret_b (by rw [HV.out]; try simp [*]), rfl⟩)
    · have b4 : (n == 45) = false := by simp [a7]
      by_cases a1 : 97 ≤ n <;> by_cases a2 : n ≤ 122 <;> by_cases a3 : 65 ≤ n <;> by_cases a4 : n ≤ 90 <;> by_cases a5 : 48 ≤ n <;> by_cases a6 : n ≤ 57
      all_goals first
        | omega
        | (clear a7 H
           go_enter Tryz.func84, Tryz.ntmps84
           go_wp2
           go_ret
           exact ⟨ret_b (by rw [HV.out]; try simp [*]), rfl⟩)
set_option maxHeartbeats 1000000 in
theorem rnamed_any (s : ByteArray) (w : World) (hs : s.size ≤ 9223372036854775807) : Calls Tryz.prog 62 #[.string s] w fun e w' => e = .returned (.bool (nmB s)) ∧ w' = w := by
  go_enter Tryz.func62, Tryz.ntmps62
  go_wp2_with fail
  go_loopw [3] (fun x wr => ∃ k : Nat, k ≤ s.size ∧ x = .int .i64 k ∧ Hid ((s.data.toList.take k).all (fun c => ltrI c.toNat) = true) ∧ wr = w) (fun x _ => s.size - (intOf x).toNat)
  case atStart => exact ⟨0, by omega, rfl, rfl, rfl⟩
  case round =>
    obtain ⟨k, hk, rfl, hal, rfl⟩ := hrel
    by_cases hlt : k < s.size
    · have hts : s.data.toList.take (k + 1) = s.data.toList.take k ++ [s[k]] := by
        rw [List.take_succ_eq_append_getElem (by simpa using hlt)]; rfl
      have HNX : Hid ((s.data.toList.take (k + 1)).all (fun c => ltrI c.toNat) = ((s.data.toList.take k).all (fun c => ltrI c.toNat) && ltrI s[k].toNat)) := by
        show _ = _
        rw [hts, List.all_append]; simp
      have HNO : Hid (ltrI s[k].toNat = false → nmB s = false) := fun h => by
        have : s.data.toList.all (fun c => ltrI c.toNat) = false := by
          rw [List.all_eq_false]
          exact ⟨s[k], by exact Array.mem_toList_iff.2 (Array.getElem_mem _), by rw [h]; simp⟩
        rw [nmB, this]; rfl
      clear hts
      have hc0 : (0 : Int) ≤ (s[k].toNat : Int) := by omega
      have hc1 : (s[k].toNat : Int) ≤ 255 := by have := s[k].toNat_lt; omega
      go_wp2_with fail
      refine (rletter_any _ _ hc0 hc1).mono ?_
      rintro e w' ⟨rfl, rfl⟩
      rcases Bool.eq_false_or_eq_true (ltrI s[k].toNat) with hp | hp
      · have HP := Lib.hid hp
        rw [hp]
        clear hp
        go_wp2_with fail
        go_roundw
        case rel => exact ⟨k + 1, by omega, by go_num, by show _ = _; rw [HNX.out, hal.out, HP.out]; rfl, by trivial⟩
        case measure => simp [intOf]; omega
      · have HP := Lib.hid hp
        rw [hp]
        clear hp
        go_wp2_with fail
        go_ret
        exact ⟨ret_b (HNO.out HP.out).symm, rfl⟩
    · have e : k = s.size := by omega
      have hfin : Hid (nmB s = (decide (0 < s.size) && decide (s.size ≤ 24))) := by
        have h1 := hal.out
        rw [e, List.take_of_length_le (by simp)] at h1
        show _ = _
        rw [nmB, h1]; rfl
      clear hal
      by_cases b1 : 0 < s.size
      · have b1' : decide (0 < s.size) = true := by simpa using b1
        go_wp2_with fail
        go_ret
        exact ⟨ret_b (by rw [hfin.out, b1']; simp; omega), rfl⟩
      · have b1' : decide (0 < s.size) = false := by simpa using b1
        go_wp2_with fail
        go_ret
        exact ⟨ret_b (by rw [hfin.out, b1']; simp), rfl⟩

end Go.Proofs.YtjmnakkkimgifaaGreatDoor
namespace Go.Proofs.YtjmnakkkimgifaaGreatDoor
open Go Go.RowKit Go.Shelf
theorem chkE_bad {t : List Nd} (h : ¬ TreeOk t) : chkE t = 16 := if_neg h
theorem chkE_good {t : List Nd} (h : TreeOk t) : chkE t = 0 := if_pos h
theorem seenB_true {t : List Nd} {v u : Nat} (hu : u < v) (e : nS t u = nS t v) : seenB t v (nS t v) = true := by
  unfold seenB
  rw [List.any_eq_true]
  exact ⟨u, List.mem_range.2 hu, by simp [e]⟩
theorem seenB_false {t : List Nd} {v : Nat} (h : ∀ u, u < v → nS t u ≠ nS t v) : seenB t v (nS t v) = false := by
  unfold seenB
  rw [List.any_eq_false]
  intro u hu
  simp [h u (List.mem_range.1 hu)]
set_option maxRecDepth 100000 in
set_option maxHeartbeats 2000000 in
theorem rcheck_any (a : Option Addr) (n c : Nat) (t : List Nd) (w : World) (hn : t.length = n) (hN : n ≤ 1152921504606846976) (hA : Rd w a (fl encNd t)) (hS : ∀ v, v < n → (nS t v).size ≤ 9223372036854775807) :
    Calls Tryz.prog 40 #[.slice a n c] w fun e w' => e = .returned (.int .i64 (chkE t)) ∧ ∃ m, w' = w.drewN m := by
  have HN := Lib.hid hn
  have HA := Lib.hid hA
  have HS := Lib.hid hS
  have HBD : Hid (∀ v, v < n → ¬ NodeOk t v → chkE t = 16) := fun v hv h => chkE_bad fun h2 => h (h2.2.2 v (by rw [hn]; exact hv))
  clear hn hA hS
  by_cases h1 : 1 ≤ n
  · by_cases h63 : n ≤ 63
    · obtain ⟨b, o, rfl, hb, hc⟩ := rdNd HA.out (by rw [HN.out]; omega)
      obtain ⟨G1, G2⟩ := hc 0 (by rw [HN.out]; omega)
      rw [Nat.zero_mul, Nat.add_zero] at G1
      have d1 : decide ((n : Int) < 1) = false := decide_eq_false (by omega)
      have d2 : decide ((63 : Int) < (n : Int)) = false := decide_eq_false (by omega)
      by_cases h0 : nP t 0 = -1
      · have H0 := Lib.hid h0
        rw [h0] at G1
        have HC := Lib.hid hc
        clear h0 hc G2
        go_enter Tryz.func40, Tryz.ntmps40
        go_wp2_with fail
        clear G1
        go_loopw [3] (fun x wr => ∃ v : Nat, v ≤ n ∧ x = .int .i64 v ∧ Hid (∀ u, u < v → NodeOk t u) ∧ ∃ m, wr = w.drewN m) (fun x _ => n - (intOf x).toNat)
        case atStart => exact ⟨0, by omega, rfl, (fun u hu => by omega), 0, rfl⟩
        case round =>
          obtain ⟨v, hv, rfl, hok, m, rfl⟩ := hrel
          by_cases hlt : v < n
          · obtain ⟨G1, G2⟩ := HC.out v (by rw [HN.out]; exact hlt)
            have hsz := HS.out v hlt
            have HNK : Hid (∀ P : Prop, nP t v < v → (if v = 0 then (-1 : Int) else 0) ≤ nP t v → nmB (nS t v) = true → (∀ u, u < v → nS t u ≠ nS t v) → NodeOk t v) := fun _ a1 a2 a3 a4 => ⟨a1, a2, a3, seenB_false a4⟩
            have HB1 : Hid (0 < v → (nP t v < 0 ∨ (v : Int) ≤ nP t v) → chkE t = 16) := fun q1 q2 => HBD.out v hlt fun hk => by
              have k1 := hk.1
              have k2 := hk.2.1
              rw [if_neg (by omega)] at k2
              omega
            have HB2 : Hid (nmB (nS t v) = false → chkE t = 16) := fun q => HBD.out v hlt fun hk => by rw [hk.2.2.1] at q; cases q
            have HB3 : Hid (∀ u, u < v → nS t u = nS t v → chkE t = 16) := fun u hu e => HBD.out v hlt fun hk => by
              have := hk.2.2.2
              rw [seenB_true hu e] at this; cases this
            have HP0 : Hid (v = 0 → nP t v = -1) := fun e => by rw [e]; exact H0.out
            obtain ⟨s, hs⟩ : ∃ x, nS t v = x := ⟨_, rfl⟩
            obtain ⟨p, hp⟩ : ∃ x, nP t v = x := ⟨_, rfl⟩
            rw [hs] at HNK HB2 HB3 G2 hsz
            rw [hp] at HNK HB1 HP0 G1
            have HNM := Lib.hid (fun W => rnamed_any s W hsz)
            have HPV : Hid (¬ (0 < v ∧ (p < 0 ∨ (v : Int) ≤ p)) → p < v ∧ (if v = 0 then (-1 : Int) else 0) ≤ p) := fun h => by
              by_cases e : v = 0
              · have := HP0.out e
                rw [if_pos e]; omega
              · rw [if_neg e]; omega
            have HSV := Lib.hid hs
            clear hs hp hsz
            by_cases q : 0 < v ∧ (p < 0 ∨ (v : Int) ≤ p)
            · have HR := Lib.hid (HB1.out q.1 q.2)
              obtain ⟨q1, q2⟩ := q
              have t1 : decide (0 < (v : Int)) = true := decide_eq_true (by omega)
              by_cases q3 : p < 0
              · have t2 : decide (p < 0) = true := decide_eq_true q3
                go_wp2_with fail
                go_ret
                exact ⟨ret_i HR.out.symm, m, rfl⟩
              · have t2 : decide (p < 0) = false := decide_eq_false q3
                have t3 : decide ((v : Int) ≤ p) = true := decide_eq_true (by omega)
                go_wp2_with fail
                go_ret
                exact ⟨ret_i HR.out.symm, m, rfl⟩
            · have HPO := Lib.hid (HPV.out q)
              by_cases hv0 : v = 0
              · have t1 : decide (0 < (v : Int)) = false := decide_eq_false (by omega)
                have t1n : decide (0 < v) = false := decide_eq_false (by omega)
                clear hv0 q
                go_wp2_with fail
                refine (HNM.out _).mono ?_
                rintro e w1 ⟨rfl, rfl⟩
                obtain ⟨nb, hnb⟩ : ∃ x, nmB s = x := ⟨_, rfl⟩
                rw [hnb]
                cases nb with
                | false =>
                  have HR := Lib.hid (HB2.out hnb)
                  clear hnb
                  go_wp2_with fail
                  go_ret
                  exact ⟨ret_i HR.out.symm, m, rfl⟩
                | true =>
                  have HNB := Lib.hid hnb
                  clear hnb G1
                  go_upto_region 8 with fail
                  go_upto_region 9 with fail
                  go_loopw [4] (fun x wx => ∃ u : Nat, u ≤ v ∧ x = .int .i64 u ∧ Hid (∀ q, q < u → nS t q ≠ s) ∧ ∃ k, wx = w.drewN k) (fun x _ => v - (intOf x).toNat)
                  case atStart => exact ⟨0, by omega, rfl, (fun q hq => by omega), m, rfl⟩
                  case round =>
                    obtain ⟨u, hu, rfl, hne, k, rfl⟩ := hrel
                    by_cases hlu : u < v
                    · obtain ⟨_, G4⟩ := HC.out u (by rw [HN.out]; omega)
                      have HBU := Lib.hid (HB3.out u hlu)
                      have HNX : Hid (nS t u ≠ s → ∀ q, q < u + 1 → nS t q ≠ s) := fun h q hq => by
                        rcases Nat.lt_or_ge q u with h2 | h2
                        · exact hne.out q h2
                        · obtain rfl : q = u := by omega
                          exact h
                      generalize nS t u = r at *
                      by_cases e : r = s
                      · have HR := Lib.hid (HBU.out e)
                        subst e
                        have t9 : (r.toList == r.toList) = true := beq_self_eq_true _
                        go_wp2_with fail
                        go_quiet (fail)
                        go_wp2_with fail
                        go_ret
                        exact ⟨ret_i HR.out.symm, k + nq, by simp⟩
                      · have HNX2 := Lib.hid (HNX.out e)
                        have t9 : (r.toList == s.toList) = false := beq_eq_false_iff_ne.2 fun e2 => e (ba_inj.1 e2)
                        clear e
                        go_wp2_with fail
                        go_quiet (fail)
                        go_wp2_with fail
                        go_roundw
                        case rel => exact ⟨u + 1, by omega, by go_num, HNX2, k + nq, by simp⟩
                        case measure => simp [intOf]; omega
                    · obtain rfl : u = v := by omega
                      have HNO : Hid (NodeOk t u) := HNK.out True HPO.out.1 HPO.out.2 HNB.out hne.out
                      go_wp2_with fail
                      go_roundw
                      case rel => exact ⟨u + 1, by omega, by go_num, (fun q hq => by
                        rcases Nat.lt_or_ge q u with h2 | h2
                        · exact hok.out q h2
                        · obtain rfl : q = u := by omega
                          exact HNO.out), k, rfl⟩
                      case measure => simp [intOf]; omega
              · have t1 : decide (0 < (v : Int)) = true := decide_eq_true (by omega)
                have t2 : decide (p < 0) = false := decide_eq_false (by omega)
                have t3 : decide ((v : Int) ≤ p) = false := decide_eq_false (by omega)
                have t1n : decide (0 < v) = true := decide_eq_true (by omega)
                clear hv0 q
                go_wp2_with fail
                refine (HNM.out _).mono ?_
                rintro e w1 ⟨rfl, rfl⟩
                obtain ⟨nb, hnb⟩ : ∃ x, nmB s = x := ⟨_, rfl⟩
                rw [hnb]
                cases nb with
                | false =>
                  have HR := Lib.hid (HB2.out hnb)
                  clear hnb
                  go_wp2_with fail
                  go_ret
                  exact ⟨ret_i HR.out.symm, m, rfl⟩
                | true =>
                  have HNB := Lib.hid hnb
                  clear hnb G1
                  go_upto_region 8 with fail
                  go_upto_region 9 with fail
                  go_loopw [4] (fun x wx => ∃ u : Nat, u ≤ v ∧ x = .int .i64 u ∧ Hid (∀ q, q < u → nS t q ≠ s) ∧ ∃ k, wx = w.drewN k) (fun x _ => v - (intOf x).toNat)
                  case atStart => exact ⟨0, by omega, rfl, (fun q hq => by omega), m, rfl⟩
                  case round =>
                    obtain ⟨u, hu, rfl, hne, k, rfl⟩ := hrel
                    by_cases hlu : u < v
                    · obtain ⟨_, G4⟩ := HC.out u (by rw [HN.out]; omega)
                      have HBU := Lib.hid (HB3.out u hlu)
                      have HNX : Hid (nS t u ≠ s → ∀ q, q < u + 1 → nS t q ≠ s) := fun h q hq => by
                        rcases Nat.lt_or_ge q u with h2 | h2
                        · exact hne.out q h2
                        · obtain rfl : q = u := by omega
                          exact h
                      generalize nS t u = r at *
                      by_cases e : r = s
                      · have HR := Lib.hid (HBU.out e)
                        subst e
                        have t9 : (r.toList == r.toList) = true := beq_self_eq_true _
                        go_wp2_with fail
                        go_quiet (fail)
                        go_wp2_with fail
                        go_ret
                        exact ⟨ret_i HR.out.symm, k + nq, by simp⟩
                      · have HNX2 := Lib.hid (HNX.out e)
                        have t9 : (r.toList == s.toList) = false := beq_eq_false_iff_ne.2 fun e2 => e (ba_inj.1 e2)
                        clear e
                        go_wp2_with fail
                        go_quiet (fail)
                        go_wp2_with fail
                        go_roundw
                        case rel => exact ⟨u + 1, by omega, by go_num, HNX2, k + nq, by simp⟩
                        case measure => simp [intOf]; omega
                    · obtain rfl : u = v := by omega
                      have HNO : Hid (NodeOk t u) := HNK.out True HPO.out.1 HPO.out.2 HNB.out hne.out
                      go_wp2_with fail
                      go_roundw
                      case rel => exact ⟨u + 1, by omega, by go_num, (fun q hq => by
                        rcases Nat.lt_or_ge q u with h2 | h2
                        · exact hok.out q h2
                        · obtain rfl : q = u := by omega
                          exact HNO.out), k, rfl⟩
                      case measure => simp [intOf]; omega
          · obtain rfl : v = n := by omega
            have HR : Hid (chkE t = 0) := chkE_good ⟨by rw [HN.out]; exact h1, by rw [HN.out]; exact h63, fun u hu => hok.out u (by rw [← HN.out]; exact hu)⟩
            go_wp2_with fail
            go_ret
            exact ⟨ret_i HR.out.symm, m, rfl⟩
      · have HR := Lib.hid (HBD.out 0 (by omega) (fun hk => h0 (by have k1 := hk.1; have k2 := hk.2.1; rw [if_pos rfl] at k2; omega)))
        have t1 : (nP t 0 != -1) = true := by simpa using h0
        have t2 : (nP t 0 == -1) = false := by simpa using h0
        clear hc G2 h0
        generalize nP t 0 = p at *
        go_enter Tryz.func40, Tryz.ntmps40
        go_wp2_with fail
        go_ret
        exact ⟨ret_i HR.out.symm, 0, rfl⟩
    · have HR : Hid (chkE t = 16) := chkE_bad fun h => by have := h.2.1; rw [HN.out] at this; omega
      have d1 : decide ((n : Int) < 1) = false := decide_eq_false (by omega)
      have d2 : decide ((63 : Int) < (n : Int)) = true := decide_eq_true (by omega)
      go_enter Tryz.func40, Tryz.ntmps40
      go_wp2_with fail
      go_ret
      exact ⟨ret_i HR.out.symm, 0, rfl⟩
  · have HR : Hid (chkE t = 16) := chkE_bad fun h => by have := h.1; rw [HN.out] at this; omega
    have d1 : decide ((n : Int) < 1) = true := decide_eq_true (by omega)
    go_enter Tryz.func40, Tryz.ntmps40
    go_wp2_with fail
    go_ret
    exact ⟨ret_i HR.out.symm, 0, rfl⟩
end Go.Proofs.YtjmnakkkimgifaaGreatDoor
namespace Go.Proofs.YtjmnakkkimgifaaGreatDoor
open Go.RowKit
/-- Node v is a leaf. -/
def leafB (t : List Nd) (v : Nat) : Bool := (famL t t.length v).isEmpty
def lvsL (t : List Nd) (k : Nat) : List Nat := (List.range k).filter (leafB t)
theorem lvsL_snoc (t : List Nd) (k : Nat) : lvsL t (k + 1) = lvsL t k ++ (if leafB t k then [k] else []) := by
  unfold lvsL
  rw [List.range_succ, List.filter_append]
  congr 1
  by_cases q : leafB t k <;> simp [q]
theorem lvsL_le (t : List Nd) (k : Nat) : (lvsL t k).length ≤ k := by
  have := List.length_filter_le (leafB t) (List.range k)
  simpa [lvsL] using this
theorem leafB_len (t : List Nd) (v : Nat) : leafB t v = decide ((famL t t.length v).length = 0) := by
  unfold leafB
  cases famL t t.length v <;> rfl
set_option maxRecDepth 100000 in
set_option maxHeartbeats 4000000 in
theorem leaves_any (a : Option Addr) (n c : Nat) (t : List Nd) (w : World) (hn : t.length = n) (hN : n ≤ 64) (hA : Rd w a (fl encNd t)) (hP : ∀ v, 0 < v → v < n → 0 ≤ nP t v ∧ nP t v < n) :
    Calls Tryz.prog 58 #[.slice a n c] w fun e w' => ∃ v, e = .returned v ∧ w'.ownsRow w.heap.size 3 1 v (lvsL t n).length (fl encI (iN (lvsL t n))) ∧ Below w.heap.size w w' := by
  have HC := Lib.hid (families_any a n c t w hn hN hA hP)
  have HLB : Hid (∀ v, leafB t v = decide ((famL t n v).length = 0)) := fun v => by rw [← hn]; exact leafB_len t v
  have hle := fun v => famL_le t n v
  have HLE := Lib.hid hle
  clear hn hA hP hle
  go_enter Tryz.func58, Tryz.ntmps58
  go_wp2_with fail
  refine HC.out.mono ?_
  rintro e w1 ⟨g, rs, rfl, hF, hb⟩
  have HF := Lib.hid hF
  have HB := Lib.hid hb
  clear hF hb HC
  go_wp2_with fail
  go_loopw [9, 3] (fun x v wr => ∃ k : Nat, k ≤ n ∧ x = .int .i64 k ∧ Hid (wr.ownsRow w1.heap.size 3 1 v (lvsL t k).length (fl encI (iN (lvsL t k)))) ∧ Hid (Below w1.heap.size w1 wr)) (fun x _ _ => n - (intOf x).toNat)
  case atStart => exact ⟨0, by omega, rfl, World.ownsRow_nil _ _ _ _, Below.refl _ _⟩
  case round =>
    obtain ⟨k, hk, rfl, how, hbl⟩ := hrel
    by_cases hlt : k < n
    · have G := (HF.out.bl hbl.out).cell hlt
      have hlen := HF.out.len k hlt
      obtain ⟨⟨A, m, cp⟩, hx⟩ : ∃ x, x = rs k := ⟨_, rfl⟩
      rw [← hx] at G hlen
      have G' : wr.cell? ⟨g, k, none⟩ = some (.slice A m cp) := G
      have hm : m = (famL t n k).length := hlen
      have hsn := Lib.hid (lvsL_snoc t k)
      have hlb := HLB.out k
      rw [← hm] at hlb
      have HLB2 := Lib.hid hlb
      have hm64 : m ≤ 64 := by have := HLE.out k; omega
      clear G hlen hx hm hlb
      by_cases h0 : m = 0
      · have hs : Hid (lvsL t (k + 1) = lvsL t k ++ [k]) := by show _ = _; rw [hsn.out, HLB2.out, decide_eq_true h0]; rfl
        have t1 : ((m : Int) == 0) = true := by simp [h0]
        have t2 : decide ((m : Int) = 0) = true := by simp [h0]
        have t3 : decide (m = 0) = true := by simp [h0]
        have t4 : (m == 0) = true := by simp [h0]
        have hl2 := lvsL_le t k
        obtain ⟨q, hq⟩ : ∃ q, q = (lvsL t k).length := ⟨_, rfl⟩
        have HQ := Lib.hid hq
        rw [← hq] at how hl2
        clear h0 hsn HLB2 hq
        have hbase : w1.heap.size ≤ (wr.alloc (.cells #[.int .i64 k] 3)).heap.size := (bl_alloc hbl.out _).size
        go_wp2_with (at_builtin; refine push_I rfl (.tmp 17) (.tmp 19) rfl w1.heap.size u3 (iN (lvsL t k)) q (by rw [iN_len]; exact HQ.out) rfl (how.out.alloc _) _ _ (k : Int) rfl (Blk.new _ _ _) (by omega) hbase ?_; intro g2 cap w8 h81 h82 h83 h84; rw [← iN_snoc, ← hs.out] at h81; have H81 := Lib.hid h81; have H82 := Lib.hid h82; clear h81 h82 h83)
        have hlen2 : Hid ((lvsL t (k + 1)).length = q + 1) := by show _ = _; rw [hs.out, List.length_append, HQ.out]; rfl
        have HB8 := Lib.hid (bl_grown (bl_alloc hbl.out (.cells #[.int .i64 k] 3)) H82.out (fun x e => (how.out.lt x e).1))
        go_roundw
        case rel => exact ⟨k + 1, by omega, by go_num, by rw [hlen2.out]; exact H81, HB8⟩
        case measure => simp [intOf]; omega
      · have hs : Hid (lvsL t (k + 1) = lvsL t k) := by show _ = _; rw [hsn.out, HLB2.out, decide_eq_false h0]; simp
        have t1 : ((m : Int) == 0) = false := by simp; omega
        have t2 : decide ((m : Int) = 0) = false := by simp; omega
        have t3 : decide (m = 0) = false := by simp; omega
        have t4 : (m == 0) = false := by simp; omega
        clear h0 hsn HLB2
        go_wp2_with fail
        go_roundw
        case rel => exact ⟨k + 1, by omega, by go_num, by rw [hs.out]; exact how, hbl⟩
        case measure => simp [intOf]; omega
    · obtain rfl : k = n := by omega
      go_wp2_with fail
      go_ret
      exact ⟨_, rfl, owns_mono how.out HB.out.size, bl_trans HB.out hbl.out⟩
/-- The parents of a valid tree. -/
theorem tree_par {t : List Nd} (h : TreeOk t) : ∀ v, 0 < v → v < t.length → 0 ≤ nP t v ∧ nP t v < v := by
  intro v h0 hv
  obtain ⟨h1, h2, _⟩ := h.2.2 v hv
  rw [if_neg (by omega)] at h2
  exact ⟨h2, h1⟩
theorem chk_tree {t : List Nd} (h : chkE t = 0) : TreeOk t := by
  unfold chkE at h
  by_cases q : TreeOk t
  · exact q
  · rw [if_neg q] at h; omega
theorem chk_tree' {t : List Nd} (h : chkE t ≠ 0) : chkE t = 16 ∧ ¬ TreeOk t := by
  unfold chkE at *
  by_cases q : TreeOk t
  · rw [if_pos q] at h; omega
  · rw [if_neg q]; exact ⟨rfl, q⟩
/-- The leaves that tree.Leaves answers. -/
def lvT (t : List Nd) : List Nat := if chkE t = 0 then lvsL t t.length else []
set_option maxRecDepth 100000 in
set_option maxHeartbeats 4000000 in
theorem Leaves_any (a : Option Addr) (n c : Nat) (t : List Nd) (w : World) (hn : t.length = n) (hN : n ≤ 1152921504606846976) (hA : Rd w a (fl encNd t)) (hS : ∀ v, v < n → (nS t v).size ≤ 9223372036854775807) :
    Calls Tryz.prog 32 #[.slice a n c] w fun e w' => ∃ v, e = .returned (.tuple #[v, .int .i64 (chkE t)]) ∧ w'.ownsRow w.heap.size 3 1 v (lvT t).length (fl encI (iN (lvT t))) ∧ Below w.heap.size w w' := by
  have HC := Lib.hid (check_any a n c t w hn hN hA hS)
  have HN := Lib.hid hn
  have HA := Lib.hid hA
  clear hn hA hS
  go_enter Tryz.func32, Tryz.ntmps32
  go_wp2_with fail
  refine HC.out.mono ?_
  rintro e w1 ⟨rfl, hb⟩
  have HB := Lib.hid hb
  clear hb HC
  by_cases h0 : chkE t = 0
  · have hok := chk_tree h0
    have HL : Hid (lvT t = lvsL t n) := by show _ = _; unfold lvT; rw [if_pos h0, HN.out]
    have HC2 := Lib.hid (leaves_any a n c t w1 HN.out (by have := hok.2.1; have := HN.out; omega) (HA.out.bl HB.out) (fun v h1 h2 => by
      have := tree_par hok v h1 (by rw [HN.out]; exact h2)
      omega))
    have HE := Lib.hid h0
    rw [h0]
    clear hok h0
    go_wp2_with fail
    refine HC2.out.mono ?_
    rintro e w2 ⟨v, rfl, ho, hb2⟩
    obtain ⟨A, cp, rfl, _⟩ := owns_slice ho
    have HO := Lib.hid (owns_mono ho HB.out.size)
    have HB2 := Lib.hid (bl_trans HB.out hb2)
    obtain ⟨q, hq⟩ : ∃ q, q = (lvsL t n).length := ⟨_, rfl⟩
    rw [← hq] at HO ⊢
    have HQ := Lib.hid hq
    clear ho hb2 hq
    go_wp2_with fail
    exact bodyPost_ret (v := .tuple #[.slice A q cp, .int .i64 0]) (by simp [results, Tryz.results32, go_sem]) rfl ⟨_, by rw [HE.out], by rw [HL.out, ← HQ.out]; exact HO.out, HB2.out⟩
  · have HL : Hid (lvT t = []) := by show _ = _; unfold lvT; rw [if_neg h0]
    have h16 := (chk_tree' h0).1
    have HE := Lib.hid h16
    rw [h16]
    clear h0 h16
    go_wp2_with fail
    exact bodyPost_ret (v := .tuple #[.slice none 0 0, .int .i64 16]) (by simp [results, Tryz.results32, go_sem]) rfl ⟨_, by rw [HE.out], by rw [HL.out]; exact World.ownsRow_nil _ _ _ _, HB.out⟩
/-- Why a table or a tree is not valid, or both do not fit each other. -/
def chkP (L : Int) (l : List Nat) (t : List Nd) : Int := if chkT L l ≠ 0 then chkT L l else if chkE t ≠ 0 then chkE t else if ((lvT t).length : Int) = L then 0 else 2
/-- No set of a valid table has a language from L on. -/
theorem chk_lt {L : Nat} {l : List Nat} (h : chkT (L : Int) l = 0) : L ≤ 32 ∧ l.length ≤ 64 ∧ ∀ x, x ∈ l → x < 2 ^ L := by
  unfold chkT at h
  by_cases q : (L : Int) < 0 ∨ 32 < (L : Int)
  · rw [if_pos q] at h; omega
  · rw [if_neg q] at h
    by_cases q2 : 64 < l.length
    · rw [if_pos q2] at h; omega
    · rw [if_neg q2] at h
      by_cases q3 : l.any (wide (L : Int).toNat) = true
      · rw [if_pos q3] at h; omega
      · refine ⟨by omega, by omega, fun x hx => ?_⟩
        rw [Int.toNat_natCast] at q3
        have := List.any_eq_false.1 (Bool.eq_false_iff.2 q3) x hx
        unfold wide at this
        simpa using this
theorem chkP_ok {L : Int} {l : List Nat} {t : List Nd} (h : chkP L l t = 0) : chkT L l = 0 ∧ TreeOk t ∧ ((lvT t).length : Int) = L := by
  unfold chkP at h
  by_cases q : chkT L l = 0
  · rw [if_neg (fun h => h q)] at h
    by_cases q2 : chkE t = 0
    · rw [if_neg (fun h => h q2)] at h
      by_cases q3 : ((lvT t).length : Int) = L
      · exact ⟨q, chk_tree q2, q3⟩
      · rw [if_neg q3] at h; omega
    · rw [if_pos q2] at h; exact absurd h q2
  · rw [if_pos q] at h; exact absurd h q
end Go.Proofs.YtjmnakkkimgifaaGreatDoor
namespace Go.Proofs.YtjmnakkkimgifaaGreatDoor
open Go Go.RowKit Go.Shelf
/-- The way from the root to v, by f steps at most. -/
def pthF (t : List Nd) : Nat → Nat → List Nat
  | 0, _ => [0]
  | f + 1, v => if v = 0 then [0] else pthF t f (nP t v).toNat ++ [v]
theorem pthF_le (t : List Nd) : ∀ f v, (pthF t f v).length ≤ f + 1 := by
  intro f
  induction f with
  | zero => intro v; simp [pthF]
  | succ f ih =>
    intro v
    unfold pthF
    split
    · simp
    · rw [List.length_append]; have := ih (nP t v).toNat; simp; omega
theorem pthF_eq {t : List Nd} {n : Nat} (hP : ∀ v, 0 < v → v < n → 0 ≤ nP t v ∧ nP t v < v) : ∀ f g v, v ≤ f → v ≤ g → v < n → pthF t f v = pthF t g v := by
  intro f
  induction f with
  | zero =>
    intro g v hf hg hv
    obtain rfl : v = 0 := by omega
    cases g <;> simp [pthF]
  | succ f ih =>
    intro g v hf hg hv
    by_cases e : v = 0
    · subst e; cases g <;> simp [pthF]
    · cases g with
      | zero => omega
      | succ g =>
        unfold pthF
        rw [if_neg e, if_neg e]
        have := hP v (by omega) hv
        rw [ih g (nP t v).toNat (by omega) (by omega) (by omega)]
end Go.Proofs.YtjmnakkkimgifaaGreatDoor
namespace Go.Proofs.YtjmnakkkimgifaaGreatDoor
open Go Go.RowKit Go.Shelf
/-- How far two lists agree. -/
def preL : List Nat → List Nat → Nat
  | x :: xs, y :: ys => if x = y then preL xs ys + 1 else 0
  | _, _ => 0
theorem preL_eq : ∀ (x y : List Nat) (k : Nat), k ≤ x.length → k ≤ y.length → (∀ i, i < k → vA x i = vA y i) → (k = x.length ∨ k = y.length ∨ vA x k ≠ vA y k) → preL x y = k := by
  intro x
  induction x with
  | nil => intro y k h1 _ _ _; simp at h1; subst h1; cases y <;> rfl
  | cons a x ih =>
    intro y k h1 h2 h3 h4
    cases y with
    | nil => simp at h2; subst h2; rfl
    | cons b y =>
      unfold preL
      cases k with
      | zero =>
        rcases h4 with h4 | h4 | h4
        · simp at h4
        · simp at h4
        · rw [if_neg (by simpa [vA] using h4)]
      | succ k =>
        have e : a = b := by have := h3 0 (by omega); simpa [vA] using this
        rw [if_pos e, ih y k (by simpa using h1) (by simpa using h2) (fun i hi => by have := h3 (i + 1) (by omega); simpa [vA] using this) (by simpa [vA] using h4)]
theorem pthF_pos (t : List Nd) : ∀ f v, 0 < (pthF t f v).length ∧ vA (pthF t f v) 0 = 0 := by
  intro f
  induction f with
  | zero => intro v; exact ⟨by simp [pthF], rfl⟩
  | succ f ih =>
    intro v
    unfold pthF
    split
    · exact ⟨by simp, rfl⟩
    · obtain ⟨h1, h2⟩ := ih (nP t v).toNat
      refine ⟨by rw [List.length_append]; omega, ?_⟩
      have e : vA (pthF t f (nP t v).toNat ++ [v]) 0 = vA (pthF t f (nP t v).toNat) 0 := by
        simp only [vA, List.getD_eq_getElem?_getD]
        rw [List.getElem?_append_left h1]
      rw [e]; exact h2
/-- The deepest common node. -/
def cmN (t : List Nd) (f u v : Nat) : Nat := vA (pthF t f u) (preL (pthF t f u) (pthF t f v) - 1)
end Go.Proofs.YtjmnakkkimgifaaGreatDoor
namespace Go.Proofs.YtjmnakkkimgifaaGreatDoor
open Go Go.RowKit Go.Shelf
/-- The set of v from the first k leaves. -/
def clF (t : List Nd) (n v : Nat) : Nat → Nat
  | 0 => 0
  | k + 1 => if cmN t n (vA (lvT t) k) v = v then clF t n v k ||| 2 ^ k else clF t n v k
theorem clF_lt (t : List Nd) (n v : Nat) : ∀ k, clF t n v k < 2 ^ k := by
  intro k
  induction k with
  | zero => exact Nat.one_pos
  | succ k ih =>
    have h : 2 ^ k < 2 ^ (k + 1) := Nat.pow_lt_pow_right (by omega) (by omega)
    unfold clF
    split
    · exact Nat.or_lt_two_pow (by omega) h
    · omega
end Go.Proofs.YtjmnakkkimgifaaGreatDoor
namespace Go.Proofs.YtjmnakkkimgifaaGreatDoor
open Go Go.RowKit Go.Shelf
theorem pth_succ {t : List Nd} {n : Nat} (hP : ∀ v, 0 < v → v < n → 0 ≤ nP t v ∧ nP t v < v) {x : Nat} (h0 : 0 < x) (hx : x < n) : pthF t n x = pthF t n (nP t x).toNat ++ [x] := by
  obtain ⟨m, rfl⟩ : ∃ m, n = m + 1 := ⟨n - 1, by omega⟩
  have h := hP x h0 hx
  have e : pthF t (m + 1) x = pthF t m (nP t x).toNat ++ [x] := by rw [pthF, if_neg (by omega)]
  rw [e, pthF_eq hP m (m + 1) (nP t x).toNat (by omega) (by omega) (by omega)]
theorem pth_zero (t : List Nd) (n : Nat) : pthF t n 0 = [0] := by cases n <;> simp [pthF]
theorem pth_last {t : List Nd} {n : Nat} (hP : ∀ v, 0 < v → v < n → 0 ≤ nP t v ∧ nP t v < v) {x : Nat} (hx : x < n) : vA (pthF t n x) ((pthF t n x).length - 1) = x := by
  by_cases e : x = 0
  · subst e; rw [pth_zero]; rfl
  · rw [pth_succ hP (by omega) hx]; simp [vA]
theorem pth_prefix {t : List Nd} {n : Nat} (hP : ∀ v, 0 < v → v < n → 0 ≤ nP t v ∧ nP t v < v) {v : Nat} : ∀ k x, x ≤ k → x < n → v ∈ pthF t n x → pthF t n v <+: pthF t n x := by
  intro k
  induction k with
  | zero =>
    intro x hk hx hm
    obtain rfl : x = 0 := by omega
    rw [pth_zero, List.mem_singleton] at hm
    subst hm
    exact List.prefix_refl _
  | succ k ih =>
    intro x hk hx hm
    by_cases e : x = 0
    · subst e
      rw [pth_zero, List.mem_singleton] at hm
      subst hm
      exact List.prefix_refl _
    · have hp := hP x (by omega) hx
      have he := pth_succ hP (show 0 < x by omega) hx
      rw [he, List.mem_append] at hm
      rcases hm with hm | hm
      · rw [he]
        exact (ih (nP t x).toNat (by omega) (by omega) hm).trans (List.prefix_append _ _)
      · rw [List.mem_singleton] at hm
        subst hm
        exact List.prefix_refl _
theorem preL_le : ∀ x y : List Nat, preL x y ≤ x.length := by
  intro x
  induction x with
  | nil => intro y; cases y <;> exact Nat.le_refl _
  | cons a x ih =>
    intro y
    cases y with
    | nil => exact Nat.zero_le _
    | cons b y =>
      unfold preL
      split
      · have := ih y; simp; omega
      · omega
/-- The deepest common node of x and v is v exactly if v lies on the way to x. -/
theorem cmN_iff {t : List Nd} {n : Nat} (hP : ∀ v, 0 < v → v < n → 0 ≤ nP t v ∧ nP t v < v) {x v : Nat} (hx : x < n) (hv : v < n) : cmN t n x v = v ↔ v ∈ pthF t n x := by
  obtain ⟨h1, _⟩ := pthF_pos t n x
  obtain ⟨h3, _⟩ := pthF_pos t n v
  constructor
  · intro h
    unfold cmN at h
    have hj : preL (pthF t n x) (pthF t n v) - 1 < (pthF t n x).length := by
      have := preL_le (pthF t n x) (pthF t n v); omega
    rw [vA_get hj] at h
    rw [← h]; exact List.getElem_mem hj
  · intro hm
    obtain ⟨s, hs⟩ := pth_prefix hP x x (Nat.le_refl _) hx hm
    have hat : ∀ i, i < (pthF t n v).length → vA (pthF t n x) i = vA (pthF t n v) i := fun i hi => by
      rw [← hs]
      simp only [vA, List.getD_eq_getElem?_getD]
      rw [List.getElem?_append_left hi]
    have hpe : preL (pthF t n x) (pthF t n v) = (pthF t n v).length :=
      preL_eq _ _ _ (by rw [← hs, List.length_append]; omega) (Nat.le_refl _) hat (.inr (.inl rfl))
    unfold cmN
    rw [hpe, hat _ (by omega), pth_last hP hv]
end Go.Proofs.YtjmnakkkimgifaaGreatDoor
namespace Go.Proofs.YtjmnakkkimgifaaGreatDoor
open Go Go.RowKit Go.Shelf
theorem pth_lt {t : List Nd} {n : Nat} (hP : ∀ v, 0 < v → v < n → 0 ≤ nP t v ∧ nP t v < v) : ∀ k x, x ≤ k → x < n → ∀ u, u ∈ pthF t n x → u ≤ x := by
  intro k
  induction k with
  | zero =>
    intro x hk hx u hu
    obtain rfl : x = 0 := by omega
    rw [pth_zero, List.mem_singleton] at hu
    omega
  | succ k ih =>
    intro x hk hx u hu
    by_cases e : x = 0
    · subst e
      rw [pth_zero, List.mem_singleton] at hu
      omega
    · have hp := hP x (by omega) hx
      rw [pth_succ hP (by omega) hx, List.mem_append] at hu
      rcases hu with hu | hu
      · have := ih (nP t x).toNat (by omega) (by omega) u hu; omega
      · rw [List.mem_singleton] at hu; omega
theorem pth_self {t : List Nd} {n : Nat} (hP : ∀ v, 0 < v → v < n → 0 ≤ nP t v ∧ nP t v < v) {x : Nat} (hx : x < n) : x ∈ pthF t n x := by
  by_cases e : x = 0
  · subst e; rw [pth_zero]; simp
  · rw [pth_succ hP (by omega) hx]; simp
/-- Two nodes of one way: the lower one's way has the upper one. -/
theorem pth_chain {t : List Nd} {n : Nat} (hP : ∀ v, 0 < v → v < n → 0 ≤ nP t v ∧ nP t v < v) : ∀ k x, x ≤ k → x < n → ∀ u v, u ∈ pthF t n x → v ∈ pthF t n x → u ≤ v → u ∈ pthF t n v := by
  intro k
  induction k with
  | zero =>
    intro x hk hx u v hu hv _
    obtain rfl : x = 0 := by omega
    rw [pth_zero, List.mem_singleton] at hv
    subst hv; exact hu
  | succ k ih =>
    intro x hk hx u v hu hv huv
    by_cases e : x = 0
    · subst e
      rw [pth_zero, List.mem_singleton] at hv
      subst hv; exact hu
    · have hp := hP x (by omega) hx
      have he := pth_succ hP (show 0 < x by omega) hx
      have hv0 := hv
      have hu0 := hu
      rw [he, List.mem_append] at hv hu
      rcases hv with hv | hv
      · have hvl := pth_lt hP (nP t x).toNat _ (Nat.le_refl _) (by omega) v hv
        rcases hu with hu | hu
        · exact ih (nP t x).toNat (by omega) (by omega) u v hu hv huv
        · rw [List.mem_singleton] at hu; omega
      · rw [List.mem_singleton] at hv
        subst hv; exact hu0
/-- If nothing of the way lies between v and c, v is the node above c. -/
theorem pth_above {t : List Nd} {n : Nat} (hP : ∀ v, 0 < v → v < n → 0 ≤ nP t v ∧ nP t v < v) {x v c : Nat} (hx : x < n) (hv : v ∈ pthF t n x) (hc : c ∈ pthF t n x) (hvc : v < c) (hno : ∀ u, u ∈ pthF t n x → v < u → c ≤ u) : nP t c = v := by
  have hcn : c < n := Nat.lt_of_le_of_lt (pth_lt hP x x (Nat.le_refl _) hx c hc) hx
  have hp := hP c (by omega) hcn
  have h1 := pth_chain hP x x (Nat.le_refl _) hx v c hv hc (by omega)
  have he := pth_succ hP (show 0 < c by omega) hcn
  rw [he, List.mem_append] at h1
  have hpm : (nP t c).toNat ∈ pthF t n x := by
    have h2 := pth_prefix hP x x (Nat.le_refl _) hx hc
    refine h2.subset ?_
    rw [he]
    exact List.mem_append_left _ (pth_self hP (by omega))
  rcases h1 with h1 | h1
  · have h3 := pth_lt hP (nP t c).toNat _ (Nat.le_refl _) (by omega) v h1
    rcases Nat.lt_or_ge v (nP t c).toNat with h4 | h4
    · have := hno _ hpm h4; omega
    · omega
  · rw [List.mem_singleton] at h1; omega
end Go.Proofs.YtjmnakkkimgifaaGreatDoor
namespace Go.Proofs.YtjmnakkkimgifaaGreatDoor
open Go.RowKit
/-- Has node v a child among the first k? -/
def inB (t : List Nd) (k v : Nat) : Bool := (List.range k).any (kidB t v)
theorem inB_succ (t : List Nd) (k v : Nat) : inB t (k + 1) v = (inB t k v || kidB t v k) := by
  unfold inB
  rw [List.range_succ, List.any_append]
  simp
theorem leafB_in (t : List Nd) (v : Nat) : leafB t v = !inB t t.length v := by
  unfold leafB inB famL
  rw [Bool.eq_iff_iff]
  simp [List.isEmpty_iff]
/-- What a leaf begins with. -/
def botS (t : List Nd) (v : Nat) : Nat := if leafB t v then 2 ^ (lvsL t v).length else 0
/-- The sets behind j steps upwards. -/
def upS (t : List Nd) : Nat → Nat → Nat
  | 0, v => botS t v
  | j + 1, v => if nP t (t.length - 1 - j) = (v : Int) then upS t j v ||| upS t j (t.length - 1 - j) else upS t j v
/-- The set of a node. -/
def cl (t : List Nd) (v : Nat) : Nat := upS t (t.length - 1) v
theorem lvsL_mono (t : List Nd) {j k : Nat} (h : j ≤ k) : (lvsL t j).length ≤ (lvsL t k).length := by
  induction k with
  | zero => have : j = 0 := by omega
            subst this; exact Nat.le_refl _
  | succ k ih =>
    by_cases e : j = k + 1
    · subst e; exact Nat.le_refl _
    · have := ih (by omega)
      rw [lvsL_snoc, List.length_append]; omega
theorem upS_lt {t : List Nd} {n : Nat} (hL : (lvsL t t.length).length ≤ n) : ∀ j v, v < t.length → upS t j v < 2 ^ n := by
  intro j
  induction j with
  | zero =>
    intro v hv
    unfold upS botS
    by_cases q : leafB t v = true
    · rw [if_pos q]
      refine Nat.pow_lt_pow_right (by omega) ?_
      have h1 := lvsL_snoc t v
      rw [if_pos q] at h1
      have h2 := lvsL_mono t (show v + 1 ≤ t.length from hv)
      rw [h1, List.length_append, List.length_singleton] at h2
      omega
    · rw [if_neg q]; exact Nat.two_pow_pos _
  | succ j ih =>
    intro v hv
    unfold upS
    split
    · exact Nat.or_lt_two_pow (ih v hv) (ih _ (by omega))
    · exact ih v hv
theorem cl_lt {t : List Nd} {n : Nat} (hL : (lvsL t t.length).length ≤ n) (v : Nat) (hv : v < t.length) : cl t v < 2 ^ n := upS_lt hL _ v hv
/-- What the iterator hands out. -/
def ndsL (t : List Nd) (k : Nat) : List (Nat × Nat) := (List.range k).map fun v => (v, cl t v)
theorem ndsL_snoc (t : List Nd) (k : Nat) : ndsL t (k + 1) = ndsL t k ++ [(k, cl t k)] := by simp [ndsL, List.range_succ]
theorem ndsL_len (t : List Nd) (k : Nat) : (ndsL t k).length = k := by simp [ndsL]
end Go.Proofs.YtjmnakkkimgifaaGreatDoor
namespace Go.Proofs.YtjmnakkkimgifaaGreatDoor
open Go Go.RowKit Go.Shelf
theorem lvs_at (t : List Nd) : ∀ n k, k < (lvsL t n).length → vA (lvsL t n) k < n ∧ leafB t (vA (lvsL t n) k) = true ∧ (lvsL t (vA (lvsL t n) k)).length = k := by
  intro n
  induction n with
  | zero => intro k hk; simp [lvsL] at hk
  | succ n ih =>
    intro k hk
    rw [lvsL_snoc] at hk ⊢
    by_cases q : k < (lvsL t n).length
    · have e : ∀ m : List Nat, vA (lvsL t n ++ m) k = vA (lvsL t n) k := fun m => by
        simp only [vA, List.getD_eq_getElem?_getD]; rw [List.getElem?_append_left q]
      rw [e]
      obtain ⟨h1, h2, h3⟩ := ih k q
      exact ⟨by omega, h2, h3⟩
    · by_cases p : leafB t n = true
      · rw [if_pos p] at hk ⊢
        rw [List.length_append, List.length_singleton] at hk
        obtain rfl : k = (lvsL t n).length := by omega
        have e : vA (lvsL t n ++ [n]) (lvsL t n).length = n := by simp [vA]
        rw [e]
        exact ⟨by omega, p, rfl⟩
      · rw [if_neg p, List.append_nil] at hk
        exact absurd hk q
/-- The bits of what a node begins with. -/
theorem botS_bit (t : List Nd) {n k v : Nat} (hk : k < (lvsL t n).length) : (botS t v).testBit k = true ↔ vA (lvsL t n) k = v ∨ (leafB t v = true ∧ (lvsL t v).length = k ∧ vA (lvsL t n) k ≠ v) := by
  obtain ⟨h1, h2, h3⟩ := lvs_at t n k hk
  unfold botS
  by_cases p : leafB t v = true
  · rw [if_pos p, Nat.testBit_two_pow]
    simp only [decide_eq_true_eq]
    constructor
    · intro h
      by_cases e : vA (lvsL t n) k = v
      · exact .inl e
      · exact .inr ⟨p, h, e⟩
    · rintro (h | ⟨_, h, _⟩)
      · rw [← h]; exact h3
      · exact h
  · rw [if_neg p]
    simp only [Nat.zero_testBit]
    constructor
    · intro h; cases h
    · rintro (h | ⟨h, _⟩)
      · rw [h] at h2; exact absurd h2 p
      · exact absurd h p
end Go.Proofs.YtjmnakkkimgifaaGreatDoor
namespace Go.Proofs.YtjmnakkkimgifaaGreatDoor
open Go Go.RowKit Go.Shelf
theorem lvs_inj {t : List Nd} {u v : Nat} (hu : leafB t u = true) (hv : leafB t v = true) (h : (lvsL t u).length = (lvsL t v).length) : u = v := by
  have key : ∀ a b, a < b → leafB t a = true → (lvsL t a).length < (lvsL t b).length := fun a b hab ha => by
    have h1 := lvsL_snoc t a
    rw [if_pos ha] at h1
    have h2 := lvsL_mono t (show a + 1 ≤ b from hab)
    rw [h1, List.length_append, List.length_singleton] at h2
    omega
  rcases Nat.lt_trichotomy u v with q | q | q
  · have := key u v q hu; omega
  · exact q
  · have := key v u q hv; omega
theorem botS_iff (t : List Nd) {n k v : Nat} (hk : k < (lvsL t n).length) : (botS t v).testBit k = true ↔ vA (lvsL t n) k = v := by
  rw [botS_bit t hk]
  obtain ⟨_, h2, h3⟩ := lvs_at t n k hk
  constructor
  · rintro (h | ⟨hl, hlen, hne⟩)
    · exact h
    · exact absurd (lvs_inj h2 hl (by rw [h3, hlen])) hne
  · exact .inl
theorem upS_bit {t : List Nd} {n k : Nat} (hn : t.length = n) (hP : ∀ v, 0 < v → v < n → 0 ≤ nP t v ∧ nP t v < v) (_h0 : nP t 0 < 0) (hk : k < (lvsL t n).length) : ∀ j v, j + 1 ≤ n → v < n →
    ((upS t j v).testBit k = true ↔ v ∈ pthF t n (vA (lvsL t n) k) ∧ ∀ u, u ∈ pthF t n (vA (lvsL t n) k) → v < u → n - j ≤ u) := by
  have hx := (lvs_at t n k hk).1
  have hb : ∀ v, (botS t v).testBit k = true ↔ vA (lvsL t n) k = v := fun v => botS_iff t hk
  generalize vA (lvsL t n) k = x at *
  intro j
  induction j with
  | zero =>
    intro v _ hv
    show (botS t v).testBit k = true ↔ _
    rw [hb]
    constructor
    · rintro rfl
      refine ⟨pth_self hP hx, fun u hu hlt => ?_⟩
      have := pth_lt hP x x (Nat.le_refl _) hx u hu; omega
    · rintro ⟨h1, h2⟩
      have h3 := pth_lt hP x x (Nat.le_refl _) hx v h1
      rcases Nat.lt_or_ge v x with h4 | h4
      · have := h2 x (pth_self hP hx) h4; omega
      · omega
  | succ j ih =>
    intro v hj hv
    obtain ⟨c, hc⟩ : ∃ c, c = n - 1 - j := ⟨_, rfl⟩
    have hc0 : 0 < c := by omega
    have hcn : c < n := by omega
    have hups : upS t (j + 1) v = if nP t c = (v : Int) then upS t j v ||| upS t j c else upS t j v := by rw [upS, hn, hc]
    have ec : n - (j + 1) = c := by omega
    have ej : n - j = c + 1 := by omega
    rw [hups, ec]
    clear hups
    have hv1 := ih v (by omega) hv
    have hc1 := ih c (by omega) hcn
    rw [ej] at hv1 hc1
    by_cases e : nP t c = (v : Int)
    · rw [if_pos e, Nat.testBit_or, Bool.or_eq_true, hv1, hc1]
      have hpc := hP c hc0 hcn
      constructor
      · rintro (⟨h1, h2⟩ | ⟨h1, h2⟩)
        · exact ⟨h1, fun u hu hlt => by have := h2 u hu hlt; omega⟩
        · have hvx : v ∈ pthF t n x := by
            refine (pth_prefix hP x x (Nat.le_refl _) hx h1).subset ?_
            rw [pth_succ hP hc0 hcn, e]
            exact List.mem_append_left _ (by rw [Int.toNat_natCast]; exact pth_self hP hv)
          refine ⟨hvx, fun u hu hlt => ?_⟩
          rcases Nat.lt_or_ge u c with h4 | h4
          · have h5 := pth_chain hP x x (Nat.le_refl _) hx u c hu h1 (by omega)
            rw [pth_succ hP hc0 hcn, e, Int.toNat_natCast, List.mem_append] at h5
            rcases h5 with h5 | h5
            · have := pth_lt hP v v (Nat.le_refl _) hv u h5; omega
            · rw [List.mem_singleton] at h5; omega
          · exact h4
      · rintro ⟨h1, h2⟩
        by_cases hcx : c ∈ pthF t n x
        · exact .inr ⟨hcx, fun u hu hlt => hlt⟩
        · exact .inl ⟨h1, fun u hu hlt => by
            have h3 := h2 u hu hlt
            rcases Nat.lt_or_ge c u with h4 | h4
            · exact h4
            · obtain rfl : u = c := by omega
              exact absurd hu hcx⟩
    · rw [if_neg e, hv1]
      constructor
      · rintro ⟨h1, h2⟩
        exact ⟨h1, fun u hu hlt => by have := h2 u hu hlt; omega⟩
      · rintro ⟨h1, h2⟩
        refine ⟨h1, fun u hu hlt => ?_⟩
        have h3 := h2 u hu hlt
        rcases Nat.lt_or_ge c u with h4 | h4
        · exact h4
        · obtain rfl : u = c := by omega
          exact absurd (pth_above hP hx h1 hu hlt h2) e
theorem cl_bit {t : List Nd} {n k v : Nat} (hn : t.length = n) (hP : ∀ v, 0 < v → v < n → 0 ≤ nP t v ∧ nP t v < v) (h0 : nP t 0 < 0) (hk : k < (lvsL t n).length) (hv : v < n) : (cl t v).testBit k = true ↔ v ∈ pthF t n (vA (lvsL t n) k) := by
  unfold cl
  rw [hn, upS_bit hn hP h0 hk (n - 1) v (by omega) hv]
  exact ⟨fun h => h.1, fun h => ⟨h, fun u _ hlt => by omega⟩⟩
theorem clF_bit (t : List Nd) (n v k : Nat) : ∀ m, (clF t n v m).testBit k = true ↔ k < m ∧ cmN t n (vA (lvT t) k) v = v := by
  intro m
  induction m with
  | zero => simp [clF]
  | succ m ih =>
    unfold clF
    by_cases q : cmN t n (vA (lvT t) m) v = v
    · rw [if_pos q, Nat.testBit_or, Bool.or_eq_true, ih, Nat.testBit_two_pow]
      simp only [decide_eq_true_eq]
      constructor
      · rintro (⟨h1, h2⟩ | h)
        · exact ⟨by omega, h2⟩
        · subst h; exact ⟨by omega, q⟩
      · rintro ⟨h1, h2⟩
        rcases Nat.lt_or_ge k m with h3 | h3
        · exact .inl ⟨h3, h2⟩
        · exact .inr (by omega)
    · rw [if_neg q, ih]
      constructor
      · rintro ⟨h1, h2⟩; exact ⟨by omega, h2⟩
      · rintro ⟨h1, h2⟩
        refine ⟨?_, h2⟩
        rcases Nat.lt_or_ge k m with h3 | h3
        · exact h3
        · obtain rfl : k = m := by omega
          exact absurd h2 q
end Go.Proofs.YtjmnakkkimgifaaGreatDoor
namespace Go.Proofs.YtjmnakkkimgifaaGreatDoor
open Go Go.RowKit Go.Shelf
theorem bit_of_ne {x : Nat} (h : x ≠ 0) : ∃ k, x.testBit k = true := by
  refine Classical.byContradiction fun hn => h ?_
  apply Nat.eq_of_testBit_eq
  intro k
  rw [Nat.zero_testBit]
  cases hb : x.testBit k with
  | false => rfl
  | true => exact absurd ⟨k, hb⟩ hn
theorem pth_root (t : List Nd) (n v : Nat) : 0 ∈ pthF t n v := by
  obtain ⟨h1, h2⟩ := pthF_pos t n v
  rw [vA_get h1] at h2
  rw [← h2]; exact List.getElem_mem h1
theorem tok_par {t : List Nd} {n : Nat} (hn : t.length = n) (hok : TreeOk t) : ∀ v, 0 < v → v < n → 0 ≤ nP t v ∧ nP t v < v := fun v h1 h2 => tree_par hok v h1 (by rw [hn]; exact h2)
theorem tok_root {t : List Nd} (hok : TreeOk t) : nP t 0 < 0 := (hok.2.2 0 (by have := hok.1; omega)).1
theorem tok_lv {t : List Nd} {n : Nat} (hn : t.length = n) (hok : TreeOk t) : lvT t = lvsL t n := by unfold lvT; rw [if_pos (chkE_good hok), hn]
theorem tok_bit {t : List Nd} {n k v : Nat} (hn : t.length = n) (hok : TreeOk t) (hk : k < (lvT t).length) (hv : v < n) : (cl t v).testBit k = true ↔ v ∈ pthF t n (vA (lvT t) k) := by
  rw [tok_lv hn hok] at hk ⊢
  exact cl_bit hn (tok_par hn hok) (tok_root hok) hk hv
theorem tok_leaf {t : List Nd} {n k : Nat} (hn : t.length = n) (hok : TreeOk t) (hk : k < (lvT t).length) : vA (lvT t) k < n ∧ leafB t (vA (lvT t) k) = true := by
  rw [tok_lv hn hok] at hk ⊢
  exact ⟨(lvs_at t n k hk).1, (lvs_at t n k hk).2.1⟩
theorem tok_lt {t : List Nd} {n v : Nat} (hn : t.length = n) (hok : TreeOk t) (hv : v < n) : cl t v < 2 ^ (lvT t).length := by
  rw [tok_lv hn hok]
  exact cl_lt (n := (lvsL t n).length) (by rw [hn]; exact Nat.le_refl _) v (by rw [hn]; exact hv)
theorem bit_lt {x k m : Nat} (hx : x < 2 ^ m) (h : x.testBit k = true) : k < m := by
  rcases Nat.lt_or_ge k m with q | q
  · exact q
  · have hp : 2 ^ m ≤ 2 ^ k := Nat.pow_le_pow_right (by omega) q
    rw [Nat.testBit_lt_two_pow (by omega)] at h; cases h
/-- What lies below has fewer leaves. -/
theorem cl_sub {t : List Nd} {n u v : Nat} (hn : t.length = n) (hok : TreeOk t) (hv : v < n) (h : u ∈ pthF t n v) : cl t u &&& cl t v = cl t v := by
  have hP := tok_par hn hok
  have hu : u < n := Nat.lt_of_le_of_lt (pth_lt hP v v (Nat.le_refl _) hv u h) hv
  apply Nat.eq_of_testBit_eq
  intro k
  rw [Nat.testBit_and]
  cases hb : (cl t v).testBit k with
  | false => simp
  | true =>
    have hk := bit_lt (tok_lt hn hok hv) hb
    have h1 := (tok_bit hn hok hk hv).1 hb
    have h2 := (pth_prefix hP _ _ (Nat.le_refl _) (tok_leaf hn hok hk).1 h1).subset h
    rw [(tok_bit hn hok hk hu).2 h2]; rfl
theorem sub_bit {a b k : Nat} (h : a &&& b = b) (hb : b.testBit k = true) : a.testBit k = true := by
  have := congrArg (fun y => y.testBit k) h
  simp only [Nat.testBit_and, hb, Bool.and_true] at this
  exact this
/-- Two nodes with a common leaf: the one with the smaller number is above. -/
theorem cl_chain {t : List Nd} {n u v k : Nat} (hn : t.length = n) (hok : TreeOk t) (hu : u < n) (hv : v < n) (h1 : (cl t u).testBit k = true) (h2 : (cl t v).testBit k = true) (huv : u ≤ v) : u ∈ pthF t n v := by
  have hk := bit_lt (tok_lt hn hok hu) h1
  exact pth_chain (tok_par hn hok) _ _ (Nat.le_refl _) (tok_leaf hn hok hk).1 u v ((tok_bit hn hok hk hu).1 h1) ((tok_bit hn hok hk hv).1 h2) huv
theorem and_bit {a b : Nat} (h : a &&& b ≠ 0) : ∃ k, a.testBit k = true ∧ b.testBit k = true := by
  obtain ⟨k, hk⟩ := bit_of_ne h
  rw [Nat.testBit_and, Bool.and_eq_true] at hk
  exact ⟨k, hk⟩
/-- The sets of two nodes fit. -/
theorem cl_fit {t : List Nd} {n u v : Nat} (hn : t.length = n) (hok : TreeOk t) (hu : u < n) (hv : v < n) : fitB (cl t u) (cl t v) = true := by
  unfold fitB
  by_cases h0 : cl t u &&& cl t v = 0
  · rw [decide_eq_true h0]; rfl
  · obtain ⟨k, h1, h2⟩ := and_bit h0
    rcases Nat.le_total u v with q | q
    · have := cl_sub hn hok hv (cl_chain hn hok hu hv h1 h2 q)
      rw [decide_eq_true this]; simp
    · have := cl_sub hn hok hu (cl_chain hn hok hv hu h2 h1 q)
      rw [Nat.and_comm] at this
      rw [decide_eq_true this]; simp
theorem leaf_end {t : List Nd} {n l : Nat} (hn : t.length = n) (hok : TreeOk t) (hl : leafB t l = true) : ∀ k y, y ≤ k → y < n → l ∈ pthF t n y → y = l := by
  have hP := tok_par hn hok
  intro k
  induction k with
  | zero =>
    intro y hy hyn h
    obtain rfl : y = 0 := by omega
    rw [pth_zero, List.mem_singleton] at h; exact h.symm
  | succ k ih =>
    intro y hy hyn h
    by_cases e : y = 0
    · subst e; rw [pth_zero, List.mem_singleton] at h; exact h.symm
    · obtain ⟨h1, h2⟩ := hP y (by omega) hyn
      rw [pth_succ hP (by omega) hyn, List.mem_append] at h
      rcases h with h | h
      · have e2 := ih (nP t y).toNat (by omega) (by omega) h
        have hk : kidB t l y = true := by unfold kidB; rw [decide_eq_true (by omega), decide_eq_true (by omega)]; rfl
        rw [leafB_in] at hl
        have : inB t t.length l = true := List.any_eq_true.2 ⟨y, List.mem_range.2 (by omega), hk⟩
        rw [this] at hl; cases hl
      · rw [List.mem_singleton] at h; exact h.symm
theorem leaf_at {t : List Nd} {n l : Nat} (hn : t.length = n) (hok : TreeOk t) (hl : leafB t l = true) (hln : l < n) : ∃ k, k < (lvT t).length ∧ vA (lvT t) k = l := by
  rw [tok_lv hn hok]
  have hm : l ∈ lvsL t n := List.mem_filter.2 ⟨List.mem_range.2 hln, hl⟩
  obtain ⟨k, hk, e⟩ := List.mem_iff_getElem.1 hm
  exact ⟨k, hk, by rw [vA_get hk]; exact e⟩
/-- Each node has a leaf. -/
theorem cl_ne {t : List Nd} {n : Nat} (hn : t.length = n) (hok : TreeOk t) : ∀ j v, n - v ≤ j → v < n → cl t v ≠ 0 := by
  have hP := tok_par hn hok
  intro j
  induction j with
  | zero => intro v h1 h2; omega
  | succ j ih =>
    intro v h1 hv
    by_cases q : leafB t v = true
    · obtain ⟨k, hk, e⟩ := leaf_at hn hok q hv
      have hb : (cl t v).testBit k = true := (tok_bit hn hok hk hv).2 (by rw [e]; exact pth_self hP hv)
      intro h; rw [h, Nat.zero_testBit] at hb; cases hb
    · rw [leafB_in, hn] at q
      have q2 : inB t n v = true := by cases h : inB t n v <;> simp_all
      obtain ⟨c, hc, hk⟩ := List.any_eq_true.1 q2
      have hcn := List.mem_range.1 hc
      unfold kidB at hk
      rw [Bool.and_eq_true, decide_eq_true_eq, decide_eq_true_eq] at hk
      obtain ⟨hc0, hcp⟩ := hk
      obtain ⟨p0, p1⟩ := hP c hc0 hcn
      have hz := ih c (by omega) hcn
      have hm : v ∈ pthF t n c := by
        rw [pth_succ hP hc0 hcn]
        refine List.mem_append_left _ ?_
        rw [hcp, Int.toNat_natCast]; exact pth_self hP hv
      have hs := cl_sub hn hok hcn hm
      intro h; rw [h, Nat.zero_and] at hs; exact hz hs.symm
theorem u8_inj {a b : Nat} (ha : a < 256) (hb : b < 256) (h : UInt8.ofNat a = UInt8.ofNat b) : a = b := by
  have := congrArg UInt8.toNat h
  rw [UInt8.toNat_ofNat', UInt8.toNat_ofNat'] at this
  omega
theorem nmB_of {s : ByteArray} (h1 : ∀ c ∈ s.data.toList, ltrI c.toNat = true) (h2 : 0 < s.data.toList.length) (h3 : s.data.toList.length ≤ 24) : nmB s = true := by
  have e : s.size = s.data.toList.length := Array.length_toList.symm
  unfold nmB
  rw [List.all_eq_true.2 h1, decide_eq_true (by omega), decide_eq_true (by omega)]; rfl
end Go.Proofs.YtjmnakkkimgifaaGreatDoor
namespace Go.Proofs.YtjmnakkkimgifaaGreatDoor
open Go Go.RowKit Go.Shelf
theorem sortE {α : Type} {R : α → α → Prop} (irr : ∀ x, ¬ R x x) (asy : ∀ x y, R x y → R y x → False) {l m : List α} (hl : l.Pairwise R) (hm : m.Pairwise R) (h : ∀ x, x ∈ l ↔ x ∈ m) : l = m := by
  have nl : l.Nodup := hl.imp (fun {a b} h e => by subst e; exact irr _ h)
  have nm : m.Nodup := hm.imp (fun {a b} h e => by subst e; exact irr _ h)
  exact List.Perm.eq_of_pairwise (fun a b _ _ h1 h2 => (asy a b h1 h2).elim) hl hm ((List.perm_ext_iff_of_nodup nl nm).2 h)
/-- What lies below a node after j steps from the last node on. -/
def agg (t : List Nd) (w : Nat → Nat) : Nat → Nat → Nat
  | 0, v => w v
  | j + 1, v => agg t w j v + if nP t (t.length - 1 - j) = (v : Int) then agg t w j (t.length - 1 - j) else 0
/-- Is v a leaf whose language's kind is not b? -/
def offB (t : List Nd) (x v : Nat) (b : Bool) : Bool := leafB t v && (x.testBit (lvsL t v).length != b)
/-- What kind b costs at node v after j steps; the other kind of a leaf costs I. -/
def upC (I : Nat) (t : List Nd) (x : Nat) : Nat → Nat → Bool → Nat
  | 0, v, b => if offB t x v b then I else 0
  | j + 1, v, b => upC I t x j v b + if nP t (t.length - 1 - j) = (v : Int) then min (upC I t x j (t.length - 1 - j) b) (upC I t x j (t.length - 1 - j) (!b) + 1) else 0
/-- The changes. -/
def chgI (I : Nat) (t : List Nd) (x : Nat) : Nat := min (upC I t x (t.length - 1) 0 false) (upC I t x (t.length - 1) 0 true)
def chg (t : List Nd) (x : Nat) : Nat := chgI 1 t x
def sumF (f : Nat → Nat) : Nat → Nat
  | 0 => 0
  | k + 1 => sumF f k + f k
theorem sumF_congr {f g : Nat → Nat} : ∀ k, (∀ i, i < k → f i = g i) → sumF f k = sumF g k := by
  intro k
  induction k with
  | zero => intro _; rfl
  | succ k ih => intro h; unfold sumF; rw [ih fun i hi => h i (by omega), h k (by omega)]
theorem sumF_add (f g : Nat → Nat) : ∀ k, sumF (fun i => f i + g i) k = sumF f k + sumF g k := by
  intro k
  induction k with
  | zero => rfl
  | succ k ih => unfold sumF; rw [ih]; omega
theorem sumF_one (p : Nat) (a : Nat) : ∀ k, sumF (fun i => if (p : Int) = (i : Int) then a else 0) k = if p < k then a else 0 := by
  intro k
  induction k with
  | zero => rfl
  | succ k ih =>
    unfold sumF
    rw [ih]
    by_cases e : p = k
    · subst e; simp
    · rw [if_neg (show ¬ (p : Int) = (k : Int) by omega)]
      by_cases q : p < k
      · rw [if_pos q, if_pos (show p < k + 1 by omega)]; rfl
      · rw [if_neg q, if_neg (show ¬ p < k + 1 by omega)]
/-- Nothing is lost on the way up. -/
theorem agg_sum {t : List Nd} {n : Nat} (hn : t.length = n) (hP : ∀ v, 0 < v → v < n → 0 ≤ nP t v ∧ nP t v < v) (w : Nat → Nat) : ∀ j, j < n → sumF (agg t w j) (n - j) = sumF w n := by
  intro j
  induction j with
  | zero => intro _; rfl
  | succ j ih =>
    intro hj
    rw [← ih (by omega)]
    have e : n - j = (n - (j + 1)) + 1 := by omega
    have hu : t.length - 1 - j = n - (j + 1) := by omega
    obtain ⟨p0, p1⟩ := hP (n - (j + 1)) (by omega) (by omega)
    obtain ⟨p, hp⟩ : ∃ p : Nat, nP t (n - (j + 1)) = p := ⟨(nP t (n - (j + 1))).toNat, by omega⟩
    have h1 : sumF (agg t w (j + 1)) (n - (j + 1)) = sumF (fun v => agg t w j v + if (p : Int) = (v : Int) then agg t w j (n - (j + 1)) else 0) (n - (j + 1)) := sumF_congr _ fun v _ => by
      show agg t w j v + _ = _
      rw [hu, hp]
    rw [h1, sumF_add, sumF_one, if_pos (by omega), e]
    rfl
theorem agg_root {t : List Nd} {n : Nat} (hn : t.length = n) (h1 : 1 ≤ n) (hP : ∀ v, 0 < v → v < n → 0 ≤ nP t v ∧ nP t v < v) (w : Nat → Nat) : agg t w (n - 1) 0 = sumF w n := by
  have h := agg_sum hn hP w (n - 1) (by omega)
  rw [show n - (n - 1) = 1 by omega] at h
  simpa [sumF] using h
theorem leaf_par {t : List Nd} {v u : Nat} (hl : leafB t v = true) (h0 : 0 < u) (hu : u < t.length) : nP t u ≠ (v : Int) := fun h => by
  rw [leafB_in] at hl
  have : inB t t.length v = true := List.any_eq_true.2 ⟨u, List.mem_range.2 hu, by unfold kidB; rw [decide_eq_true h0, decide_eq_true h]; rfl⟩
  rw [this] at hl; cases hl
theorem upC_leaf {I : Nat} {t : List Nd} {x v : Nat} {b : Bool} (hl : leafB t v = true) : ∀ j, j < t.length → upC I t x j v b = if x.testBit (lvsL t v).length = b then 0 else I := by
  intro j
  induction j with
  | zero =>
    intro _
    show (if offB t x v b then I else 0) = _
    unfold offB
    rw [hl]
    cases hb : x.testBit (lvsL t v).length <;> cases b <;> rfl
  | succ j ih =>
    intro hj
    unfold upC
    rw [if_neg (leaf_par hl (by omega) (by omega)), ih (by omega)]
    rfl
/-- The number of leaves below v that are not of kind b. -/
def opC (t : List Nd) (x : Nat) (b : Bool) : Nat → Nat → Nat := agg t fun v => if offB t x v b then 1 else 0
theorem opC_leaf {t : List Nd} {x v : Nat} {b : Bool} (hl : leafB t v = true) : ∀ j, j < t.length → opC t x b j v = if x.testBit (lvsL t v).length = b then 0 else 1 := by
  intro j
  induction j with
  | zero =>
    intro _
    show (if offB t x v b then 1 else 0) = _
    unfold offB
    rw [hl]
    cases hb : x.testBit (lvsL t v).length <;> cases b <;> rfl
  | succ j ih =>
    intro hj
    show opC t x b j v + _ = _
    rw [if_neg (leaf_par hl (by omega) (by omega)), ih (by omega)]
    rfl
/-- What a child adds. -/
def addC (I : Nat) (t : List Nd) (x j u : Nat) (b : Bool) : Nat := min (upC I t x j u b) (upC I t x j u (!b) + 1)
theorem addC_leaf {I : Nat} (hI : 1 ≤ I) {t : List Nd} {x u j : Nat} {b : Bool} (hl : leafB t u = true) (hj : j < t.length) : addC I t x j u b = if x.testBit (lvsL t u).length = b then 0 else 1 := by
  unfold addC
  rw [upC_leaf hl j hj, upC_leaf hl j hj]
  cases hb : x.testBit (lvsL t u).length <;> cases b <;> simp <;> omega
theorem bound_C {I : Nat} (hI : 1 ≤ I) {t : List Nd} {x : Nat} : ∀ j, j < t.length → (∀ v b, leafB t v = false → upC I t x j v b ≤ opC t x b j v) ∧ ∀ u b, addC I t x j u b ≤ opC t x b j u := by
  intro j
  induction j with
  | zero =>
    intro hj
    have h1 : ∀ v b, leafB t v = false → upC I t x 0 v b ≤ opC t x b 0 v := fun v b hl => by
      show (if offB t x v b then I else 0) ≤ _
      unfold offB
      rw [hl]; exact Nat.zero_le _
    refine ⟨h1, fun u b => ?_⟩
    cases hl : leafB t u with
    | true => rw [addC_leaf hI hl hj, opC_leaf hl 0 hj]; exact Nat.le_refl _
    | false => exact Nat.le_trans (Nat.min_le_left _ _) (h1 u b hl)
  | succ j ih =>
    intro hj
    obtain ⟨i1, i2⟩ := ih (by omega)
    have h1 : ∀ v b, leafB t v = false → upC I t x (j + 1) v b ≤ opC t x b (j + 1) v := fun v b hl => by
      show upC I t x j v b + (if _ then addC I t x j (t.length - 1 - j) b else 0) ≤ opC t x b j v + (if _ then opC t x b j (t.length - 1 - j) else 0)
      have a := i1 v b hl
      have c := i2 (t.length - 1 - j) b
      split <;> omega
    refine ⟨h1, fun u b => ?_⟩
    cases hl : leafB t u with
    | true => rw [addC_leaf hI hl hj, opC_leaf hl _ hj]; exact Nat.le_refl _
    | false => exact Nat.le_trans (Nat.min_le_left _ _) (h1 u b hl)
theorem zero_C {I : Nat} (hI : 1 ≤ I) {t : List Nd} {x : Nat} : ∀ j, j < t.length → (∀ v b, leafB t v = false → upC I t x j v b = 0 → opC t x b j v = 0) ∧ ∀ u b, addC I t x j u b = 0 → opC t x b j u = 0 := by
  intro j
  induction j with
  | zero =>
    intro hj
    have h1 : ∀ v b, leafB t v = false → upC I t x 0 v b = 0 → opC t x b 0 v = 0 := fun v b hl _ => by
      show (if offB t x v b then 1 else 0) = _
      unfold offB
      rw [hl]; rfl
    refine ⟨h1, fun u b h => ?_⟩
    cases hl : leafB t u with
    | true => rw [addC_leaf hI hl hj] at h; rw [opC_leaf hl 0 hj]; exact h
    | false =>
      refine h1 u b hl ?_
      unfold addC at h; omega
  | succ j ih =>
    intro hj
    obtain ⟨i1, i2⟩ := ih (by omega)
    have h1 : ∀ v b, leafB t v = false → upC I t x (j + 1) v b = 0 → opC t x b (j + 1) v = 0 := fun v b hl h => by
      have h' : upC I t x j v b + (if nP t (t.length - 1 - j) = (v : Int) then addC I t x j (t.length - 1 - j) b else 0) = 0 := h
      show opC t x b j v + (if nP t (t.length - 1 - j) = (v : Int) then opC t x b j (t.length - 1 - j) else 0) = 0
      rw [i1 v b hl (by omega)]
      by_cases q : nP t (t.length - 1 - j) = (v : Int)
      · rw [if_pos q] at h' ⊢
        rw [i2 _ b (by omega)]
      · rw [if_neg q]
    refine ⟨h1, fun u b h => ?_⟩
    cases hl : leafB t u with
    | true => rw [addC_leaf hI hl hj] at h; rw [opC_leaf hl _ hj]; exact h
    | false =>
      refine h1 u b hl ?_
      unfold addC at h; omega
/-- It does not matter what the other kind of a leaf costs. -/
theorem same_C {I K : Nat} (hI : 1 ≤ I) (hK : 1 ≤ K) {t : List Nd} {x : Nat} : ∀ j, j < t.length → (∀ v b, leafB t v = false → upC I t x j v b = upC K t x j v b) ∧ ∀ u b, addC I t x j u b = addC K t x j u b := by
  intro j
  induction j with
  | zero =>
    intro hj
    have h1 : ∀ v b, leafB t v = false → upC I t x 0 v b = upC K t x 0 v b := fun v b hl => by
      show (if offB t x v b then I else 0) = (if offB t x v b then K else 0)
      unfold offB
      rw [hl]; rfl
    refine ⟨h1, fun u b => ?_⟩
    cases hl : leafB t u with
    | true => rw [addC_leaf hI hl hj, addC_leaf hK hl hj]
    | false => unfold addC; rw [h1 u b hl, h1 u (!b) hl]
  | succ j ih =>
    intro hj
    obtain ⟨i1, i2⟩ := ih (by omega)
    have h1 : ∀ v b, leafB t v = false → upC I t x (j + 1) v b = upC K t x (j + 1) v b := fun v b hl => by
      show upC I t x j v b + (if _ then addC I t x j (t.length - 1 - j) b else 0) = upC K t x j v b + (if _ then addC K t x j (t.length - 1 - j) b else 0)
      rw [i1 v b hl, i2 (t.length - 1 - j) b]
    refine ⟨h1, fun u b => ?_⟩
    cases hl : leafB t u with
    | true => rw [addC_leaf hI hl hj, addC_leaf hK hl hj]
    | false => unfold addC; rw [h1 u b hl, h1 u (!b) hl]
theorem chgI_eq {I : Nat} (hI : 1 ≤ I) {t : List Nd} (h1 : 1 ≤ t.length) (x : Nat) : chgI I t x = chg t x := by
  unfold chg chgI
  cases hl : leafB t 0 with
  | false => rw [(same_C hI (Nat.le_refl 1) (t.length - 1) (by omega)).1 0 false hl, (same_C hI (Nat.le_refl 1) (t.length - 1) (by omega)).1 0 true hl]
  | true =>
    rw [upC_leaf hl _ (by omega), upC_leaf hl _ (by omega), upC_leaf hl _ (by omega), upC_leaf hl _ (by omega)]
    cases hb : x.testBit (lvsL t 0).length <;> simp
/-- How many of the first k languages are not of kind b. -/
def offK (x : Nat) (b : Bool) : Nat → Nat := sumF fun i => if x.testBit i != b then 1 else 0
theorem off_sum (t : List Nd) (x : Nat) (b : Bool) : ∀ k, sumF (fun v => if offB t x v b then 1 else 0) k = offK x b (lvsL t k).length := by
  intro k
  induction k with
  | zero => rfl
  | succ k ih =>
    unfold sumF
    rw [ih, lvsL_snoc]
    unfold offB
    cases hl : leafB t k with
    | true =>
      rw [if_pos rfl, List.length_append, List.length_singleton]
      show _ = offK x b (lvsL t k).length + _
      rw [Bool.true_and]
    | false => simp
theorem opC_root {t : List Nd} {n : Nat} (hn : t.length = n) (hok : TreeOk t) (x : Nat) (b : Bool) : opC t x b (n - 1) 0 = offK x b (lvT t).length := by
  unfold opC
  rw [agg_root hn (by have := hok.1; omega) (tok_par hn hok), off_sum, tok_lv hn hok]
theorem offK_le (x : Nat) (b : Bool) : ∀ k, offK x b k ≤ k := by
  intro k
  induction k with
  | zero => exact Nat.le_refl _
  | succ k ih =>
    show offK x b k + (if x.testBit k != b then 1 else 0) ≤ _
    split <;> omega
theorem offK_compl (x : Nat) : ∀ k, offK x false k + offK x true k = k := by
  intro k
  induction k with
  | zero => rfl
  | succ k ih =>
    show offK x false k + (if x.testBit k != false then 1 else 0) + (offK x true k + (if x.testBit k != true then 1 else 0)) = _
    cases hb : x.testBit k
    · show offK x false k + 0 + (offK x true k + 1) = _; omega
    · show offK x false k + 1 + (offK x true k + 0) = _; omega
theorem offK_zero {x : Nat} {b : Bool} : ∀ k, offK x b k = 0 ↔ ∀ i, i < k → x.testBit i = b := by
  intro k
  induction k with
  | zero => exact ⟨fun _ i hi => by omega, fun _ => rfl⟩
  | succ k ih =>
    show offK x b k + (if x.testBit k != b then 1 else 0) = 0 ↔ _
    constructor
    · intro h i hi
      by_cases e : i = k
      · subst e
        cases hb : x.testBit i <;> cases b <;> simp_all
      · exact ih.1 (by omega) i (by omega)
    · intro h
      rw [ih.2 fun i hi => h i (by omega), h k (by omega)]
      simp
/-- No more changes than languages of either kind. -/
theorem chg_le {t : List Nd} {n : Nat} (hn : t.length = n) (hok : TreeOk t) (x : Nat) (b : Bool) : chg t x ≤ offK x b (lvT t).length := by
  have h1 : 1 ≤ t.length := hok.1
  rw [← opC_root hn hok, ← hn]
  unfold chg chgI
  have key : ∀ b, leafB t 0 = false → upC 1 t x (t.length - 1) 0 b ≤ opC t x b (t.length - 1) 0 := fun b hl => (bound_C (Nat.le_refl 1) (t.length - 1) (by omega)).1 0 b hl
  cases hl : leafB t 0 with
  | false =>
    have h2 := key false hl
    have h3 := key true hl
    cases b <;> omega
  | true =>
    rw [upC_leaf hl _ (by omega), upC_leaf hl _ (by omega)]
    cases hb : x.testBit (lvsL t 0).length <;> simp
/-- What needs no change is the same everywhere. -/
theorem chg_zero {t : List Nd} {n : Nat} (hn : t.length = n) (hok : TreeOk t) {x : Nat} (h : chg t x = 0) : ∃ b, offK x b (lvT t).length = 0 := by
  have h1 : 1 ≤ t.length := hok.1
  unfold chg chgI at h
  cases hl : leafB t 0 with
  | false =>
    have key : ∀ b, upC 1 t x (t.length - 1) 0 b = 0 → offK x b (lvT t).length = 0 := fun b hb => by
      rw [← opC_root hn hok, ← hn]
      exact (zero_C (Nat.le_refl 1) (t.length - 1) (by omega)).1 0 b hl hb
    by_cases q : upC 1 t x (t.length - 1) 0 false = 0
    · exact ⟨false, key _ q⟩
    · exact ⟨true, key _ (by omega)⟩
  | true =>
    refine ⟨x.testBit (lvsL t 0).length, ?_⟩
    rw [← opC_root hn hok, ← hn, opC_leaf hl _ (by omega), if_pos rfl]
end Go.Proofs.YtjmnakkkimgifaaGreatDoor
namespace Go.Proofs.YtjmnakkkimgifaaGreatDoor
open Go Go.RowKit Go.Shelf
/-- A binary tree: its nodes, and what is below two children. -/
inductive Sh where
  | lf (v : Nat)
  | nd (v : Nat) (a b : Sh)
namespace Sh
def top : Sh → Nat
  | lf v => v
  | nd v _ _ => v
def least : Sh → Nat
  | lf v => v
  | nd _ a b => min a.least b.least
def inn : Sh → Nat
  | lf _ => 0
  | nd _ a b => a.inn + b.inn + 1
def lvs : Sh → List Nat
  | lf v => [v]
  | nd _ a b => a.lvs ++ b.lvs
def all : Sh → List Nat
  | lf v => [v]
  | nd v a b => v :: (a.all ++ b.all)
/-- The child with the smaller leaf first. -/
def srt : Sh → Sh
  | lf v => lf v
  | nd v a b => if b.least < a.least then nd v b.srt a.srt else nd v a.srt b.srt
/-- The inner nodes as they are met, with their parents' numbers. -/
def ni : Sh → Int → Nat → List (Int × Nat)
  | lf _, _, _ => []
  | nd v a b, p, k => (p, v) :: (a.ni k (k + 1) ++ b.ni k (k + 1 + a.inn))
/-- The leaves with their parents' numbers. -/
def pl : Sh → Int → Nat → List (Nat × Int)
  | lf v, p, _ => [(v, p)]
  | nd _ a b, _, k => a.pl k (k + 1) ++ b.pl k (k + 1 + a.inn)
def map (f : Nat → Nat) : Sh → Sh
  | lf v => lf (f v)
  | nd v a b => nd (f v) (a.map f) (b.map f)
theorem srt_nd (v : Nat) (a b : Sh) : (nd v a b).srt = if b.least < a.least then nd v b.srt a.srt else nd v a.srt b.srt := rfl
theorem ni_len : ∀ (s : Sh) (p : Int) (k : Nat), (s.ni p k).length = s.inn
  | lf _, _, _ => rfl
  | nd v a b, p, k => by simp [ni, inn, ni_len a, ni_len b]
theorem pl_fst : ∀ (s : Sh) (p : Int) (k : Nat), (s.pl p k).map (·.1) = s.lvs
  | lf _, _, _ => rfl
  | nd v a b, p, k => by simp [pl, lvs, pl_fst a, pl_fst b]
theorem lvs_pos : ∀ s : Sh, 1 ≤ s.lvs.length
  | lf _ => Nat.le_refl _
  | nd _ a b => by have := lvs_pos a; simp [lvs]; omega
theorem lvs_inn : ∀ s : Sh, s.lvs.length = s.inn + 1
  | lf _ => rfl
  | nd _ a b => by simp [lvs, inn, lvs_inn a, lvs_inn b]; omega
theorem all_len : ∀ s : Sh, s.all.length = 2 * s.inn + 1
  | lf _ => rfl
  | nd _ a b => by simp [all, inn, all_len a, all_len b]; omega
theorem lvs_sub : ∀ (s : Sh) (v : Nat), v ∈ s.lvs → v ∈ s.all
  | lf _, v, h => h
  | nd u a b, v, h => by
    rcases List.mem_append.1 h with h | h
    · exact List.mem_cons_of_mem _ (List.mem_append_left _ (lvs_sub a v h))
    · exact List.mem_cons_of_mem _ (List.mem_append_right _ (lvs_sub b v h))
theorem top_mem : ∀ s : Sh, s.top ∈ s.all
  | lf _ => List.mem_singleton.2 rfl
  | nd _ _ _ => List.mem_cons_self
theorem least_mem : ∀ s : Sh, s.least ∈ s.lvs
  | lf _ => List.mem_singleton.2 rfl
  | nd _ a b => by
    show min a.least b.least ∈ a.lvs ++ b.lvs
    rcases Nat.le_total a.least b.least with h | h
    · rw [Nat.min_eq_left h]; exact List.mem_append_left _ (least_mem a)
    · rw [Nat.min_eq_right h]; exact List.mem_append_right _ (least_mem b)
theorem least_le : ∀ (s : Sh) (v : Nat), v ∈ s.lvs → s.least ≤ v
  | lf _, v, h => by rw [List.mem_singleton.1 h]; exact Nat.le_refl _
  | nd _ a b, v, h => by
    show min a.least b.least ≤ v
    rcases List.mem_append.1 h with h | h
    · exact Nat.le_trans (Nat.min_le_left _ _) (least_le a v h)
    · exact Nat.le_trans (Nat.min_le_right _ _) (least_le b v h)
theorem srt_least : ∀ s : Sh, s.srt.least = s.least
  | lf _ => rfl
  | nd v a b => by
    unfold srt
    split
    · show min b.srt.least a.srt.least = min a.least b.least
      rw [srt_least a, srt_least b, Nat.min_comm]
    · show min a.srt.least b.srt.least = min a.least b.least
      rw [srt_least a, srt_least b]
theorem srt_top : ∀ s : Sh, s.srt.top = s.top
  | lf _ => rfl
  | nd v a b => by unfold srt; split <;> rfl
theorem srt_inn : ∀ s : Sh, s.srt.inn = s.inn
  | lf _ => rfl
  | nd v a b => by
    unfold srt
    split
    · show b.srt.inn + a.srt.inn + 1 = a.inn + b.inn + 1
      rw [srt_inn a, srt_inn b]; omega
    · show a.srt.inn + b.srt.inn + 1 = a.inn + b.inn + 1
      rw [srt_inn a, srt_inn b]
theorem srt_lvs : ∀ s : Sh, s.srt.lvs.Perm s.lvs
  | lf _ => List.Perm.refl _
  | nd v a b => by
    unfold srt
    split
    · show (b.srt.lvs ++ a.srt.lvs).Perm (a.lvs ++ b.lvs)
      exact (List.perm_append_comm).trans ((srt_lvs a).append (srt_lvs b))
    · exact (srt_lvs a).append (srt_lvs b)
theorem srt_all : ∀ s : Sh, s.srt.all.Perm s.all
  | lf _ => List.Perm.refl _
  | nd v a b => by
    unfold srt
    split
    · show (v :: (b.srt.all ++ a.srt.all)).Perm (v :: (a.all ++ b.all))
      exact ((List.perm_append_comm).trans ((srt_all a).append (srt_all b))).cons v
    · exact ((srt_all a).append (srt_all b)).cons v
theorem srt_srt : ∀ s : Sh, s.srt.srt = s.srt
  | lf _ => rfl
  | nd v a b => by
    rw [srt_nd]
    by_cases h : b.least < a.least
    · rw [if_pos h]
      rw [srt_nd, srt_least, srt_least, if_neg (by omega), srt_srt a, srt_srt b]
    · rw [if_neg h]
      rw [srt_nd, srt_least, srt_least, if_neg h, srt_srt a, srt_srt b]
/-- The same tree, children in any order. -/
inductive Sw : Sh → Sh → Prop
  | lf (v : Nat) : Sw (.lf v) (.lf v)
  | nd (v : Nat) {a b a' b' : Sh} : Sw a a' → Sw b b' → Sw (.nd v a b) (.nd v a' b')
  | sw (v : Nat) {a b a' b' : Sh} : Sw a a' → Sw b b' → Sw (.nd v a b) (.nd v b' a')
theorem Sw.refl : ∀ s : Sh, Sw s s
  | .lf v => .lf v
  | .nd v a b => .nd v (Sw.refl a) (Sw.refl b)
theorem Sw.least {s s' : Sh} (h : Sw s s') : s.least = s'.least := by
  induction h with
  | lf v => rfl
  | nd v _ _ h1 h2 => show min _ _ = min _ _; rw [h1, h2]
  | sw v _ _ h1 h2 => show min _ _ = min _ _; rw [h1, h2, Nat.min_comm]
theorem Sw.inn {s s' : Sh} (h : Sw s s') : s.inn = s'.inn := by
  induction h with
  | lf v => rfl
  | nd v _ _ h1 h2 => show _ + _ + 1 = _ + _ + 1; rw [h1, h2]
  | sw v _ _ h1 h2 => show _ + _ + 1 = _ + _ + 1; rw [h1, h2]; omega
theorem Sw.top {s s' : Sh} (h : Sw s s') : s.top = s'.top := by cases h <;> rfl
theorem Sw.all {s s' : Sh} (h : Sw s s') : s.all.Perm s'.all := by
  induction h with
  | lf v => exact List.Perm.refl _
  | nd v _ _ h1 h2 => exact (h1.append h2).cons v
  | sw v _ _ h1 h2 => exact ((h1.append h2).trans List.perm_append_comm).cons v
theorem Sw.lvs {s s' : Sh} (h : Sw s s') : s.lvs.Perm s'.lvs := by
  induction h with
  | lf v => exact List.Perm.refl _
  | nd v _ _ h1 h2 => exact h1.append h2
  | sw v _ _ h1 h2 => exact (h1.append h2).trans List.perm_append_comm
theorem Sw.symm {s s' : Sh} (h : Sw s s') : Sw s' s := by
  induction h with
  | lf v => exact .lf v
  | nd v _ _ h1 h2 => exact .nd v h1 h2
  | sw v _ _ h1 h2 => exact .sw v h2 h1
theorem Sw.srtS : ∀ s : Sh, Sw s s.srt
  | .lf v => .lf v
  | .nd v a b => by
    unfold Sh.srt
    split
    · exact .sw v (Sw.srtS a) (Sw.srtS b)
    · exact .nd v (Sw.srtS a) (Sw.srtS b)
theorem Sw.map (f : Nat → Nat) {s s' : Sh} (h : Sw s s') : Sw (s.map f) (s'.map f) := by
  induction h with
  | lf v => exact .lf _
  | nd v _ _ h1 h2 => exact .nd _ h1 h2
  | sw v _ _ h1 h2 => exact .sw _ h1 h2
/-- The order in which it is numbered does not depend on the children's order. -/
theorem Sw.srt {s s' : Sh} (h : Sw s s') (hn : s.lvs.Nodup) : s.srt = s'.srt := by
  induction h with
  | lf v => rfl
  | nd v ha hb h1 h2 =>
    have hn1 := (List.nodup_append.1 hn).1
    have hn2 := (List.nodup_append.1 hn).2.1
    unfold Sh.srt
    rw [ha.least, hb.least, h1 hn1, h2 hn2]
  | @sw v a b a' b' ha hb h1 h2 =>
    obtain ⟨hn1, hn2, hn3⟩ := List.nodup_append.1 hn
    have hne : a.least ≠ b.least := fun e => hn3 _ (least_mem a) _ (least_mem b) e
    unfold Sh.srt
    rw [h1 hn1, h2 hn2]
    rw [ha.least, hb.least] at *
    rcases Nat.lt_or_ge b'.least a'.least with q | q
    · rw [if_pos q, if_neg (by omega)]
    · rw [if_neg (by omega), if_pos (by omega)]
theorem Sw.trans {s s' s'' : Sh} (h : Sw s s') (k : Sw s' s'') : Sw s s'' := by
  induction h generalizing s'' with
  | lf v => exact k
  | nd v _ _ h1 h2 =>
    cases k with
    | nd _ k1 k2 => exact .nd v (h1 k1) (h2 k2)
    | sw _ k1 k2 => exact .sw v (h1 k1) (h2 k2)
  | sw v _ _ h1 h2 =>
    cases k with
    | nd _ k1 k2 => exact .sw v (h1 k2) (h2 k1)
    | sw _ k1 k2 => exact .nd v (h1 k2) (h2 k1)
theorem map_lvs (f : Nat → Nat) : ∀ s : Sh, (s.map f).lvs = s.lvs.map f
  | lf _ => rfl
  | nd _ a b => by simp [map, lvs, map_lvs f a, map_lvs f b]
theorem map_all (f : Nat → Nat) : ∀ s : Sh, (s.map f).all = s.all.map f
  | lf _ => rfl
  | nd _ a b => by simp [map, all, map_all f a, map_all f b]
theorem map_inn (f : Nat → Nat) : ∀ s : Sh, (s.map f).inn = s.inn
  | lf _ => rfl
  | nd _ a b => by simp [map, inn, map_inn f a, map_inn f b]
theorem map_ni (f : Nat → Nat) : ∀ (s : Sh) (p : Int) (k : Nat), (s.map f).ni p k = (s.ni p k).map fun x => (x.1, f x.2)
  | lf _, _, _ => rfl
  | nd _ a b, p, k => by simp [map, ni, map_ni f a, map_ni f b, map_inn]
theorem map_pl (f : Nat → Nat) : ∀ (s : Sh) (p : Int) (k : Nat), (s.map f).pl p k = (s.pl p k).map fun x => (f x.1, x.2)
  | lf _, _, _ => rfl
  | nd _ a b, p, k => by simp [map, pl, map_pl f a, map_pl f b, map_inn]
theorem map_least (f : Nat → Nat) : ∀ s : Sh, (∀ u v, u ∈ s.lvs → v ∈ s.lvs → u < v → f u < f v) → (s.map f).least = f s.least
  | lf _, _ => rfl
  | nd _ a b, h => by
    have ha := map_least f a fun u v hu hv => h u v (List.mem_append_left _ hu) (List.mem_append_left _ hv)
    have hb := map_least f b fun u v hu hv => h u v (List.mem_append_right _ hu) (List.mem_append_right _ hv)
    show min (a.map f).least (b.map f).least = f (min a.least b.least)
    rw [ha, hb]
    have ma := List.mem_append_left b.lvs (least_mem a)
    have mb := List.mem_append_right a.lvs (least_mem b)
    rcases Nat.lt_trichotomy a.least b.least with q | q | q
    · have := h _ _ ma mb q
      rw [Nat.min_eq_left (by omega), Nat.min_eq_left (by omega)]
    · rw [q, Nat.min_self, Nat.min_self]
    · have := h _ _ mb ma q
      rw [Nat.min_eq_right (by omega), Nat.min_eq_right (by omega)]
theorem map_srt (f : Nat → Nat) : ∀ s : Sh, (∀ u v, u ∈ s.lvs → v ∈ s.lvs → u < v → f u < f v) → (s.map f).srt = s.srt.map f
  | lf _, _ => rfl
  | nd v a b, h => by
    have ha' : ∀ u v, u ∈ a.lvs → v ∈ a.lvs → u < v → f u < f v := fun u v hu hv => h u v (List.mem_append_left _ hu) (List.mem_append_left _ hv)
    have hb' : ∀ u v, u ∈ b.lvs → v ∈ b.lvs → u < v → f u < f v := fun u v hu hv => h u v (List.mem_append_right _ hu) (List.mem_append_right _ hv)
    have ma := List.mem_append_left b.lvs (least_mem a)
    have mb := List.mem_append_right a.lvs (least_mem b)
    show (nd (f v) (a.map f) (b.map f)).srt = _
    rw [srt_nd, srt_nd, map_least f a ha', map_least f b hb', map_srt f a ha', map_srt f b hb']
    rcases Nat.lt_trichotomy a.least b.least with q | q | q
    · have := h _ _ ma mb q
      rw [if_neg (by omega), if_neg (by omega)]; rfl
    · rw [q, if_neg (by omega), if_neg (by omega)]; rfl
    · have := h _ _ mb ma q
      rw [if_pos this, if_pos q]; rfl
end Sh
/-- A look-up of a leaf's parent. -/
def lkp (l : List (Nat × Int)) (v : Nat) : Int := ((l.find? fun x => decide (x.1 = v)).map (·.2)).getD 0
/-- The numbered tree: the inner nodes as they are met, then the leaves L. -/
def numS (t : List Nd) (L : List Nat) (s : Sh) : List Nd := (s.ni (-1) 0).map (fun x => (x.1, nS t x.2)) ++ L.map fun v => (lkp (s.pl (-1) 0) v, nS t v)
def numL (t : List Nd) (L : List Nat) (s : Sh) : List Nd := numS t L s.srt
theorem lkp_map {f : Nat → Nat} {v : Nat} : ∀ {l : List (Nat × Int)}, (∀ x, x ∈ l.map (·.1) → f x = f v → x = v) → lkp (l.map fun x => (f x.1, x.2)) (f v) = lkp l v := by
  intro l
  induction l with
  | nil => intro _; rfl
  | cons a l ih =>
    intro h
    unfold lkp
    rw [List.map_cons, List.find?_cons, List.find?_cons]
    by_cases e : a.1 = v
    · rw [decide_eq_true e, decide_eq_true (by rw [e])]; rfl
    · have e2 : ¬ f a.1 = f v := fun e3 => e (h a.1 (by simp) e3)
      rw [decide_eq_false e, decide_eq_false e2]
      exact ih fun x hx => h x (List.mem_cons_of_mem _ hx)
/-- Numbering depends on the names, and on the order of the leaves. -/
theorem numL_map {t t' : List Nd} {L : List Nat} {s : Sh} {f : Nat → Nat} (hf : ∀ u v, u ∈ s.lvs → v ∈ s.lvs → u < v → f u < f v) (hL : ∀ v, v ∈ L → v ∈ s.lvs) (hn : ∀ v, v ∈ s.all → nS t' (f v) = nS t v) :
    numL t' (L.map f) (s.map f) = numL t L s := by
  unfold numL numS
  rw [Sh.map_srt f s hf, Sh.map_ni, Sh.map_pl]
  have hinj : ∀ u v, u ∈ s.lvs → v ∈ s.lvs → f u = f v → u = v := fun u v hu hv e => by
    rcases Nat.lt_trichotomy u v with q | q | q
    · have := hf u v hu hv q; omega
    · exact q
    · have := hf v u hv hu q; omega
  congr 1
  · rw [List.map_map]
    refine List.map_congr_left fun x hx => ?_
    have key : ∀ (s : Sh) p k, ∀ x ∈ s.ni p k, x.2 ∈ s.all := by
      intro s
      induction s with
      | lf v => intro p k x hx; cases hx
      | nd v a b iha ihb =>
        intro p k x hx
        rcases List.mem_cons.1 hx with rfl | hx
        · exact List.mem_cons_self
        · rcases List.mem_append.1 hx with hx | hx
          · exact List.mem_cons_of_mem _ (List.mem_append_left _ (iha _ _ x hx))
          · exact List.mem_cons_of_mem _ (List.mem_append_right _ (ihb _ _ x hx))
    show (x.1, nS t' (f x.2)) = (x.1, nS t x.2)
    rw [hn x.2 ((Sh.srt_all s).mem_iff.1 (key _ _ _ x hx))]
  · rw [List.map_map]
    refine List.map_congr_left fun v hv => ?_
    show (lkp _ (f v), nS t' (f v)) = _
    rw [hn v (Sh.lvs_sub s v (hL v hv)), lkp_map fun x hx e => ?_]
    rw [Sh.pl_fst] at hx
    exact hinj x v ((Sh.srt_lvs s).mem_iff.1 hx) (hL v hv) e
theorem numL_sw {t : List Nd} {L : List Nat} {s s' : Sh} (h : Sh.Sw s s') (hn : s.lvs.Nodup) : numL t L s = numL t L s' := by
  unfold numL
  rw [h.srt hn]
end Go.Proofs.YtjmnakkkimgifaaGreatDoor
