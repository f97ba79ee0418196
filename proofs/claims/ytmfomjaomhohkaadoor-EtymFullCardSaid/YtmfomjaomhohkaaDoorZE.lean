/- etym.common; Sources, Kin. (*etym.Graph).Doublets; Path of no graph. (*etym.Graph).Doublets: its walk. The helpers of the statements: lists of numbers, links, pairs. New and Add. -/
import Derived.Test.YtmfomjaomhohkaaDoorZD
import Derived.Deep.QuietTactic
import Derived.BigQuiet
import Derived.ChangeKeysEq
import Derived.Test.YtmfomjaomhohkaaDoorZC
namespace Go.Proofs.YtmfomjaomhohkaaDoor
open Go Go.RowKit Go.Shelf
/-- Whether two lists have a common element. -/
def cmnI (l m : List Int) : Bool := l.any fun x => decide (x ∈ m)
theorem cmn_nil (l : List Int) : cmnI l [] = false := by unfold cmnI; simp
theorem cmn_same (x : Int) (l m : List Int) : cmnI (x :: l) (x :: m) = true := by unfold cmnI; simp
theorem cmn_lt {x y : Int} {l m : List Int} (h : x < y) (hm : (y :: m).Pairwise (· < ·)) : cmnI (x :: l) (y :: m) = cmnI l (y :: m) := by
  unfold cmnI
  rw [List.any_cons]
  have : x ∉ y :: m := fun e => by
    rcases List.mem_cons.1 e with e | e
    · omega
    · have := (List.pairwise_cons.1 hm).1 x e; omega
  rw [decide_eq_false this, Bool.false_or]
theorem cmn_gt {x y : Int} {l m : List Int} (h : y < x) (hl : (x :: l).Pairwise (· < ·)) : cmnI (x :: l) (y :: m) = cmnI (x :: l) m := by
  unfold cmnI
  have key : ∀ z ∈ x :: l, decide (z ∈ y :: m) = decide (z ∈ m) := fun z hz => by
    have hzy : z ≠ y := fun e => by
      rcases List.mem_cons.1 hz with e2 | e2
      · omega
      · have := (List.pairwise_cons.1 hl).1 z e2; omega
    simp [hzy]
  rw [Bool.eq_iff_iff, List.any_eq_true, List.any_eq_true]
  constructor
  · rintro ⟨z, hz, e⟩; exact ⟨z, hz, by rw [← key z hz]; exact e⟩
  · rintro ⟨z, hz, e⟩; exact ⟨z, hz, by rw [key z hz]; exact e⟩
/-- The rest of a row of ints. -/
def SlI (w : World) (v : Value) (xs : List Int) : Prop := ∃ A c, v = .slice A xs.length c ∧ xs.length ≤ c ∧ Rd w A (fl encI xs)
theorem SlI.drewN {w : World} {v : Value} {xs : List Int} (h : SlI w v xs) (n : Nat) : SlI (w.drewN n) v xs := h
theorem SlI.cons {w : World} {v : Value} {x : Int} {xs : List Int} (h : SlI w v (x :: xs)) : ∃ b o c o2, v = .slice (some ⟨b, o, none⟩) (xs.length + 1) c ∧ xs.length + 1 ≤ c ∧ w.cell? ⟨b, o, none⟩ = some (.int .i64 x) ∧ SlI w (.slice (some ⟨b, o2, none⟩) xs.length (c - 1)) xs ∧
    ∀ W', Sem.run Tryd.prog (Instr.slice 31 (.slice (some ⟨b, o, none⟩) (xs.length + 1) c) (some (.int .i64 1)) none none) W' = .ok (.slice (some ⟨b, o2, none⟩) xs.length (c - 1)) W' := by
  obtain ⟨A, c, rfl, hc, hR⟩ := h
  obtain ⟨b, o, rfl, hb, hcell⟩ := rdI hR (by simp)
  have hc : xs.length + 1 ≤ c := hc
  have hc0 := hcell 0 (by simp)
  refine ⟨b, o, c, if c = 1 then o else o + 1, rfl, hc, hc0, ⟨_, _, rfl, by omega, fun h0 => ⟨b, _, rfl, hb, fun i hi => ?_⟩⟩, fun W' => ?_⟩
  · rw [fl_length encI_len] at hi h0
    have h1 := hcell (i + 1) (by simp; omega)
    rw [if_neg (by omega), show o + 1 + i = o + (i + 1) by omega, h1]
    have h2 : (fl encI xs).getD i undef = .int .i64 (iA xs i) := by
      rw [fl_I, List.getD_eq_getElem?_getD, List.getElem?_map, List.getElem?_eq_getElem (show i < xs.length by omega)]
      unfold iA
      rw [List.getD_eq_getElem?_getD, List.getElem?_eq_getElem (show i < xs.length by omega)]; rfl
    rw [h2]; rfl
  · have hl1 : (1 : Int) ≤ ((xs.length + 1 : Nat) : Int) := by omega
    by_cases q : c = 1
    · subst q
      simp [go_sem]; omega
    · simp [go_sem, q]; omega
theorem own_lenQ {W : World} {base e k n : Nat} {v : Value} {xs : List Value} (h : W.ownsRow base e k v n xs) : xs.length = n * k := by
  rcases h.2 with ⟨_, rfl⟩ | ⟨g, cap, cur, _, _, _, h1, _, h2, h3⟩
  · have := h.1; simpa using this
  · rw [← h3, List.length_take, Array.length_toList, h2]
    have := Nat.mul_le_mul_right k h1
    omega
theorem slI_of_owns {w : World} {base n : Nat} {v : Value} {l : List Int} (h : w.ownsRow base 3 1 v n (fl encI l)) : SlI w v l := by
  have hn : n = l.length := by
    have := own_lenQ h
    rw [fl_length encI_len] at this
    omega
  subst hn
  obtain ⟨A, c, rfl, _⟩ := owns_slice h
  exact ⟨A, c, rfl, own_capQ h, rd_of_owns h⟩
set_option maxHeartbeats 4000000 in
set_option maxRecDepth 100000 in
theorem common_any (l m : List Int) (va vb : Value) (w : World) (hl : SlI w va l) (hm : SlI w vb m) (h1 : l.Pairwise (· < ·)) (h2 : m.Pairwise (· < ·)) (hll : l.length ≤ 1048576) (hml : m.length ≤ 1048576) :
    Calls Tryd.prog 37 #[va, vb] w fun e w' => e = .returned (.bool (cmnI l m)) ∧ ∃ n, w' = w.drewN n := by
  have HA := Lib.hid hl
  have HB := Lib.hid hm
  have HS1 := Lib.hid h1
  have HS2 := Lib.hid h2
  obtain ⟨Z, hZ⟩ : ∃ Z, Z = cmnI l m := ⟨_, rfl⟩
  have HZ : Hid (cmnI l m = Z) := hZ.symm
  rw [← hZ]
  have HL := Lib.hid hll
  have HM := Lib.hid hml
  clear hl hm h1 h2 hZ hll hml
  go_enter Tryd.func37, Tryd.ntmps37
  go_wp2_with fail
  go_loopg [0, 1] (l.length + m.length) (fun k va vb wr => ∃ (l' m' : List Int), k = l'.length + m'.length ∧ Hid (SlI wr va l') ∧ Hid (SlI wr vb m') ∧ Hid (l'.Pairwise (· < ·)) ∧ Hid (m'.Pairwise (· < ·)) ∧ Hid (cmnI l' m' = Z) ∧ Hid (l'.length ≤ 1048576) ∧ Hid (m'.length ≤ 1048576) ∧ Hid (∃ n, wr = w.drewN n))
  case atStart => exact ⟨l, m, rfl, HA, HB, HS1, HS2, HZ, HL, HM, (⟨0, rfl⟩ : ∃ n, w = w.drewN n)⟩
  case round =>
    clear HA HB HS1 HS2 HZ HL HM
    obtain ⟨l', m', rfl, hA, hB, hS1, hS2, hZ, hL, hM, hW⟩ := hrel
    cases l' with
    | nil =>
      obtain ⟨A, c, rfl, _, _⟩ := hA.out
      obtain ⟨A2, c2, rfl, _, _⟩ := hB.out
      have hz : Hid (Z = false) := hZ.out.symm
      clear hA hB hS1 hS2 hZ hL hM
      go_wp2_with fail
      go_ret
      exact ⟨by rw [hz.out]; rfl, hW.out⟩
    | cons x l' =>
      obtain ⟨b1, o1, c1, p1, rfl, hc1, hx1, hA2, hs1⟩ := hA.out.cons
      have hk1 : l'.length ≤ 1048576 := by have := hL.out; simp at this; omega
      have HA2 := Lib.hid hA2
      cases m' with
      | nil =>
        obtain ⟨A2, c2, rfl, _, _⟩ := hB.out
        have hz : Hid (Z = false) := by have h := hZ.out; rw [cmn_nil] at h; exact h.symm
        clear hA hB hS1 hS2 hZ hL hM hA2
        go_wp2_with fail
        go_ret
        exact ⟨by rw [hz.out]; rfl, hW.out⟩
      | cons y m' =>
        obtain ⟨b2, o2, c2, p2, rfl, hc2, hx2, hB2, hs2⟩ := hB.out.cons
        have hk2 : m'.length ≤ 1048576 := by have := hM.out; simp at this; omega
        have HB2 := Lib.hid hB2
        rcases Int.lt_trichotomy x y with hxy | hxy | hxy
        · have HZ2 : Hid (cmnI l' (y :: m') = Z) := by have h := hZ.out; rw [cmn_lt hxy hS2.out] at h; exact h
          have HS3 : Hid (l'.Pairwise (· < ·)) := (List.pairwise_cons.1 hS1.out).2
          have t1 : (x == y) = false := by simp; omega
          have t2 : decide (x = y) = false := by simp; omega
          have t3 : decide (x < y) = true := by simpa using hxy
          have HBB := Lib.hid hB.out
          have HK1 := Lib.hid hk1
          clear hA hB hS1 hZ hL hA2 hB2 hk1
          go_wp2_with fail
          go_quiet (fail)
          have HA3 := Lib.hid (HA2.out.drewN nq)
          have HB3 := Lib.hid (HBB.out.drewN nq)
          have HW3 : Hid (∃ k, wr.drewN nq = w.drewN k) := by obtain ⟨k, e⟩ := hW.out; exact ⟨k + nq, by rw [e]; simp⟩
          have hx3 : (wr.drewN nq).cell? ⟨b1, o1, none⟩ = some (.int .i64 x) := hx1
          have hy3 : (wr.drewN nq).cell? ⟨b2, o2, none⟩ = some (.int .i64 y) := hx2
          obtain ⟨w3, hw3⟩ : ∃ z, z = wr.drewN nq := ⟨_, rfl⟩
          rw [← hw3] at HA3 HB3 HW3 hx3 hy3 ⊢
          clear hw3 hx1 hx2 HA2 HB2 HBB hW
          go_wp2_with fail
          go_quiet (fail)
          have HA4 := Lib.hid (HA3.out.drewN nq)
          have HB4 := Lib.hid (HB3.out.drewN nq)
          have HW4 : Hid (∃ k, w3.drewN nq = w.drewN k) := by obtain ⟨k, e⟩ := HW3.out; exact ⟨k + nq, by rw [e]; simp⟩
          go_wp2_with fail
          go_roundg (l'.length + (y :: m').length)
          case measure => simp
          case rel => exact ⟨l', y :: m', rfl, HA4, HB4, HS3, hS2, HZ2, HK1, hM, HW4⟩
        · subst hxy
          have HZ2 : Hid (Z = true) := by have h := hZ.out; rw [cmn_same] at h; exact h.symm
          have t1 : (x == x) = true := by simp
          clear hA hB hS1 hS2 hZ hL hM hA2 hB2 hk1 hk2
          go_wp2_with fail
          go_quiet (fail)
          have HW3 : Hid (∃ k, wr.drewN nq = w.drewN k) := by obtain ⟨k, e⟩ := hW.out; exact ⟨k + nq, by rw [e]; simp⟩
          go_wp2_with fail
          go_ret
          exact ⟨by rw [HZ2.out]; rfl, HW3.out⟩
        · have HZ2 : Hid (cmnI (x :: l') m' = Z) := by have h := hZ.out; rw [cmn_gt hxy hS1.out] at h; exact h
          have HS3 : Hid (m'.Pairwise (· < ·)) := (List.pairwise_cons.1 hS2.out).2
          have t1 : (x == y) = false := by simp; omega
          have t2 : decide (x = y) = false := by simp; omega
          have t3 : decide (x < y) = false := by simp; omega
          have HAA := Lib.hid hA.out
          have HK2 := Lib.hid hk2
          clear hA hB hS2 hZ hM hA2 hB2 hk2
          go_wp2_with fail
          go_quiet (fail)
          have HA3 := Lib.hid (HAA.out.drewN nq)
          have HB3 := Lib.hid (HB2.out.drewN nq)
          have HW3 : Hid (∃ k, wr.drewN nq = w.drewN k) := by obtain ⟨k, e⟩ := hW.out; exact ⟨k + nq, by rw [e]; simp⟩
          have hx3 : (wr.drewN nq).cell? ⟨b1, o1, none⟩ = some (.int .i64 x) := hx1
          have hy3 : (wr.drewN nq).cell? ⟨b2, o2, none⟩ = some (.int .i64 y) := hx2
          obtain ⟨w3, hw3⟩ : ∃ z, z = wr.drewN nq := ⟨_, rfl⟩
          rw [← hw3] at HA3 HB3 HW3 hx3 hy3 ⊢
          clear hw3 hx1 hx2 HA2 HB2 HAA hW
          go_wp2_with fail
          go_quiet (fail)
          have HA4 := Lib.hid (HA3.out.drewN nq)
          have HB4 := Lib.hid (HB3.out.drewN nq)
          have HW4 : Hid (∃ k, w3.drewN nq = w.drewN k) := by obtain ⟨k, e⟩ := HW3.out; exact ⟨k + nq, by rw [e]; simp⟩
          go_wp2_with fail
          go_roundg ((x :: l').length + m'.length)
          case measure => simp
          case rel => exact ⟨x :: l', m', rfl, HA4, HB4, hS1, HS3, HZ2, hL, HK2, HW4⟩
/-- What Sources answers. -/
def srcO (ls : List Lk) (N : Nat) (n : Int) : List Nat := if hasB n N then srcL ls N n.toNat else []
theorem has_nat {n : Int} {N : Nat} (h : hasB n N = true) : ∃ k : Nat, n = k ∧ k < N := by
  unfold hasB at h
  simp at h
  exact ⟨n.toNat, by omega, by omega⟩
theorem ckE_one (N : Nat) (n : Int) : ckE N [n] = if hasB n N then 0 else 3 := by unfold ckE; simp
theorem ckE_two (N : Nat) (n m : Int) : ckE N [n, m] = if hasB n N && hasB m N then 0 else 3 := by unfold ckE; simp
theorem srcL_len (ls : List Lk) (N n : Nat) : (srcL ls N n).length ≤ N := by
  have := List.length_filter_le (fun a => decide (a ∈ abL ls N n) && noFr ls a) (List.range N)
  rw [List.length_range] at this; exact this
theorem srcL_pw (ls : List Lk) (N n : Nat) : ((srcL ls N n).map Int.ofNat).Pairwise (· < ·) := by
  rw [List.pairwise_map]
  refine (List.Pairwise.filter _ List.pairwise_lt_range).imp fun {a b} h => ?_
  show (a : Int) < b
  omega
set_option maxHeartbeats 2000000 in
set_option maxRecDepth 100000 in
theorem gsources_any {w : World} {O : Nat → Prop} {g : Nat} {r : GrA} {es : List Et} {ls : List Lk} (h : GrAt w O g r es ls) (n : Int) :
    Calls Tryd.prog 13 #[.pointer (some ⟨g, 0, none⟩), .int .i64 n] w fun e w' => ∃ v, e = .returned (.tuple #[v, .int .i64 (ckE es.length [n])]) ∧ w'.ownsRow w.heap.size 3 1 v (srcO ls es.length n).length (fl encI ((srcO ls es.length n).map Int.ofNat)) ∧ Below w.heap.size w w' := by
  have hb0 := bl_alloc (Below.refl _ w) (.cells #[.int .i64 n] 3)
  have HC := Lib.hid (check_yes (h.bl hb0) (some ⟨w.heap.size, 0, none⟩) 1 1 [n] rfl (by omega) (rd_of_blkQ (t := 3) (Blk.new w _ _)))
  have HB0 := Lib.hid hb0
  have hck := ckE_one es.length n
  cases hx : hasB n es.length with
  | false =>
    have hS : Hid (srcO ls es.length n = []) := by show _ = _; unfold srcO; rw [hx]; rfl
    rw [hx] at hck
    have hck : ckE es.length [n] = 3 := hck
    rw [hck] at HC ⊢
    clear h hb0 hck hx
    go_enter Tryd.func13, Tryd.ntmps13
    go_wp2_with first | fail | (refine HC.out.mono ?_; rintro e w1 ⟨rfl, hw⟩; subst w1)
    go_ret2
    exact ⟨_, rfl, by rw [hS.out]; exact World.ownsRow_nil _ _ _ _, HB0.out⟩
  | true =>
    obtain ⟨k, rfl, hk⟩ := has_nat hx
    have hS : Hid (srcO ls es.length (k : Int) = srcL ls es.length k) := by show _ = _; unfold srcO; rw [hx]; rfl
    rw [hx] at hck
    have hck : ckE es.length [(k : Int)] = 0 := hck
    rw [hck] at HC ⊢
    have HSR := Lib.hid (sources_any (h.bl hb0) k hk)
    clear h hb0 hck hx
    go_enter Tryd.func13, Tryd.ntmps13
    go_wp2_with first | fail | (go_at_call 35; refine HC.out.mono ?_; rintro e w1 ⟨rfl, hw⟩; subst w1) | (go_at_call 36; refine HSR.out.mono ?_; rintro e w2 ⟨v, rfl, h1, h2⟩; have H1 := Lib.hid h1; have H2 := Lib.hid h2; clear h1 h2)
    go_ret2
    refine ⟨_, rfl, ?_, HB0.out.trans (H2.out.mono HB0.out.size)⟩
    rw [hS.out]
    exact owns_mono H1.out HB0.out.size
set_option maxHeartbeats 1000000 in
set_option maxRecDepth 100000 in
theorem gsources_no {w : World} {v : Value} (h : GrNo w v) (n : Int) :
    Calls Tryd.prog 13 #[v, .int .i64 n] w fun e w' => e = .returned (.tuple #[.slice none 0 0, .int .i64 1]) ∧ Below w.heap.size w w' := by
  have hb0 := bl_alloc (Below.refl _ w) (.cells #[.int .i64 n] 3)
  have HC := Lib.hid (check_no (h.bl hb0) (.slice (some ⟨w.heap.size, 0, none⟩) 1 1))
  have HB0 := Lib.hid hb0
  clear h hb0
  go_enter Tryd.func13, Tryd.ntmps13
  go_wp2_with first | fail | (refine HC.out.mono ?_; rintro e w1 ⟨rfl, hw⟩; subst w1)
  go_ret2
  exact ⟨rfl, HB0.out⟩
/-- What Kin answers. -/
def kinB (ls : List Lk) (N : Nat) (a b : Nat) : Bool := cmnI ((srcL ls N a).map Int.ofNat) ((srcL ls N b).map Int.ofNat)
def kinO (ls : List Lk) (N : Nat) (a b : Int) : Bool := hasB a N && hasB b N && kinB ls N a.toNat b.toNat
set_option maxHeartbeats 2000000 in
set_option maxRecDepth 100000 in
theorem kin_any {w : World} {O : Nat → Prop} {g : Nat} {r : GrA} {es : List Et} {ls : List Lk} (h : GrAt w O g r es ls) (a b : Int) :
    Calls Tryd.prog 15 #[.pointer (some ⟨g, 0, none⟩), .int .i64 a, .int .i64 b] w fun e w' => e = .returned (.tuple #[.bool (kinO ls es.length a b), .int .i64 (ckE es.length [a, b])]) ∧ Below w.heap.size w w' := by
  have hb0 := bl_alloc (Below.refl _ w) (.cells #[.int .i64 a, .int .i64 b] 3)
  have HC := Lib.hid (check_yes (h.bl hb0) (some ⟨w.heap.size, 0, none⟩) 2 2 [a, b] rfl (by omega) (rd_of_blkQ (t := 3) (Blk.new w _ _)))
  have HB0 := Lib.hid hb0
  have hck := ckE_two es.length a b
  cases hx : (hasB a es.length && hasB b es.length) with
  | false =>
    have hS : Hid (kinO ls es.length a b = false) := by show _ = _; unfold kinO; rw [hx]; rfl
    rw [hx] at hck
    have hck : ckE es.length [a, b] = 3 := hck
    rw [hck] at HC ⊢
    rw [hS.out]
    clear h hb0 hck hx
    go_enter Tryd.func15, Tryd.ntmps15
    go_wp2_with first | fail | (refine HC.out.mono ?_; rintro e w1 ⟨rfl, hw⟩; subst w1)
    go_ret2
    exact ⟨rfl, HB0.out⟩
  | true =>
    obtain ⟨ha, hb⟩ := Bool.and_eq_true_iff.1 hx
    obtain ⟨p, rfl, hp⟩ := has_nat ha
    obtain ⟨q, rfl, hq⟩ := has_nat hb
    have hS : Hid (kinO ls es.length (p : Int) (q : Int) = kinB ls es.length p q) := by show _ = _; unfold kinO; rw [hx]; rfl
    rw [hx] at hck
    have hck : ckE es.length [(p : Int), (q : Int)] = 0 := hck
    rw [hck] at HC ⊢
    rw [hS.out]
    have HSR : Hid (∀ k, k < es.length → ∀ W, Below w.heap.size w W → Calls Tryd.prog 36 #[.pointer (some ⟨g, 0, none⟩), .int .i64 (k : Nat)] W (SrcPost W (srcL ls es.length k))) := fun k hk W hW => sources_any (h.bl hW) k hk
    have hnE := h.nE
    clear h hb0 hck hx ha hb
    go_enter Tryd.func15, Tryd.ntmps15
    go_wp2_with first | fail | (go_at_call 35; refine HC.out.mono ?_; rintro e w1 ⟨rfl, hw⟩; subst w1)
    refine (HSR.out p hp _ HB0.out).mono ?_
    rintro e w2 ⟨v1, rfl, o1, b1⟩
    have hb2 := HB0.out.trans (b1.mono HB0.out.size)
    have O1 := Lib.hid o1
    have B2 := Lib.hid hb2
    clear o1 b1 hb2
    go_wp2_with fail
    refine (HSR.out q hq _ B2.out).mono ?_
    rintro e w3 ⟨v2, rfl, o2, b3⟩
    have HCM := Lib.hid (common_any _ _ v1 v2 w3 (slI_of_owns (owns_below O1.out b3)) (slI_of_owns o2) (srcL_pw ls es.length p) (srcL_pw ls es.length q) (by rw [List.length_map]; have := srcL_len ls es.length p; omega) (by rw [List.length_map]; have := srcL_len ls es.length q; omega))
    have B3 := Lib.hid (B2.out.trans (b3.mono B2.out.size))
    clear o2 b3
    go_wp2_with fail
    refine HCM.out.mono ?_
    rintro e w4 ⟨rfl, n, rfl⟩
    have B4 := Lib.hid (bl_drewN B3.out n)
    clear HCM
    go_wp2_with fail
    go_ret2
    exact ⟨rfl, B4.out⟩
set_option maxHeartbeats 1000000 in
set_option maxRecDepth 100000 in
theorem kin_no {w : World} {v : Value} (h : GrNo w v) (a b : Int) :
    Calls Tryd.prog 15 #[v, .int .i64 a, .int .i64 b] w fun e w' => e = .returned (.tuple #[.bool false, .int .i64 1]) ∧ Below w.heap.size w w' := by
  have hb0 := bl_alloc (Below.refl _ w) (.cells #[.int .i64 a, .int .i64 b] 3)
  have HC := Lib.hid (check_no (h.bl hb0) (.slice (some ⟨w.heap.size, 0, none⟩) 2 2))
  have HB0 := Lib.hid hb0
  clear h hb0
  go_enter Tryd.func15, Tryd.ntmps15
  go_wp2_with first | fail | (refine HC.out.mono ?_; rintro e w1 ⟨rfl, hw⟩; subst w1)
  go_ret2
  exact ⟨rfl, HB0.out⟩
set_option maxHeartbeats 1000000 in
set_option maxRecDepth 100000 in
theorem at_out {w : World} {O : Nat → Prop} {g : Nat} {r : GrA} {es : List Et} {ls : List Lk} (h : GrAt w O g r es ls) (n : Int) (hn : hasB n es.length = false) :
    Calls Tryd.prog 28 #[.pointer (some ⟨g, 0, none⟩), .int .i64 n] w fun e w' => e = .returned (.tuple #[.string ByteArray.empty, .slice none 0 0, .bool false]) ∧ w' = w := by
  have h1 := has_yes h n
  rw [hn] at h1
  have HM := Lib.hid h1
  clear h h1 hn
  go_enter Tryd.func28, Tryd.ntmps28
  go_wp2_with first | fail | (refine HM.out.mono ?_; rintro e w1 ⟨rfl, hw⟩; subst w1)
  go_ret3
  exact ⟨rfl, rfl⟩
end Go.Proofs.YtmfomjaomhohkaaDoor
namespace Go.Proofs.YtmfomjaomhohkaaDoor
open Go Go.RowKit Go.Shelf
set_option maxHeartbeats 1000000 in
set_option maxRecDepth 100000 in
theorem path_no {w : World} {v : Value} (h : GrNo w v) (n s : Int) :
    Calls Tryd.prog 19 #[v, .int .i64 n, .int .i64 s] w fun e w' => e = .returned (.tuple #[.slice none 0 0, .bool false, .int .i64 1]) ∧ Below w.heap.size w w' := by
  obtain ⟨o, rfl⟩ : ∃ o, v = .pointer o := by
    rcases h with rfl | ⟨g, rfl, _⟩
    · exact ⟨_, rfl⟩
    · exact ⟨_, rfl⟩
  have hb0 := bl_alloc (bl_alloc (bl_alloc (Below.refl _ w) (.cells #[.pointer o] 23)) (.cells #[.int .i64 n] 3)) (.cells #[.int .i64 n, .int .i64 s] 3)
  have hC := check_no (h.bl hb0) (.slice (some ⟨w.heap.size + 2, 0, none⟩) 2 2)
  have c0 := ((Blk.new w #[.pointer o] 23).alloc (.cells #[.int .i64 n] 3)).cell 0
  have c1 := (Blk.new2 w (.cells #[.pointer o] 23) #[.int .i64 n] 3).cell 0
  have HC := Lib.hid hC
  have HB := Lib.hid hb0
  clear h hb0 hC
  refine (callsIn_wide (n := 10)).1 ?_
  refine callsIn_of_wp_marks Tryd.func19 rfl trivial ?_ rfl
  simp only [Tryd.ntmps19, List.size_toArray, List.length_cons, List.length_nil, Nat.reduceAdd, Nat.reduceSub, Array.replicate_succ, Array.replicate_zero, List.push_toArray, List.append_toArray, List.nil_append, List.cons_append]
  refine wpIn_wide.2 ?_
  go_wp2_with fail
  refine HC.out.mono ?_
  rintro e w5 ⟨rfl, hw⟩
  subst w5
  go_wp2_with fail
  refine leaves_all [] _ List.nodup_nil (fun D h => by cases h) fun W' ht => ⟨_, results_tmp3 rfl _ _ _, ?_⟩
  exact ⟨rfl, ht.below HB.out (fun D h => by cases h)⟩
/-- Pairs. -/
def encP (x : Nat × Nat) : List Value := [.int .i64 (x.1 : Int), .int .i64 (x.2 : Int)]
theorem encP_len (x : Nat × Nat) : (encP x).length = 2 := rfl
theorem encP_one : ∀ x : Nat × Nat, ∀ u ∈ encP x, u.oneCell' = true := by
  intro x u hu
  simp only [encP, List.mem_cons, List.not_mem_nil, or_false] at hu
  rcases hu with rfl | rfl <;> rfl
theorem infoP : (Tryd.prog.info? 43).map (fun i => (i.zero, i.size, i.bytes)) = some (some (.agg #[.int .i64 0, .int .i64 0]), 2, 16) := by kernel_rfl
/-- The words of a language. -/
def ownL (es : List Et) (lang : ByteArray) (n : Nat) : List Nat := (List.range n).filter fun i => decide ((es.getD i etD).1 = lang)
theorem ownL_succ (es : List Et) (lang : ByteArray) (n : Nat) : ownL es lang (n + 1) = ownL es lang n ++ if (es.getD n etD).1 = lang then [n] else [] := by
  unfold ownL
  rw [List.range_succ, List.filter_append]
  congr 1
  by_cases q : (es.getD n etD).1 = lang
  · rw [if_pos q, List.filter_cons, if_pos (by simpa using q)]; rfl
  · rw [if_neg q, List.filter_cons, if_neg (by simpa using q)]; rfl
theorem ownL_len (es : List Et) (lang : ByteArray) (n : Nat) : (ownL es lang n).length ≤ n := by
  have := List.length_filter_le (fun i => decide ((es.getD i etD).1 = lang)) (List.range n)
  rw [List.length_range] at this; exact this
theorem ownL_lt {es : List Et} {lang : ByteArray} {n a : Nat} (h : a ∈ ownL es lang n) : a < n := by
  unfold ownL at h
  exact List.mem_range.1 (List.mem_filter.1 h).1
/-- The pairs of a word with those before k. -/
def dbI (ls : List Lk) (N : Nat) (ids : List Nat) (i k : Nat) : List (Nat × Nat) := ((List.range k).filter fun k => decide (i < k) && kinB ls N (ids.getD i 0) (ids.getD k 0)).map fun k => (ids.getD i 0, ids.getD k 0)
def dbO (ls : List Lk) (N : Nat) (ids : List Nat) (i : Nat) : List (Nat × Nat) := (List.range i).flatMap fun i => dbI ls N ids i ids.length
/-- What Doublets answers. -/
def dblL (es : List Et) (ls : List Lk) (lang : ByteArray) : List (Nat × Nat) := dbO ls es.length (ownL es lang es.length) (ownL es lang es.length).length
theorem dbI_zero (ls : List Lk) (N : Nat) (ids : List Nat) (i : Nat) : dbI ls N ids i (i + 1) = [] := by
  unfold dbI
  rw [List.filter_eq_nil_iff.2 fun k hk => by have := List.mem_range.1 hk; simp; intro h; omega]; rfl
theorem dbI_succ (ls : List Lk) (N : Nat) (ids : List Nat) {i k : Nat} (h : i < k) : dbI ls N ids i (k + 1) = dbI ls N ids i k ++ if kinB ls N (ids.getD i 0) (ids.getD k 0) then [(ids.getD i 0, ids.getD k 0)] else [] := by
  unfold dbI
  rw [List.range_succ, List.filter_append, List.map_append]
  congr 1
  by_cases q : kinB ls N (ids.getD i 0) (ids.getD k 0) = true
  · rw [if_pos q, List.filter_cons, if_pos (by rw [q, decide_eq_true h]; rfl)]; rfl
  · rw [if_neg q, List.filter_cons, if_neg (by rw [Bool.not_eq_true] at q; rw [q, Bool.and_false]; decide)]; rfl
theorem dbO_succ (ls : List Lk) (N : Nat) (ids : List Nat) (i : Nat) : dbO ls N ids (i + 1) = dbO ls N ids i ++ dbI ls N ids i ids.length := by
  unfold dbO
  rw [List.range_succ, List.flatMap_append]; simp
/-- The words of a language and their sources, in memory. -/
structure DbI (w W : World) (ls : List Lk) (N : Nat) (ids : List Nat) (rs : List Rw) (vo vf : Value) : Prop where
  own : W.ownsRow w.heap.size 3 1 vo ids.length (fl encI (ids.map Int.ofNat))
  frm : W.ownsRow w.heap.size 31 1 vf ids.length (fl encR rs)
  len : rs.length = ids.length
  row : ∀ i, i < ids.length → W.ownsRow w.heap.size 3 1 (slR (rs.getD i (none, 0, 0))) (srcL ls N (ids.getD i 0)).length (fl encI ((srcL ls N (ids.getD i 0)).map Int.ofNat))
  dis : ∀ i b, i < ids.length → (slR (rs.getD i (none, 0, 0))).ownBlock = some b → vo.ownBlock ≠ some b
  bl : Below w.heap.size w W
theorem DbI.nil (w : World) (ls : List Lk) (N : Nat) : DbI w w ls N [] [] (.slice none 0 0) (.slice none 0 0) :=
  ⟨World.ownsRow_nil _ _ _ _, World.ownsRow_nil _ _ _ _, rfl, fun _ h => absurd h (Nat.not_lt_zero _), fun _ _ h => absurd h (Nat.not_lt_zero _), Below.refl _ _⟩
theorem DbI.belowW {w W W' : World} {ls : List Lk} {N : Nat} {ids : List Nat} {rs : List Rw} {vo vf : Value} (h : DbI w W ls N ids rs vo vf) (hb : Below W.heap.size W W') : DbI w W' ls N ids rs vo vf :=
  ⟨owns_below h.own hb, owns_below h.frm hb, h.len, fun i hi => owns_below (h.row i hi) hb, h.dis, h.bl.trans (hb.mono h.bl.size)⟩
/-- A word more. -/
theorem DbI.push {w W W1 W2 W3 W4 : World} {ls : List Lk} {N n : Nat} {ids : List Nat} {rs : List Rw} {vo vf vo' vf' : Value} {o : Obj} {A : Option Addr} {c : Nat} (h : DbI w W ls N ids rs vo vf) (hb1 : Below W.heap.size W W1)
    (h1 : W2.ownsRow w.heap.size 3 1 vo' (ids.length + 1) (fl encI ((ids ++ [n]).map Int.ofNat))) (h2 : W1.grownBy W2 vo.ownBlock) (h3 : vo'.ownBlock = vo.ownBlock ∨ vo'.ownBlock = some W1.heap.size)
    (h4 : W3.ownsRow W2.heap.size 3 1 (.slice A (srcL ls N n).length c) (srcL ls N n).length (fl encI ((srcL ls N n).map Int.ofNat))) (h5 : Below W2.heap.size W2 W3)
    (h6 : W4.ownsRow w.heap.size 31 1 vf' (ids.length + 1) (fl encR (rs ++ [(A, (srcL ls N n).length, c)]))) (h7 : (W3.alloc o).grownBy W4 vf.ownBlock) :
    DbI w W4 ls N (ids ++ [n]) (rs ++ [(A, (srcL ls N n).length, c)]) vo' vf' := by
  have hlen : (ids ++ [n]).length = ids.length + 1 := by simp
  have gi : ∀ i, (ids ++ [n]).getD i 0 = if i < ids.length then ids.getD i 0 else if i = ids.length then n else 0 := fun i => getD_snoc _ _ _ _
  have gr : ∀ i, (rs ++ [((A, (srcL ls N n).length, c) : Rw)]).getD i (none, 0, 0) = if i < ids.length then rs.getD i (none, 0, 0) else if i = ids.length then (A, (srcL ls N n).length, c) else (none, 0, 0) := fun i => by rw [getD_snoc, h.len]
  have hz1 := hb1.size
  have hz2 := h2.size
  have hz3 := h5.size
  have hvf : ∀ b, vf.ownBlock = some b → kind (W3.alloc o) b = some (some 31) := fun b e => by
    have g1 := own_kind h.frm e
    have l1 := (h.frm.lt b e).2
    have l2 : vo.ownBlock ≠ some b := fun e2 => by
      have g2 := own_kind h.own e2
      rw [g1] at g2; exact absurd g2 (by decide)
    have e1 : W1.heap[b]? = W.heap[b]? := hb1.block b l1
    have e2 : W2.heap[b]? = W1.heap[b]? := h2.block b (by omega) fun q => l2 q.symm
    have e3 : W3.heap[b]? = W2.heap[b]? := h5.block b (by omega)
    have e4 : (W3.alloc o).heap[b]? = W3.heap[b]? := Below.heap_alloc W3 o b (by omega)
    rw [kindQ_of (e4.trans (e3.trans (e2.trans e1)))]; exact g1
  have hI : ∀ {v : Value} {m : Nat} {xs : List Value}, W3.ownsRow w.heap.size 3 1 v m xs → W4.ownsRow w.heap.size 3 1 v m xs := fun {v m xs} hv => by
    refine (hv.alloc o).kept h7 ?_
    cases q : v.ownBlock with
    | none => exact .inl rfl
    | some b =>
      refine .inr fun e => ?_
      have g1 := own_kind (hv.alloc o) q
      rw [hvf b e.symm] at g1
      exact absurd g1 (by decide)
  refine ⟨?_, ?_, ?_, ?_, ?_, ?_⟩
  · rw [hlen]; exact hI (owns_below h1 h5)
  · rw [hlen]; exact h6
  · rw [List.length_append, hlen, h.len]; rfl
  · intro i hi
    rw [hlen] at hi
    rw [gi, gr]
    by_cases q : i < ids.length
    · rw [if_pos q, if_pos q]
      refine hI (owns_below ((owns_below (h.row i q) hb1).kept h2 ?_) h5)
      cases e : (slR (rs.getD i (none, 0, 0))).ownBlock with
      | none => exact .inl rfl
      | some b => exact .inr fun e2 => h.dis i b q e e2.symm
    · have e : i = ids.length := by omega
      rw [if_neg q, if_pos e, if_neg q, if_pos e]
      exact hI (owns_mono h4 (by have := h.bl.size; omega))
  · intro i b hi e e2
    rw [hlen] at hi
    rw [gr] at e
    by_cases q : i < ids.length
    · rw [if_pos q] at e
      rcases h3 with k | k
      · exact h.dis i b q e (k ▸ e2)
      · have := ((h.row i q).lt b e).2
        rw [k] at e2; cases e2; omega
    · have e1 : i = ids.length := by omega
      rw [if_neg q, if_pos e1] at e
      have g1 := (h4.lt b e).1
      have g2 := (h1.lt b e2).2
      omega
  · refine ⟨h7.os.trans (h5.os.trans (h2.os.trans (hb1.os.trans h.bl.os))), h7.tape.trans (h5.tape.trans (h2.tape.trans (hb1.tape.trans h.bl.tape))), h7.output.trans (h5.output.trans (h2.output.trans (hb1.output.trans h.bl.output))), ?_, fun k hk => ?_⟩
    · have := h7.size
      have : (W3.alloc o).heap.size = W3.heap.size + 1 := by simp
      have := h.bl.size
      omega
    · have l0 := h.bl.size
      have n1 : vf.ownBlock ≠ some k := fun e => by have := (h.frm.lt k e).1; omega
      have n2 : vo.ownBlock ≠ some k := fun e => by have := (h.own.lt k e).1; omega
      exact (h7.block k (by simp; omega) fun e => n1 e.symm).trans ((Below.heap_alloc W3 o k (by omega)).trans ((h5.block k (by omega)).trans ((h2.block k (by omega) fun e => n2 e.symm).trans ((hb1.block k (by omega)).trans (h.bl.block k hk)))))
end Go.Proofs.YtmfomjaomhohkaaDoor
namespace Go.Proofs.YtmfomjaomhohkaaDoor
open Go Go.RowKit Go.Shelf
set_option maxHeartbeats 1000000 in
set_option maxRecDepth 100000 in
theorem doublets_no {w : World} {v : Value} (h : GrNo w v) (lang : ByteArray) :
    Calls Tryd.prog 17 #[v, .string lang] w fun e w' => e = .returned (.slice none 0 0) ∧ w' = w := by
  have HM := Lib.hid (made_no h)
  clear h
  go_enter Tryd.func17, Tryd.ntmps17
  go_wp2_with first | fail | (refine HM.out.mono ?_; rintro e w1 ⟨rfl, hw⟩; subst w1)
  go_ret
  exact ⟨rfl, rfl⟩
def DbPost (w : World) (l : List (Nat × Nat)) (e : Ending) (w' : World) : Prop :=
  ∃ v, e = .returned v ∧ w'.ownsRow w.heap.size 43 2 v l.length (fl encP l) ∧ Below w.heap.size w w'
set_option maxHeartbeats 4000000 in
set_option maxRecDepth 100000 in
theorem doublets_any {w : World} {O : Nat → Prop} {g : Nat} {r : GrA} {es : List Et} {ls : List Lk} (h : GrAt w O g r es ls) (lang : ByteArray) :
    Calls Tryd.prog 17 #[.pointer (some ⟨g, 0, none⟩), .string lang] w (DbPost w (dblL es ls lang)) := by
  have HM := Lib.hid (made_yes h)
  have c0 : w.cell? ⟨g, 0, none⟩ = some (.slice r.A es.length r.c) := h.blk.cell 0
  have hnE := h.nE
  have hcA := own_capQ h.list
  have HG := Lib.hid h
  have HSR : Hid (∀ k, k < es.length → ∀ W, Below w.heap.size w W → Calls Tryd.prog 36 #[.pointer (some ⟨g, 0, none⟩), .int .i64 (k : Nat)] W (SrcPost W (srcL ls es.length k))) := fun k hk W hW => sources_any (h.bl hW) k hk
  have HL : Hid (∀ k, k < es.length → ∃ ba, r.A = some ⟨ba, 0, none⟩ ∧ ∃ v1 v2 v3 v4 v5 v6 v7 v8 v9, ∀ W, Below w.heap.size w W → W.cell? ⟨ba, k * 4, none⟩ = some (.string (es.getD k etD).1) ∧ W.cell? ⟨ba, k * 4 + 1, none⟩ = some (.slice v1 v2 v3) ∧ W.cell? ⟨ba, k * 4 + 2, none⟩ = some (.slice v4 v5 v6) ∧ W.cell? ⟨ba, k * 4 + 3, none⟩ = some (.slice v7 v8 v9)) := fun k hk => by
    obtain ⟨ba, hba⟩ := own_off h.list (by omega)
    have hbl := (h.list.lt ba (by rw [hba]; rfl)).2
    obtain ⟨_, _, e, _, hc⟩ := rdEn (rd_of_owns h.list) (by rw [h.len]; omega)
    rw [hba] at e
    cases e
    obtain ⟨q1, q2, q3, q4⟩ := hc k (by rw [h.len]; exact hk)
    rw [Nat.zero_add] at q1 q2 q3 q4
    rw [h.lang k hk] at q1
    exact ⟨ba, hba, _, _, _, _, _, _, _, _, _, fun W hW => ⟨(hW.cell (p := ⟨ba, k * 4, none⟩) hbl).trans q1, (hW.cell (p := ⟨ba, k * 4 + 1, none⟩) hbl).trans q2, (hW.cell (p := ⟨ba, k * 4 + 2, none⟩) hbl).trans q3, (hW.cell (p := ⟨ba, k * 4 + 3, none⟩) hbl).trans q4⟩⟩
  clear h
  obtain ⟨N, hN⟩ : ∃ N, N = es.length := ⟨_, rfl⟩
  rw [← hN] at c0 hnE hcA HL HSR
  have HN := Lib.hid hN
  clear hN
  go_enter Tryd.func17, Tryd.ntmps17
  go_wp2_with first | fail | (go_at_call 34; refine HM.out.mono ?_; rintro e w1 ⟨rfl, hw⟩; subst w1)
  have HD0 : Hid (DbI w w ls N (ownL es lang 0) [] (.slice none 0 0) (.slice none 0 0)) := DbI.nil w ls N
  go_loopw [20, 5, 6] (fun x vo vf wr => ∃ (n : Nat) (rs : List Rw), n ≤ N ∧ x = .int .i64 n ∧ Hid (DbI w wr ls N (ownL es lang n) rs vo vf)) (fun x _ _ _ => N - (intOf x).toNat)
  case atStart => exact ⟨0, [], by omega, rfl, HD0⟩
  case round =>
    clear HD0 c0
    obtain ⟨n, rs, hn, rfl, hD⟩ := hrel
    obtain ⟨oa, oc, rfl, _⟩ := owns_slice hD.out.own
    obtain ⟨fa, fc, rfl, _⟩ := owns_slice hD.out.frm
    have hol := ownL_len es lang n
    have hsc := ownL_succ es lang n
    by_cases hlt : n < N
    · obtain ⟨ba, hba, v1, v2, v3, v4, v5, v6, v7, v8, v9, hcl⟩ := HL.out n hlt
      obtain ⟨c1, c2, c3, c4⟩ := hcl wr hD.out.bl
      rw [hba]
      obtain ⟨s, hs⟩ : ∃ s, s = (es.getD n etD).1 := ⟨_, rfl⟩
      rw [← hs] at c1 hsc
      have hw1 : IntKind.i64.wrap ((n : Int) + 1) = ((n + 1 : Nat) : Int) := wrap_nat _ _ (by omega) (by omega)
      have HSC := Lib.hid hsc
      obtain ⟨m, hm⟩ : ∃ m, m = (ownL es lang n).length := ⟨_, rfl⟩
      rw [← hm] at hol ⊢
      have HM := Lib.hid hm
      clear hcl hba hs hsc hm
      by_cases e : s = lang
      · have t1 : (s.toList == lang.toList) = true := by simp [e]
        have t2 : decide (s.toList = lang.toList) = true := by simp [e]
        have HE := Lib.hid e
        clear e
        have hbE := bl_alloc (Below.refl _ wr) (.cells #[.string s, .slice v1 v2 v3, .slice v4 v5 v6, .slice v7 v8 v9] 82)
        have hbN := bl_alloc hbE (.cells #[.int .i64 (n : Int)] 3)
        have HOW := Lib.hid (owns_below hD.out.own hbN)
        rw [← HM.out] at HOW
        have HBN := Lib.hid hbN
        have HBW := Lib.hid (hD.out.bl.trans (hbN.mono hD.out.bl.size))
        have hbs := HBW.out.size
        clear hbE hbN
        go_wp2_with first | fail | (at_builtin; refine push_I rfl (.tmp 29) (.tmp 31) rfl w.heap.size (.slice oa m oc) ((ownL es lang n).map Int.ofNat) m (by rw [List.length_map]; exact HM.out) rfl HOW.out _ _ (n : Int) rfl (Blk.new2 _ _ _ _) (by omega) hbs ?_; intro g2 cap w2 h21 h22 h23 h24; have H21 := Lib.hid h21; have H22 := Lib.hid h22; have H23 := Lib.hid h23; clear h21 h22 h23 h24)
        have hb2 : Below w.heap.size w w2 := bl_grown HBW.out H22.out fun k e => (HOW.out.lt k e).1
        refine (HSR.out n hlt _ hb2).mono ?_
        rintro e w3 ⟨v3', rfl, o3, b3⟩
        obtain ⟨A3, c3', rfl, _⟩ := owns_slice o3
        have hfr3 : w3.ownsRow w.heap.size 31 1 (.slice fa m fc) m (fl encR rs) := by
          have h1 := owns_below hD.out.frm HBN.out
          rw [← HM.out] at h1
          refine owns_below (h1.kept H22.out ?_) b3
          cases q : (Value.slice fa m fc).ownBlock with
          | none => exact .inl rfl
          | some b =>
            refine .inr fun e => ?_
            have g1 := own_kind h1 q
            rw [own_kind HOW.out e.symm] at g1
            exact absurd g1 (by decide)
        have HFR3 := Lib.hid hfr3
        have O3 := Lib.hid o3
        have B3 := Lib.hid b3
        have hrl : Hid (m = rs.length) := by show _ = _; rw [hD.out.len]; exact HM.out
        have hb3 : Below w.heap.size w w3 := hb2.trans (b3.mono hb2.size)
        have hbs3 : w.heap.size ≤ (w3.alloc (.cells #[.slice A3 (srcL ls N n).length c3'] 31)).heap.size := (bl_alloc hb3 _).size
        have hsl := srcL_len ls N n
        obtain ⟨sl, hsle⟩ : ∃ y, y = (srcL ls N n).length := ⟨_, rfl⟩
        rw [← hsle] at hbs3 hsl O3 ⊢
        have HSL := Lib.hid hsle
        clear hb2 o3 b3 hfr3 hb3 hsle
        go_wp2_with first | fail | (at_builtin; refine push_R rfl (.tmp 33) (.tmp 37) rfl w.heap.size (.slice fa m fc) rs m hrl.out rfl (HFR3.out.alloc _) _ _ (A3, sl, c3') rfl (Blk.new _ _ _) (by omega) hbs3 ?_; intro g4 cap4 w4 h41 h42 h43 h44; have H41 := Lib.hid h41; have H42 := Lib.hid h42; clear h41 h42 h43 h44)
        have hnew : Hid (DbI w w4 ls N (ownL es lang (n + 1)) (rs ++ [(A3, sl, c3')]) (.slice (some ⟨g2, 0, none⟩) (m + 1) cap) (.slice (some ⟨g4, 0, none⟩) (m + 1) cap4)) := by
          have h2 := HSC.out
          rw [if_pos HE.out] at h2
          have hD2 := hD.out
          rw [← HM.out] at hD2
          rw [h2, HSL.out]
          refine hD2.push (W1 := (wr.alloc (.cells #[.string s, .slice v1 v2 v3, .slice v4 v5 v6, .slice v7 v8 v9] 82)).alloc (.cells #[.int .i64 (n : Int)] 3)) (W2 := w2) (W3 := w3) HBN.out ?_ H22.out ?_ (by rw [← HSL.out]; exact O3.out) B3.out ?_ H42.out
          · rw [← HM.out, List.map_append]; exact H21.out
          · rcases H23.out with k | k
            · left; rw [k]; rfl
            · right; rw [k]; rfl
          · rw [← HM.out, ← HSL.out]; exact H41.out
        go_wp2_with fail
        go_roundw
        case rel => exact ⟨n + 1, _, by omega, by go_num, hnew⟩
        case measure => simp [intOf]; omega
      · have t1 : (s.toList == lang.toList) = false := by simp [ba_inj, e]
        have t2 : decide (s.toList = lang.toList) = false := by simp [ba_inj, e]
        have HE := Lib.hid e
        clear e
        have hown : Hid (DbI w (wr.alloc (.cells #[.string s, .slice v1 v2 v3, .slice v4 v5 v6, .slice v7 v8 v9] 82)) ls N (ownL es lang (n + 1)) rs (.slice oa m oc) (.slice fa m fc)) := by
          have h1 := hD.out.belowW (bl_alloc (Below.refl _ wr) (.cells #[.string s, .slice v1 v2 v3, .slice v4 v5 v6, .slice v7 v8 v9] 82))
          have h2 := HSC.out
          rw [if_neg HE.out, List.append_nil] at h2
          rw [← HM.out] at h1
          rw [h2]; exact h1
        go_wp2_with fail
        go_roundw
        case rel => exact ⟨n + 1, rs, by omega, by go_num, hown⟩
        case measure => simp [intOf]; omega
    · obtain rfl : n = N := by omega
      obtain ⟨ids, hids⟩ : ∃ y, y = ownL es lang n := ⟨_, rfl⟩
      have hdb : Hid (dblL es ls lang = dbO ls n ids ids.length) := by show _ = _; unfold dblL; rw [← HN.out, ← hids]
      rw [← hids] at hD hol ⊢
      have hsm : Hid (∀ i, i < ids.length → (srcL ls n (ids.getD i 0)).length ≤ 1024) := fun i _ => by have := srcL_len ls n (ids.getD i 0); show _ ≤ _; omega
      obtain ⟨m, hm⟩ : ∃ m, m = ids.length := ⟨_, rfl⟩
      have HB0 := Lib.hid hD.out.bl
      have HOWN : Hid (0 < m → ∃ og, oa = some ⟨og, 0, none⟩ ∧ og < wr.heap.size ∧ ∀ i, i < m → wr.cell? ⟨og, i, none⟩ = some (.int .i64 (ids.getD i 0 : Nat))) := fun h0 => by
        have ho := hD.out.own
        obtain ⟨og, e⟩ := own_off ho (by omega)
        obtain ⟨_, _, e2, _, hc⟩ := rdI (rd_of_owns ho) (by rw [List.length_map]; omega)
        rw [e] at e2
        cases e2
        refine ⟨og, e, (ho.lt og (by rw [e]; rfl)).2, fun i hi => ?_⟩
        have h1 := hc i (by rw [List.length_map]; omega)
        rw [Nat.zero_add] at h1
        rw [h1]
        unfold iA
        rw [List.getD_eq_getElem?_getD, List.getElem?_map, List.getD_eq_getElem?_getD, List.getElem?_eq_getElem (by omega)]; rfl
      have HFRM : Hid (0 < m → ∃ fg, fa = some ⟨fg, 0, none⟩ ∧ fg < wr.heap.size ∧ ∀ i, i < m → ∃ ra rc, wr.cell? ⟨fg, i, none⟩ = some (.slice ra (srcL ls n (ids.getD i 0)).length rc) ∧ ∀ W, Below wr.heap.size wr W → SlI W (.slice ra (srcL ls n (ids.getD i 0)).length rc) ((srcL ls n (ids.getD i 0)).map Int.ofNat)) := fun h0 => by
        have ho := hD.out.frm
        obtain ⟨fg, e⟩ := own_off ho (by omega)
        obtain ⟨_, _, e2, _, hc⟩ := rdR (rd_of_owns ho) (by rw [hD.out.len]; omega)
        rw [e] at e2
        cases e2
        refine ⟨fg, e, (ho.lt fg (by rw [e]; rfl)).2, fun i hi => ?_⟩
        have h1 := hc i (by rw [hD.out.len]; omega)
        rw [Nat.zero_add] at h1
        have h2 := hD.out.row i (by omega)
        obtain ⟨ra, rc, e3, _⟩ := owns_slice h2
        have e4 : Value.slice (rA rs i) (rN rs i) (rC rs i) = .slice ra (srcL ls n (ids.getD i 0)).length rc := e3
        rw [e4] at h1
        refine ⟨ra, rc, h1, fun W hW => ?_⟩
        have h3 := slI_of_owns (owns_below h2 hW)
        rw [e3] at h3; exact h3
      have hoc := own_capQ hD.out.own
      have hfc := own_capQ hD.out.frm
      have HO0 : Hid (wr.ownsRow wr.heap.size 43 2 (.slice none 0 0) (dbO ls n ids 0).length (fl encP (dbO ls n ids 0))) := World.ownsRow_nil _ _ _ _
      have HW0 : Hid (Below wr.heap.size wr wr) := Below.refl _ _
      have HBD : Hid (∀ i, (dbO ls n ids i).length ≤ i * ids.length) := fun i => by
        show _ ≤ _
        induction i with
        | zero => simp [dbO]
        | succ i ih =>
          rw [dbO_succ, List.length_append, Nat.succ_mul]
          have h1 : (dbI ls n ids i ids.length).length ≤ ids.length := by
            unfold dbI
            rw [List.length_map]
            have := List.length_filter_le (fun k => decide (i < k) && kinB ls n (ids.getD i 0) (ids.getD k 0)) (List.range ids.length)
            rw [List.length_range] at this; exact this
          omega
      rw [← hm] at hoc hfc hol ⊢
      have HMM := Lib.hid hm
      have HIDS := Lib.hid hids
      clear hD hsc hlt hn hm hids
      obtain ⟨W0, hW0⟩ : ∃ y, y = wr := ⟨_, rfl⟩
      rw [← hW0] at HB0 HOWN HFRM HO0 HW0 ⊢
      clear hW0
      go_wp2_with fail
      go_loopw [42, 9] (fun x vo wx => ∃ (i : Nat), i ≤ m ∧ x = .int .i64 i ∧ Hid (wx.ownsRow W0.heap.size 43 2 vo (dbO ls n ids i).length (fl encP (dbO ls n ids i))) ∧ Hid (Below W0.heap.size W0 wx)) (fun x _ _ => m - (intOf x).toNat)
      case atStart => exact ⟨0, by omega, rfl, HO0, HW0⟩
      case round =>
        clear HO0 HW0
        obtain ⟨i, hi, rfl, hO, hW⟩ := hrel
        obtain ⟨ua, uc, rfl, _⟩ := owns_slice hO.out
        by_cases hlt : i < m
        · have hw1 : IntKind.i64.wrap ((i : Int) + 1) = ((i + 1 : Nat) : Int) := wrap_nat _ _ (by omega) (by omega)
          have hO0 : Hid (wr.ownsRow W0.heap.size 43 2 (.slice ua (dbO ls n ids i).length uc) ((dbO ls n ids i) ++ dbI ls n ids i (i + 1)).length (fl encP ((dbO ls n ids i) ++ dbI ls n ids i (i + 1)))) := by
            rw [dbI_zero, List.append_nil]; exact hO.out
          have hBI : Hid (∀ k, (dbI ls n ids i k).length ≤ k) := fun k => by
            show _ ≤ _
            unfold dbI
            rw [List.length_map]
            have := List.length_filter_le (fun k => decide (i < k) && kinB ls n (ids.getD i 0) (ids.getD k 0)) (List.range k)
            rw [List.length_range] at this; exact this
          have hBO : (dbO ls n ids i).length ≤ i * 1024 := by
            have h1 := HBD.out i
            have h2 : i * ids.length ≤ i * 1024 := Nat.mul_le_mul_left _ (by rw [← HMM.out]; omega)
            omega
          obtain ⟨X, hX⟩ : ∃ X, X = dbO ls n ids i := ⟨_, rfl⟩
          rw [← hX] at hO hO0 hBO ⊢
          have HXX := Lib.hid hX
          clear hX hO
          go_wp2_with fail
          go_loopg [11, 9] (m - (i + 1)) (fun q x vo wx => ∃ (k : Nat), q = m - k ∧ i + 1 ≤ k ∧ k ≤ m ∧ x = .int .i64 k ∧ Hid (wx.ownsRow W0.heap.size 43 2 vo (X ++ dbI ls n ids i k).length (fl encP (X ++ dbI ls n ids i k))) ∧ Hid (Below W0.heap.size W0 wx))
          case atStart => exact ⟨i + 1, rfl, Nat.le_refl _, by omega, by go_num, hO0, hW⟩
          case round =>
            clear hO0 hW
            obtain ⟨k, rfl, hik, hk, rfl, hO, hW⟩ := hrel
            obtain ⟨ua, uc, rfl, _⟩ := owns_slice hO.out
            have hbi := hBI.out k
            by_cases hlt2 : k < m
            · obtain ⟨og, rfl, hogl, hoc1⟩ := HOWN.out (by omega)
              obtain ⟨fg, rfl, hfgl, hfc1⟩ := HFRM.out (by omega)
              obtain ⟨ra, rc, q1, q2⟩ := hfc1 i hlt
              obtain ⟨ta, tc, q3, q4⟩ := hfc1 k hlt2
              have a1 : wr.cell? ⟨og, i, none⟩ = some (.int .i64 (ids.getD i 0 : Nat)) := (hW.out.cell (p := ⟨og, i, none⟩) hogl).trans (hoc1 i hlt)
              have a2 : wr.cell? ⟨og, k, none⟩ = some (.int .i64 (ids.getD k 0 : Nat)) := (hW.out.cell (p := ⟨og, k, none⟩) hogl).trans (hoc1 k hlt2)
              have a3 := (hW.out.cell (p := ⟨fg, i, none⟩) hfgl).trans q1
              have a4 := (hW.out.cell (p := ⟨fg, k, none⟩) hfgl).trans q3
              have hs1 := hsm.out i (by rw [← HMM.out]; exact hlt)
              have hs2 := hsm.out k (by rw [← HMM.out]; exact hlt2)
              have HCM : Hid (∀ x, Calls Tryd.prog 37 #[.slice ra (srcL ls n (ids.getD i 0)).length rc, .slice ta (srcL ls n (ids.getD k 0)).length tc] (wr.drewN x) fun e w'' => e = .returned (.bool (kinB ls n (ids.getD i 0) (ids.getD k 0))) ∧ ∃ y, w'' = wr.drewN y) := fun x => by
                refine (common_any _ _ _ _ (wr.drewN x) (q2 _ (bl_drewN hW.out x)) (q4 _ (bl_drewN hW.out x)) (srcL_pw _ _ _) (srcL_pw _ _ _) (by rw [List.length_map]; omega) (by rw [List.length_map]; omega)).mono ?_
                rintro e w'' ⟨rfl, y, rfl⟩
                exact ⟨rfl, x + y, by simp⟩
              have hsn := dbI_succ ls n ids (i := i) (k := k) (by omega)
              obtain ⟨l1, hl1⟩ : ∃ y, y = (srcL ls n (ids.getD i 0)).length := ⟨_, rfl⟩
              obtain ⟨l2, hl2⟩ : ∃ y, y = (srcL ls n (ids.getD k 0)).length := ⟨_, rfl⟩
              rw [← hl1] at a3 HCM
              rw [← hl2] at a4 HCM
              obtain ⟨B, hB⟩ : ∃ B, B = kinB ls n (ids.getD i 0) (ids.getD k 0) := ⟨_, rfl⟩
              rw [← hB] at HCM hsn
              obtain ⟨x1, hx1⟩ : ∃ y, y = ids.getD i 0 := ⟨_, rfl⟩
              obtain ⟨x2, hx2⟩ : ∃ y, y = ids.getD k 0 := ⟨_, rfl⟩
              rw [← hx1] at a1 hsn
              rw [← hx2] at a2 hsn
              have HSN := Lib.hid hsn
              have hw2 : IntKind.i64.wrap ((k : Int) + 1) = ((k + 1 : Nat) : Int) := wrap_nat _ _ (by omega) (by omega)
              clear hoc1 hfc1 q1 q2 q3 q4 hs1 hs2 hsn hl1 hl2 hx1 hx2 hB
              obtain ⟨M, hM⟩ : ∃ M, M = (X ++ dbI ls n ids i k).length := ⟨_, rfl⟩
              have hMl : M ≤ i * 1024 + k := by rw [hM, List.length_append]; omega
              rw [← hM] at hO ⊢
              have HM2 := Lib.hid hM
              clear hM
              go_wp2_with fail
              cases B with
              | false =>
                go_quiet (exact HCM.out _)
                have hO3 : Hid ((wr.drewN nq).ownsRow W0.heap.size 43 2 (.slice ua M uc) (X ++ dbI ls n ids i (k + 1)).length (fl encP (X ++ dbI ls n ids i (k + 1)))) := by
                  have e1 : dbI ls n ids i (k + 1) = dbI ls n ids i k := by have h := HSN.out; rw [if_neg (by decide), List.append_nil] at h; exact h
                  show World.ownsRow _ _ _ _ _ _ _
                  rw [e1, ← HM2.out]; exact hO.out
                have hW3 := Lib.hid (bl_drewN hW.out nq)
                clear hO hW HCM a1 a2 a3 a4
                go_wp2_with fail
                go_roundg (m - (k + 1))
                case measure => omega
                case rel => exact ⟨k + 1, rfl, by omega, by omega, by go_num, hO3, hW3⟩
              | true =>
                go_quiet (exact HCM.out _)
                have b1 : (wr.drewN nq).cell? ⟨og, i, none⟩ = some (.int .i64 (x1 : Nat)) := a1
                have b2 : (wr.drewN nq).cell? ⟨og, k, none⟩ = some (.int .i64 (x2 : Nat)) := a2
                have hO3 : (wr.drewN nq).ownsRow W0.heap.size 43 2 (.slice ua M uc) M (fl encP (X ++ dbI ls n ids i k)) := hO.out
                have hW3 := bl_drewN hW.out nq
                obtain ⟨w3, hw3⟩ : ∃ y, y = wr.drewN nq := ⟨_, rfl⟩
                rw [← hw3] at b1 b2 hO3 hW3 ⊢
                clear hO hW HCM a1 a2 a3 a4 hw3
                go_wp2_with fail
                have b1' : w3.drew.cell? ⟨og, i, none⟩ = some (.int .i64 (x1 : Nat)) := b1
                have b2' : w3.drew.cell? ⟨og, k, none⟩ = some (.int .i64 (x2 : Nat)) := b2
                refine wp_region_order (S := fun w' => w'.cell? ⟨og, i, none⟩ = some (.int .i64 (x1 : Nat)) ∧ w'.cell? ⟨og, k, none⟩ = some (.int .i64 (x2 : Nat))) 12 [0,1,2,3,4,5,6,7,8,9] [10,11] (by kernel_rfl) (by kernel_rfl) ⟨b1', b2'⟩ ?_
                iterate 10 (refine headT_cons (by rfl) (by rfl) (by intro w hSw; obtain ⟨s0, s1⟩ := hSw; go_simp; try rfl) ?_; simp only [Act.put, List.setIfInBounds_toArray, List.set_cons_zero, List.set_cons_succ])
                refine headT_nil ?_
                obtain ⟨wb, hwb⟩ : ∃ y, y = w3.drew := ⟨_, rfl⟩
                rw [← hwb]
                have hbb : Below w3.heap.size w3 wb := by rw [hwb]; exact bl_drewN (Below.refl _ _) 1
                clear hwb b1' b2'
                refine midT_cons (by rfl) (fun K hK => ?_)
                rw [if_pos (by rfl)]
                go_simp
                have hbc := bl_alloc hbb (.cells #[.int .i64 (x1 : Nat), .int .i64 (x2 : Nat)] 43)
                have hB0 : Rd (wb.alloc (.cells #[.int .i64 (x1 : Nat), .int .i64 (x2 : Nat)] 43)) (some ⟨wb.heap.size, 0, none⟩) (fl encP [(x1, x2)]) := rd_of_blkQ (t := 43) (Blk.new wb _ _)
                obtain ⟨B0, hB0e⟩ : ∃ y, y = wb.heap.size := ⟨_, rfl⟩
                obtain ⟨wc, hwc⟩ : ∃ y, y = wb.alloc (.cells #[.int .i64 (x1 : Nat), .int .i64 (x2 : Nat)] 43) := ⟨_, rfl⟩
                rw [← hwc, ← hB0e] at hB0 ⊢
                rw [← hwc] at hbc
                have hWc := hW3.trans (hbc.mono hW3.size)
                have hOc := owns_below hO3 hbc
                have hog3 : og < w3.heap.size := Nat.lt_of_lt_of_le hogl hW3.size
                have HB0 := Lib.hid hB0
                have HWC := Lib.hid hWc
                have HOC := Lib.hid hOc
                have b3 := (hbc.cell (p := ⟨og, i, none⟩) hog3).trans b1
                have b4 := (hbc.cell (p := ⟨og, k, none⟩) hog3).trans b2
                have hogc : og < wc.heap.size := Nat.lt_of_lt_of_le hog3 hbc.size
                refine hK.out _ _ ⟨b3, b4⟩ (fun _ => ?_)
                clear hK K hbc hB0 hwc hB0e hbb hWc hOc
                try simp only [Act.put, List.setIfInBounds_toArray, List.set_cons_zero, List.set_cons_succ]
                refine midT_cons (by rfl) (fun K hK => ?_)
                rw [if_pos (by rfl)]
                refine wp_pushs encP_len (by decide) encP_one Tryd.underlying39 infoP rfl (.tmp 62) (.tmp 72) rfl (.slice ua M uc) (X ++ dbI ls n ids i k) M HM2.out rfl HOC.out (some ⟨B0, 0, none⟩) 1 1 [(x1, x2)] rfl rfl HB0.out (fun e => by cases e) (by omega) (by decide) HWC.out.size ?_
                intro v8 w8 h81 h82 h83
                have hW8 : Below W0.heap.size W0 w8 := bl_grown HWC.out h82 fun r e => (HOC.out.lt r e).1
                have hog8 : some og ≠ (Value.slice ua M uc).ownBlock := fun e => by have := (HOC.out.lt og e.symm).1; omega
                have e8 : w8.heap[og]? = wc.heap[og]? := h82.block og hogc hog8
                have HO8 : Hid (w8.ownsRow W0.heap.size 43 2 v8 (X ++ dbI ls n ids i (k + 1)).length (fl encP (X ++ dbI ls n ids i (k + 1)))) := by
                  have e1 : dbI ls n ids i (k + 1) = dbI ls n ids i k ++ [(x1, x2)] := by have h := HSN.out; rw [if_pos trivial] at h; exact h
                  have e2 : (X ++ dbI ls n ids i (k + 1)).length = M + 1 := by rw [e1, ← List.append_assoc, List.length_append, ← HM2.out]; rfl
                  show World.ownsRow _ _ _ _ _ _ _
                  rw [e2, e1, ← List.append_assoc]
                  exact h81
                have HW8 := Lib.hid hW8
                refine hK.out _ _ ⟨(World.cell?_of_block (a := ⟨og, i, none⟩) e8).trans b3, (World.cell?_of_block (a := ⟨og, k, none⟩) e8).trans b4⟩ (fun _ => ?_)
                clear hK K h81 h82 h83 hW8 hog8 e8 b3 b4 b1 b2
                try simp only [Act.put, List.setIfInBounds_toArray, List.set_cons_zero, List.set_cons_succ]
                refine midT_nil ?_
                simp only [List.drop_succ_cons, List.drop_zero]
                go_wp2_with fail
                refine NoPanic.normal ?_
                go_wp2_with fail
                go_roundg (m - (k + 1))
                case measure => omega
                case rel => exact ⟨k + 1, rfl, by omega, by omega, by go_num, HO8, HW8⟩
            · obtain rfl : k = m := by omega
              have hO4 : Hid (wr.ownsRow W0.heap.size 43 2 (.slice ua (X ++ dbI ls n ids i k).length uc) (dbO ls n ids (i + 1)).length (fl encP (dbO ls n ids (i + 1)))) := by
                have e1 : dbO ls n ids (i + 1) = X ++ dbI ls n ids i k := by rw [dbO_succ, HXX.out, HMM.out]
                show World.ownsRow _ _ _ _ _ _ _
                rw [e1]; exact hO.out
              clear hO
              go_wp2_with fail
              go_roundw
              case rel => exact ⟨i + 1, by omega, by go_num, hO4, hW⟩
              case measure => simp [intOf]; omega
        · obtain rfl : i = m := by omega
          have hO2 := hO.out
          have e9 : dblL es ls lang = dbO ls n ids i := by rw [hdb.out, ← HMM.out]
          rw [← e9] at hO2
          have HO2 := Lib.hid hO2
          have E9 : Hid ((dbO ls n ids i).length = (dblL es ls lang).length) := by show _ = _; rw [e9]
          clear hO hO2 e9
          go_wp2_with fail
          go_ret
          refine ⟨_, rfl, ?_, HB0.out.trans (hW.out.mono HB0.out.size)⟩
          rw [E9.out]
          exact owns_mono HO2.out HB0.out.size
end Go.Proofs.YtmfomjaomhohkaaDoor
namespace Go.Proofs.YtmfomjaomhohkaaDoor
open Go Go.RowKit Go.Shelf
theorem eqI_step' (l1 l2 : List Int) (k : Nat) (h : l1.take k = l2.take k) (h1 : k < l1.length) (h2 : k < l2.length) (e0 : iA l1 k = iA l2 k) : l1.take (k + 1) = l2.take (k + 1) := by
  have he : l1[k] = l2[k] := by
    simpa only [iA, List.getD_eq_getElem?_getD, List.getElem?_eq_getElem h1, List.getElem?_eq_getElem h2, Option.getD_some] using e0
  rw [List.take_succ_eq_append_getElem h1, List.take_succ_eq_append_getElem h2, h, he]
theorem neI_iA' (l1 l2 : List Int) (k : Nat) (h : iA l1 k ≠ iA l2 k) : l1 ≠ l2 := fun e => h (by rw [e])
theorem eqD_step {A : Type} (d : A) (l1 l2 : List A) (k : Nat) (h : l1.take k = l2.take k) (h1 : k < l1.length) (h2 : k < l2.length) (e0 : l1.getD k d = l2.getD k d) : l1.take (k + 1) = l2.take (k + 1) := by
  have he : l1[k] = l2[k] := by
    simpa only [List.getD_eq_getElem?_getD, List.getElem?_eq_getElem h1, List.getElem?_eq_getElem h2, Option.getD_some] using e0
  rw [List.take_succ_eq_append_getElem h1, List.take_succ_eq_append_getElem h2, h, he]
set_option maxHeartbeats 1000000 in
set_option maxRecDepth 100000 in
theorem equal_any (a1 a2 : Option Addr) (n1 n2 c1 c2 : Nat) (l1 l2 : List Int) (w : World) (hn1 : l1.length = n1) (hn2 : l2.length = n2) (hm1 : n1 ≤ 1152921504606846976) (hm2 : n2 ≤ 1152921504606846976) (hA : Rd w a1 (fl encI l1)) (hB : Rd w a2 (fl encI l2)) :
    Calls Tryd.prog 14 #[.slice a1 n1 c1, .slice a2 n2 c2] w fun e w' => e = .returned (.bool (decide (l1 = l2))) ∧ ∃ n, w' = w.drewN n := by
  have HN1 := Lib.hid hn1; clear hn1
  have HN2 := Lib.hid hn2; clear hn2
  by_cases hl : n1 = n2
  · subst hl
    go_enter Tryd.func14, Tryd.ntmps14
    go_wp2_with fail
    go_loopw [5] (fun x wr => ∃ k : Nat, k ≤ n1 ∧ x = .int .i64 k ∧ Hid (l1.take k = l2.take k) ∧ ∃ n, wr = w.drewN n) (fun x _ => n1 - (intOf x).toNat)
    case atStart => exact ⟨0, by omega, rfl, rfl, 0, rfl⟩
    case round =>
      obtain ⟨k, hk, rfl, Ht, n, rfl⟩ := hrel
      by_cases hlt : k < n1
      · obtain ⟨b1, o1, rfl, _, hc1⟩ := rdI hA (by rw [HN1.out]; omega)
        obtain ⟨b2, o2, rfl, _, hc2⟩ := rdI hB (by rw [HN2.out]; omega)
        have G1 := hc1 k (by rw [HN1.out]; omega)
        have G2 := hc2 k (by rw [HN2.out]; omega)
        clear hc1 hc2 hA hB
        by_cases e0 : iA l1 k = iA l2 k
        · have ht2 := Lib.hid (eqI_step' l1 l2 k Ht.out (by rw [HN1.out]; omega) (by rw [HN2.out]; omega) e0)
          have hb : (iA l1 k != iA l2 k) = false := by rw [e0]; simp
          have hb2 : (iA l1 k == iA l2 k) = true := by rw [e0]; simp
          clear e0
          go_wp2_with fail
          go_quiet (fail)
          go_wp2_with fail
          go_roundw
          case rel => exact ⟨k + 1, by omega, by go_num, ht2, n + nq, by simp⟩
          case measure => simp [intOf]; omega
        · have he := Lib.hid (neI_iA' l1 l2 k e0)
          have hb : (iA l1 k != iA l2 k) = true := by simpa using e0
          have hb2 : (iA l1 k == iA l2 k) = false := by simpa using e0
          clear e0
          go_wp2_with fail
          go_quiet (fail)
          go_wp2_with fail
          go_ret
          exact ⟨ret_b (decide_eq_false he.out).symm, n + nq, by simp⟩
      · go_wp2_with fail
        go_ret
        have he : l1 = l2 := by have := Ht.out; rwa [List.take_of_length_le (by rw [HN1.out]; omega), List.take_of_length_le (by rw [HN2.out]; omega)] at this
        exact ⟨ret_b (decide_eq_true he).symm, n, rfl⟩
  · have t1 : ((n1 : Int) != (n2 : Int)) = true := by simp; omega
    have HLN := Lib.hid hl
    clear hl
    go_enter Tryd.func14, Tryd.ntmps14
    go_wp2_with fail
    go_ret
    exact ⟨ret_b (decide_eq_false (fun e => HLN.out (by rw [← HN1.out, ← HN2.out, e]))).symm, 0, rfl⟩
theorem neqLk (x1 x2 x3 y1 y2 y3 : Int) (w : World) : (binOp .neq 33 (.agg #[.int .i64 x1, .int .i64 x2, .int .i64 x3]) (.agg #[.int .i64 y1, .int .i64 y2, .int .i64 y3])).run Tryd.prog w = .ok (.bool (!decide (x1 = y1 ∧ x2 = y2 ∧ x3 = y3))) w := by
  have u3 := Tryd.underlying3
  have a3 := Tryd.isAgg3
  have z3 := Tryd.sizeOf3
  have hS : Tryd.prog.underlying 33 = some (.struct (Tryd.prog.fieldsOf 33)) := by kernel_rfl
  have hp : Tryd.prog.stoodInHeld 33 = false := by kernel_rfl
  rw [run_neq_struct, show (10000 : Nat) = 9999 + 1 from rfl, run_equalIn_agg w 9999 33 _ _ hS hp]
  simp only [Program.fieldsOf, Tryd.underlying33]
  go_simp
  by_cases h0 : x1 = y1 <;> by_cases h1 : x2 = y2 <;> by_cases h2 : x3 = y3 <;> simp [h0, h1, h2]
theorem neqP (x1 x2 y1 y2 : Nat) (w : World) : (binOp .neq 43 (.agg #[.int .i64 x1, .int .i64 x2]) (.agg #[.int .i64 y1, .int .i64 y2])).run Tryd.prog w = .ok (.bool (!decide (x1 = y1 ∧ x2 = y2))) w := by
  have u3 := Tryd.underlying3
  have a3 := Tryd.isAgg3
  have z3 := Tryd.sizeOf3
  have hc : Tryd.prog.cellsOf 3 = 1 := by kernel_rfl
  have uA := Tryd.underlying43
  obtain ⟨i, hi⟩ := info_of_underlying u3
  rw [run_neq_struct, show (10000 : Nat) = 9999 + 1 from rfl, run_equalIn_array w 9999 _ _ uA hi, hc]
  simp only [show List.range 2 = [0, 1] from rfl, Op.eqItems]
  go_simp
  by_cases h0 : x1 = y1 <;> by_cases h1 : x2 = y2 <;> simp [h0, h1] <;> omega
theorem guardP : Tryd.prog.eqGuardType Tryd.prog.depth 43 = false := by kernel_rfl
theorem rdP {l : List (Nat × Nat)} {w : World} {a : Option Addr} (h : Rd w a (fl encP l)) (h0 : 0 < l.length) : ∃ b off, a = some ⟨b, off, none⟩ ∧ b < w.heap.size ∧ ∀ i, i < l.length → w.cell? ⟨b, off + i * 2, none⟩ = some (.int .i64 ((l.getD i (0, 0)).1 : Nat)) ∧ w.cell? ⟨b, off + i * 2 + 1, none⟩ = some (.int .i64 ((l.getD i (0, 0)).2 : Nat)) := by
  obtain ⟨b, off, e, hb, hc⟩ := rd_elem encP_len h (by omega) h0
  refine ⟨b, off, e, hb, fun i hi => ⟨?_, ?_⟩⟩
  · have := hc i hi 0 (by omega); simpa [encP, hi, ← Nat.add_assoc] using this
  · have := hc i hi 1 (by omega); simpa [encP, hi, ← Nat.add_assoc] using this
set_option maxHeartbeats 1000000 in
set_option maxRecDepth 100000 in
theorem links_any (a1 a2 : Option Addr) (n1 n2 c1 c2 : Nat) (l1 l2 : List Lk) (w : World) (hn1 : l1.length = n1) (hn2 : l2.length = n2) (hm1 : n1 ≤ 1152921504606846976) (hm2 : n2 ≤ 1152921504606846976) (hA : Rd w a1 (fl encLk l1)) (hB : Rd w a2 (fl encLk l2)) :
    Calls Tryd.prog 33 #[.slice a1 n1 c1, .slice a2 n2 c2] w fun e w' => e = .returned (.bool (decide (l1 = l2))) ∧ ∃ n, w' = w.drewN n := by
  have HN1 := Lib.hid hn1; clear hn1
  have HN2 := Lib.hid hn2; clear hn2
  by_cases hl : n1 = n2
  · subst hl
    go_enter Tryd.func33, Tryd.ntmps33
    go_wp2_with fail
    go_loopw [5] (fun x wr => ∃ k : Nat, k ≤ n1 ∧ x = .int .i64 k ∧ Hid (l1.take k = l2.take k) ∧ ∃ n, wr = w.drewN n) (fun x _ => n1 - (intOf x).toNat)
    case atStart => exact ⟨0, by omega, rfl, rfl, 0, rfl⟩
    case round =>
      obtain ⟨k, hk, rfl, Ht, n, rfl⟩ := hrel
      by_cases hlt : k < n1
      · obtain ⟨b1, o1, rfl, _, hc1⟩ := rdLk hA (by rw [HN1.out]; omega)
        obtain ⟨b2, o2, rfl, _, hc2⟩ := rdLk hB (by rw [HN2.out]; omega)
        obtain ⟨A0, A1, A2⟩ := hc1 k (by rw [HN1.out]; omega)
        obtain ⟨B0, B1, B2⟩ := hc2 k (by rw [HN2.out]; omega)
        clear hc1 hc2 hA hB
        have hgd := guardLk
        obtain ⟨x0, hx0⟩ : ∃ y, y = lK l1 k := ⟨_, rfl⟩
        obtain ⟨y0, hy0⟩ : ∃ y, y = lK l2 k := ⟨_, rfl⟩
        rw [← hx0] at A0
        rw [← hy0] at B0
        obtain ⟨x1, hx1⟩ : ∃ y, y = lF l1 k := ⟨_, rfl⟩
        obtain ⟨y1, hy1⟩ : ∃ y, y = lF l2 k := ⟨_, rfl⟩
        rw [← hx1] at A1
        rw [← hy1] at B1
        obtain ⟨x2, hx2⟩ : ∃ y, y = lT l1 k := ⟨_, rfl⟩
        obtain ⟨y2, hy2⟩ : ∃ y, y = lT l2 k := ⟨_, rfl⟩
        rw [← hx2] at A2
        rw [← hy2] at B2
        have HX : Hid (l1.getD k (0, 0, 0) = (x0, x1, x2)) := by rw [hx0, hx1, hx2]; rfl
        have HY : Hid (l2.getD k (0, 0, 0) = (y0, y1, y2)) := by rw [hy0, hy1, hy2]; rfl
        clear hx0 hy0 hx1 hy1 hx2 hy2
        by_cases e : x0 = y0 ∧ x1 = y1 ∧ x2 = y2
        · have ht2 : Hid (l1.take (k + 1) = l2.take (k + 1)) := eqD_step (0, 0, 0) l1 l2 k Ht.out (by rw [HN1.out]; omega) (by rw [HN2.out]; omega) (by rw [HX.out, HY.out]; obtain ⟨rfl, rfl, rfl⟩ := e; rfl)
          have hn1 : ∀ W, (binOp .neq 33 (.agg #[.int .i64 x0, .int .i64 x1, .int .i64 x2]) (.agg #[.int .i64 y0, .int .i64 y1, .int .i64 y2])).run Tryd.prog W = .ok (.bool false) W := fun W => by rw [neqLk, decide_eq_true e]; rfl
          clear e
          go_wp2_with fail
          go_quiet (fail)
          go_wp2_with fail
          go_roundw
          case rel => exact ⟨k + 1, by omega, by go_num, ht2, n + nq, by simp⟩
          case measure => simp [intOf]; omega
        · have he : Hid (l1 ≠ l2) := fun q => by
            have h := HX.out
            rw [q, HY.out] at h
            refine e ?_
            simp only [Prod.mk.injEq] at h
            obtain ⟨q0, q1, q2⟩ := h
            exact ⟨q0.symm, q1.symm, q2.symm⟩
          have hn1 : ∀ W, (binOp .neq 33 (.agg #[.int .i64 x0, .int .i64 x1, .int .i64 x2]) (.agg #[.int .i64 y0, .int .i64 y1, .int .i64 y2])).run Tryd.prog W = .ok (.bool true) W := fun W => by rw [neqLk, decide_eq_false e]; rfl
          clear e
          go_wp2_with fail
          go_quiet (fail)
          go_wp2_with fail
          go_ret
          exact ⟨ret_b (decide_eq_false he.out).symm, n + nq, by simp⟩
      · go_wp2_with fail
        go_ret
        have he : l1 = l2 := by have := Ht.out; rwa [List.take_of_length_le (by rw [HN1.out]; omega), List.take_of_length_le (by rw [HN2.out]; omega)] at this
        exact ⟨ret_b (decide_eq_true he).symm, n, rfl⟩
  · have t1 : ((n1 : Int) != (n2 : Int)) = true := by simp; omega
    have HLN := Lib.hid hl
    clear hl
    go_enter Tryd.func33, Tryd.ntmps33
    go_wp2_with fail
    go_ret
    exact ⟨ret_b (decide_eq_false (fun e => HLN.out (by rw [← HN1.out, ← HN2.out, e]))).symm, 0, rfl⟩
set_option maxHeartbeats 1000000 in
set_option maxRecDepth 100000 in
theorem same_any (a1 a2 : Option Addr) (n1 n2 c1 c2 : Nat) (l1 l2 : List (Nat × Nat)) (w : World) (hn1 : l1.length = n1) (hn2 : l2.length = n2) (hm1 : n1 ≤ 1152921504606846976) (hm2 : n2 ≤ 1152921504606846976) (hA : Rd w a1 (fl encP l1)) (hB : Rd w a2 (fl encP l2)) :
    Calls Tryd.prog 16 #[.slice a1 n1 c1, .slice a2 n2 c2] w fun e w' => e = .returned (.bool (decide (l1 = l2))) ∧ ∃ n, w' = w.drewN n := by
  have HN1 := Lib.hid hn1; clear hn1
  have HN2 := Lib.hid hn2; clear hn2
  by_cases hl : n1 = n2
  · subst hl
    go_enter Tryd.func16, Tryd.ntmps16
    go_wp2_with fail
    go_loopw [5] (fun x wr => ∃ k : Nat, k ≤ n1 ∧ x = .int .i64 k ∧ Hid (l1.take k = l2.take k) ∧ ∃ n, wr = w.drewN n) (fun x _ => n1 - (intOf x).toNat)
    case atStart => exact ⟨0, by omega, rfl, rfl, 0, rfl⟩
    case round =>
      obtain ⟨k, hk, rfl, Ht, n, rfl⟩ := hrel
      by_cases hlt : k < n1
      · obtain ⟨b1, o1, rfl, _, hc1⟩ := rdP hA (by rw [HN1.out]; omega)
        obtain ⟨b2, o2, rfl, _, hc2⟩ := rdP hB (by rw [HN2.out]; omega)
        obtain ⟨A0, A1⟩ := hc1 k (by rw [HN1.out]; omega)
        obtain ⟨B0, B1⟩ := hc2 k (by rw [HN2.out]; omega)
        clear hc1 hc2 hA hB
        have hgd := guardP
        obtain ⟨x0, hx0⟩ : ∃ y, y = (l1.getD k (0, 0)).1 := ⟨_, rfl⟩
        obtain ⟨y0, hy0⟩ : ∃ y, y = (l2.getD k (0, 0)).1 := ⟨_, rfl⟩
        rw [← hx0] at A0
        rw [← hy0] at B0
        obtain ⟨x1, hx1⟩ : ∃ y, y = (l1.getD k (0, 0)).2 := ⟨_, rfl⟩
        obtain ⟨y1, hy1⟩ : ∃ y, y = (l2.getD k (0, 0)).2 := ⟨_, rfl⟩
        rw [← hx1] at A1
        rw [← hy1] at B1
        have HX : Hid (l1.getD k (0, 0) = (x0, x1)) := by rw [hx0, hx1]; rfl
        have HY : Hid (l2.getD k (0, 0) = (y0, y1)) := by rw [hy0, hy1]; rfl
        clear hx0 hy0 hx1 hy1
        by_cases e : x0 = y0 ∧ x1 = y1
        · have ht2 : Hid (l1.take (k + 1) = l2.take (k + 1)) := eqD_step (0, 0) l1 l2 k Ht.out (by rw [HN1.out]; omega) (by rw [HN2.out]; omega) (by rw [HX.out, HY.out]; obtain ⟨rfl, rfl⟩ := e; rfl)
          have hn1 : ∀ W, (binOp .neq 43 (.agg #[.int .i64 (x0 : Nat), .int .i64 (x1 : Nat)]) (.agg #[.int .i64 (y0 : Nat), .int .i64 (y1 : Nat)])).run Tryd.prog W = .ok (.bool false) W := fun W => by rw [neqP, decide_eq_true e]; rfl
          clear e
          go_wp2_with fail
          go_quiet (fail)
          go_wp2_with fail
          go_roundw
          case rel => exact ⟨k + 1, by omega, by go_num, ht2, n + nq, by simp⟩
          case measure => simp [intOf]; omega
        · have he : Hid (l1 ≠ l2) := fun q => by
            have h := HX.out
            rw [q, HY.out] at h
            refine e ?_
            simp only [Prod.mk.injEq] at h
            obtain ⟨q0, q1⟩ := h
            exact ⟨q0.symm, q1.symm⟩
          have hn1 : ∀ W, (binOp .neq 43 (.agg #[.int .i64 (x0 : Nat), .int .i64 (x1 : Nat)]) (.agg #[.int .i64 (y0 : Nat), .int .i64 (y1 : Nat)])).run Tryd.prog W = .ok (.bool true) W := fun W => by rw [neqP, decide_eq_false e]; rfl
          clear e
          go_wp2_with fail
          go_quiet (fail)
          go_wp2_with fail
          go_ret
          exact ⟨ret_b (decide_eq_false he.out).symm, n + nq, by simp⟩
      · go_wp2_with fail
        go_ret
        have he : l1 = l2 := by have := Ht.out; rwa [List.take_of_length_le (by rw [HN1.out]; omega), List.take_of_length_le (by rw [HN2.out]; omega)] at this
        exact ⟨ret_b (decide_eq_true he).symm, n, rfl⟩
  · have t1 : ((n1 : Int) != (n2 : Int)) = true := by simp; omega
    have HLN := Lib.hid hl
    clear hl
    go_enter Tryd.func16, Tryd.ntmps16
    go_wp2_with fail
    go_ret
    exact ⟨ret_b (decide_eq_false (fun e => HLN.out (by rw [← HN1.out, ← HN2.out, e]))).symm, 0, rfl⟩
end Go.Proofs.YtmfomjaomhohkaaDoor
namespace Go.Proofs.YtmfomjaomhohkaaDoor
open Go Go.RowKit Go.Shelf Go.Maps
/-- What a text of a word asks of the world, where nothing below B changes. -/
structure KyB (B : Nat) (w : World) (lang : ByteArray) (l : List Sd) : Prop where
  len : lang.size ≤ 1048576
  num : l.length ≤ 1048576
  fit : FitS l
  it : ∀ W, Below B w W → ItAt W lang.size
  fmt : ∀ W, Below B w W → ∀ i, i < l.length → FmtAt W (sP l i) ∧ FmtAt W (sM l i)
theorem KyB.at {B : Nat} {w W : World} {lang : ByteArray} {l : List Sd} (h : KyB B w lang l) (hb : Below B w W) : KyAt W lang l := ⟨h.len, h.num, h.it W hb, h.fit, h.fmt W hb⟩
theorem KyB.bl {B : Nat} {w W : World} {lang : ByteArray} {l : List Sd} (h : KyB B w lang l) (hb : Below B w W) : KyB B W lang l := ⟨h.len, h.num, h.fit, fun W' hb' => h.it W' (hb.trans hb'), fun W' hb' => h.fmt W' (hb.trans hb')⟩
theorem KyAt.to {w : World} {lang : ByteArray} {l : List Sd} (h : KyAt w lang l) : KyB w.heap.size w lang l := ⟨h.len, h.num, h.fit, fun _ hb => (h.bl hb).it, fun _ hb => (h.bl hb).fmt⟩
theorem Keeps.bel {O : Nat → Prop} {B : Nat} {w w' : World} (h : Keeps O w w') (hB : B ≤ w.heap.size) (hO : ∀ k, O k → B ≤ k) : Below B w w' := ⟨h.os, h.tape, h.output, h.size, fun k hk => h.block k (by omega) fun q => by have := hO k q; omega⟩
theorem owns_setQ {W : World} {base e k n : Nat} {v : Value} {xs : List Value} (h : W.ownsRow base e k v n xs) {b : Nat} {cs : Array Value} {t : TypeId} (hb : Blk W b cs t) (ht : t ≠ e) (o : Nat) (u : Value) : (W.setCell ⟨b, o, none⟩ u).ownsRow base e k v n xs := owns_at h fun r hr => heap_setCell_other W ⟨b, o, none⟩ r u fun q => by
  have q' : r = b := q
  have h1 := own_kind h hr
  rw [q', hb.kind] at h1
  exact ht (by simpa using h1)
theorem MH.setQ {W : World} {m n : Nat} {F : ByteArray → Int} {G : ByteArray → Bool} (h : MH W m n F G) {b : Nat} {cs : Array Value} {t : TypeId} (hb : Blk W b cs t) (o : Nat) (u : Value) : MH (W.setCell ⟨b, o, none⟩ u) m n F G := h.at (heap_setCell_other W ⟨b, o, none⟩ m u fun q => by
  have q' : m = b := q
  have h1 := h.kind
  rw [q', hb.kind] at h1
  simp at h1)
theorem wf_natQ {N : Nat} (h : N < 9223372036854775808) : (Lit.int .i64 (N : Int)).wf = true := by
  have e1 : IntKind.i64.min = -9223372036854775808 := rfl
  have e2 : IntKind.i64.max = 9223372036854775807 := rfl
  simp [Lit.wf, e1, e2]
  omega
theorem GrAt.new {w : World} {g mb : Nat} (hb : Blk w g #[.slice none 0 0, .slice none 0 0, .map (some mb)] 74) (hm : MH w mb 0 (fun _ => 0) (fun _ => false)) : GrAt w (fun k => k = g ∨ k = mb) g ⟨none, 0, none, 0, mb, []⟩ [] [] where
  blk := hb
  list := World.ownsRow_nil _ _ _ _
  lks := World.ownsRow_nil _ _ _ _
  map := by
    have e1 : gF ([] : List ByteArray) = fun _ => 0 := by funext s; simp [gF, gG]
    have e2 : gG ([] : List ByteArray) = fun _ => false := by funext s; simp [gG]
    simp only [List.map_nil, e1, e2]; exact hm
  len := rfl
  lang := fun i hi => by cases hi
  snd := fun i hi => by cases hi
  frs := fun i hi => by cases hi
  tos := fun i hi => by cases hi
  dff := fun i j b hi => by cases hi
  dtt := fun i j b hi => by cases hi
  dft := fun i j b hi => by cases hi
  oG := .inl rfl
  oM := .inr rfl
  oL := fun b e => by cases e
  oK := fun b e => by cases e
  oF := fun i b hi => by cases hi
  oT := fun i b hi => by cases hi
  oS := fun i b hi => by cases hi
  lt := fun k q => by
    rcases q with rfl | rfl
    · exact hb.lt
    · exact hm.lt
  nE := by decide
  nL := by decide
  inr := fun k hk => by cases hk
  fit := fun i hi => by cases hi
  nod := by simp
set_option maxHeartbeats 1000000 in
set_option maxRecDepth 100000 in
theorem new_any (w : World) : Calls Tryd.prog 21 #[] w fun e w' => ∃ (O : Nat → Prop) (g : Nat) (r : GrA), e = .returned (.pointer (some ⟨g, 0, none⟩)) ∧ GrAt w' O g r [] [] ∧ (∀ k, O k → w.heap.size ≤ k) ∧ Below w.heap.size w w' := by
  have hmm := @run_makeMap Tryd.prog
  go_enter Tryd.func21, Tryd.ntmps21
  go_wp2_with fail
  go_ret
  have hm := MH.made w
  have hb1 := bl_alloc (Below.refl _ w) (.map #[] 0)
  have hb2 := bl_alloc hb1 (.cells #[.slice none 0 0, .slice none 0 0, .map (some w.heap.size)] 74)
  refine ⟨_, _, _, rfl, GrAt.new (Blk.new2 _ _ _ _) (hm.alloc _), ?_, hb2⟩
  rintro k (rfl | rfl)
  · omega
  · exact Nat.le_refl _
/-- How Add fails. -/
def addE (es : List Et) (lang : ByteArray) (l : List Sd) : Int := if nmB lang = false then 15 else if chkW l ≠ 0 then chkW l else if gG (es.map eK) (keyB lang l) = true then 6 else if 1024 ≤ es.length then 4 else 0
set_option maxHeartbeats 2000000 in
set_option maxRecDepth 100000 in
theorem add_err {w : World} {O : Nat → Prop} {g : Nat} {r : GrA} {es : List Et} {ls : List Lk} (h : GrAt w O g r es ls) (lang : ByteArray) (a : Option Addr) (n c : Nat) (l : List Sd) (hl : n = l.length) (hA : Rd w a (fl encSd l)) (hK : KyAt w lang l) (hE : addE es lang l ≠ 0) :
    Calls Tryd.prog 22 #[.pointer (some ⟨g, 0, none⟩), .string lang, .slice a n c] w fun e w' => e = .returned (.tuple #[.int .i64 0, .int .i64 (addE es lang l)]) ∧ Below w.heap.size w w' := by
  have HM := Lib.hid (made_yes h)
  have HN := Lib.hid (ename_any lang w (by have := hK.len; omega))
  have HC : Hid (∀ W, Below w.heap.size w W → Calls Tryd.prog 41 #[.slice a n c] W fun e w' => e = .returned (.int .i64 (chkW l)) ∧ Below W.heap.size W w') := fun W hW => wcheck_any a n c l W hl.symm (by have := hK.num; omega) (hA.bl hW) hK.fit
  have HF : Hid (∀ W, Below w.heap.size w W → Calls Tryd.prog 29 #[.pointer (some ⟨g, 0, none⟩), .string lang, .slice a n c] W fun e w' => e = .returned (.tuple #[.int .i64 (gF (es.map eK) (keyB lang l)), .bool (gG (es.map eK) (keyB lang l))]) ∧ Below W.heap.size W w') := fun W hW => find_yes (h.bl hW) lang a n c l hl (hA.bl hW) (hK.bl hW)
  have c0 : w.cell? ⟨g, 0, none⟩ = some (.slice r.A es.length r.c) := h.blk.cell 0
  have hgl := h.blk.lt
  have HE := Lib.hid hE
  clear h hl hA hK hE
  by_cases h1 : nmB lang = false
  · have e : addE es lang l = 15 := by unfold addE; rw [if_pos h1]
    rw [h1] at HN
    rw [e]
    clear HC HF HE
    go_enter Tryd.func22, Tryd.ntmps22
    go_wp2_with first | fail | (refine HM.out.mono ?_; rintro e w1 ⟨rfl, hw⟩; subst w1) | (refine HN.out.mono ?_; rintro e w1 ⟨rfl, hb1⟩; have HB1 := Lib.hid hb1; clear hb1)
    go_ret2
    exact ⟨rfl, HB1.out⟩
  have h1' : nmB lang = true := by simpa using h1
  rw [h1'] at HN
  by_cases h2 : chkW l ≠ 0
  · have e : addE es lang l = chkW l := by unfold addE; rw [if_neg h1, if_pos h2]
    rw [e]
    clear HF HE e
    obtain ⟨x, hx⟩ : ∃ x, x = chkW l := ⟨_, rfl⟩
    rw [← hx] at HC h2
    rw [← hx]
    clear hx
    go_enter Tryd.func22, Tryd.ntmps22
    go_wp2_with first | fail | (refine HM.out.mono ?_; rintro e w1 ⟨rfl, hw⟩; subst w1) | (refine HN.out.mono ?_; rintro e w1 ⟨rfl, hb1⟩; have HB1 := Lib.hid hb1; clear hb1) | (refine (HC.out _ HB1.out).mono ?_; rintro e w2 ⟨rfl, hb2⟩; have HB2 := Lib.hid (bl_trans HB1.out hb2); clear hb2)
    go_ret2
    exact ⟨rfl, HB2.out⟩
  have h2' : chkW l = 0 := by omega
  rw [h2'] at HC
  by_cases h3 : gG (es.map eK) (keyB lang l) = true
  · have e : addE es lang l = 6 := by unfold addE; rw [if_neg h1, if_neg h2, if_pos h3]
    rw [h3] at HF
    rw [e]
    clear HE
    go_enter Tryd.func22, Tryd.ntmps22
    go_wp2_with first | fail | (refine HM.out.mono ?_; rintro e w1 ⟨rfl, hw⟩; subst w1) | (refine HN.out.mono ?_; rintro e w1 ⟨rfl, hb1⟩; have HB1 := Lib.hid hb1; clear hb1) | (refine (HC.out _ HB1.out).mono ?_; rintro e w2 ⟨rfl, hb2⟩; have HB2 := Lib.hid (bl_trans HB1.out hb2); clear hb2) | (refine (HF.out _ HB2.out).mono ?_; rintro e w3 ⟨rfl, hb3⟩; have HB3 := Lib.hid (bl_trans HB2.out hb3); clear hb3)
    go_ret2
    exact ⟨rfl, HB3.out⟩
  have h3' : gG (es.map eK) (keyB lang l) = false := by simpa using h3
  rw [h3'] at HF
  by_cases h4 : 1024 ≤ es.length
  · have e : addE es lang l = 4 := by unfold addE; rw [if_neg h1, if_neg h2, if_neg h3, if_pos h4]
    rw [e]
    clear HE
    have h4' : 1024 ≤ (es.length : Int) := by omega
    go_enter Tryd.func22, Tryd.ntmps22
    go_wp2_with first | fail | (refine HM.out.mono ?_; rintro e w1 ⟨rfl, hw⟩; subst w1) | (refine HN.out.mono ?_; rintro e w1 ⟨rfl, hb1⟩; have HB1 := Lib.hid hb1; clear hb1) | (refine (HC.out _ HB1.out).mono ?_; rintro e w2 ⟨rfl, hb2⟩; have HB2 := Lib.hid (bl_trans HB1.out hb2); clear hb2) | (refine (HF.out _ HB2.out).mono ?_; rintro e w3 ⟨rfl, hb3⟩; have HB3 := Lib.hid (bl_trans HB2.out hb3); clear hb3; have d0 := (HB3.out.cell (p := ⟨g, 0, none⟩) hgl).trans c0)
    go_ret2
    exact ⟨rfl, HB3.out⟩
  · exfalso
    refine HE.out ?_
    unfold addE
    rw [if_neg h1, if_neg h2, if_neg h3, if_neg h4]
theorem encEn_one : ∀ x : En, ∀ u ∈ encEn x, u.oneCell' = true := by
  intro x u hu
  simp only [encEn, List.mem_cons, List.not_mem_nil, or_false] at hu
  rcases hu with rfl | rfl | rfl | rfl <;> rfl
theorem infoEn : (Tryd.prog.info? 82).map (fun i => (i.zero, i.size, i.bytes)) = some (some (.agg #[.string ByteArray.empty, .slice none 0 0, .slice none 0 0, .slice none 0 0]), 4, 88) := by kernel_rfl
set_option maxHeartbeats 4000000 in
set_option maxRecDepth 100000 in
theorem add_ok {w : World} {O : Nat → Prop} {g : Nat} {r : GrA} {es : List Et} {ls : List Lk} (h : GrAt w O g r es ls) (lang : ByteArray) (a : Option Addr) (n c : Nat) (l : List Sd) (hl : n = l.length) (hA : Rd w a (fl encSd l)) (hA0 : a = none → n = 0) (hAO : ∀ b o s, a = some ⟨b, o, s⟩ → ¬ O b) {B : Nat} (hKB : KyB B w lang l) (hBw : B ≤ w.heap.size) (hOB : ∀ k, O k → B ≤ k) (hE : addE es lang l = 0) :
    Calls Tryd.prog 22 #[.pointer (some ⟨g, 0, none⟩), .string lang, .slice a n c] w fun e w' => ∃ (O' : Nat → Prop) (r' : GrA), e = .returned (.tuple #[.int .i64 (es.length : Nat), .int .i64 0]) ∧ GrAt w' O' g r' (es ++ [(lang, l)]) ls ∧ Keeps O w w' ∧ ∀ k, O' k → O k ∨ w.heap.size ≤ k := by
  have hK := hKB.at (Below.refl _ _)
  have h1 : nmB lang = true := by
    rcases Bool.eq_false_or_eq_true (nmB lang) with q | q
    · exact q
    · exfalso; unfold addE at hE; rw [if_pos q] at hE; omega
  have h2 : chkW l = 0 := by
    by_cases q : chkW l ≠ 0
    · exfalso; unfold addE at hE; rw [if_neg (by simp [h1]), if_pos q] at hE; exact q hE
    · omega
  have h3 : gG (es.map eK) (keyB lang l) = false := by
    rcases Bool.eq_false_or_eq_true (gG (es.map eK) (keyB lang l)) with q | q
    · exfalso; unfold addE at hE; rw [if_neg (by simp [h1]), if_neg (by omega), if_pos q] at hE; omega
    · exact q
  have h4 : es.length < 1024 := by
    rcases Nat.lt_or_ge es.length 1024 with q | q
    · exact q
    · exfalso; unfold addE at hE; rw [if_neg (by simp [h1]), if_neg (by omega), if_neg (by simp [h3]), if_pos q] at hE; omega
  have hl32 : l.length ≤ 32 := by
    unfold chkW at h2
    by_cases q : 32 < l.length
    · rw [if_pos q] at h2; omega
    · omega
  have hlg : lang.size ≤ 24 := by
    unfold nmB at h1
    simp at h1
    omega
  have HM := Lib.hid (made_yes h)
  have HN := Lib.hid (ename_any lang w (by have := hK.len; omega))
  rw [h1] at HN
  have HC : Hid (∀ W, Below w.heap.size w W → Calls Tryd.prog 41 #[.slice a n c] W fun e w' => e = .returned (.int .i64 0) ∧ Below W.heap.size W w') := fun W hW => by
    have := wcheck_any a n c l W hl.symm (by have := hK.num; omega) (hA.bl hW) hK.fit
    rw [h2] at this; exact this
  have HF : Hid (∀ W, Below w.heap.size w W → Calls Tryd.prog 29 #[.pointer (some ⟨g, 0, none⟩), .string lang, .slice a n c] W fun e w' => e = .returned (.tuple #[.int .i64 (gF (es.map eK) (keyB lang l)), .bool false]) ∧ Below W.heap.size W w') := fun W hW => by
    have := find_yes (h.bl hW) lang a n c l hl (hA.bl hW) (hK.bl hW)
    rw [h3] at this; exact this
  have HCl : Hid (∀ W, Below w.heap.size w W → Calls Tryd.prog 42 #[.slice a n c] W fun e w' => ∃ v, e = .returned v ∧ w'.ownsRow W.heap.size 57 2 v n (fl encSd l) ∧ Below W.heap.size W w') := fun W hW => cloneSd_any a n c l W hl.symm (by omega) (hA.bl hW) hA0
  have c0 : w.cell? ⟨g, 0, none⟩ = some (.slice r.A es.length r.c) := h.blk.cell 0
  have hgl := h.blk.lt
  have hfx : ∀ x : Int, x = gF (es.map eK) (keyB lang l) → True := fun _ _ => trivial
  obtain ⟨F, hF⟩ : ∃ F, F = gF (es.map eK) (keyB lang l) := ⟨_, rfl⟩
  rw [← hF] at HF
  obtain ⟨N, hN⟩ : ∃ N, N = es.length := ⟨_, rfl⟩
  have HTO : Hid (∀ k, AddT g r N k → O k) := fun k q => by
    rw [hN] at q
    rcases q with rfl | rfl | q
    · exact h.oG
    · exact h.oM
    · exact h.oL k q
  have HAO := Lib.hid hAO
  have HKB := Lib.hid hKB
  have HOB := Lib.hid hOB
  have HG := Lib.hid h
  have HKy := Lib.hid hK
  have HA := Lib.hid hA
  have HL := Lib.hid hl
  have HN2 := Lib.hid hN
  rw [← hN] at c0 h4
  rw [← hN]
  have h4' : ¬ 1024 ≤ (N : Int) := by omega
  clear h hl hA hA0 hK hE h1 h2 hAO hKB hOB hfx hF hN
  go_enter Tryd.func22, Tryd.ntmps22
  go_wp2_with first | fail | (refine HM.out.mono ?_; rintro e w1 ⟨rfl, hw⟩; subst w1) | (refine HN.out.mono ?_; rintro e w1 ⟨rfl, hb1⟩; have HB1 := Lib.hid hb1; clear hb1) | (refine (HC.out _ HB1.out).mono ?_; rintro e w2 ⟨rfl, hb2⟩; have HB2 := Lib.hid (bl_trans HB1.out hb2); clear hb2) | (refine (HF.out _ HB2.out).mono ?_; rintro e w3 ⟨rfl, hb3⟩; have HB3 := Lib.hid (bl_trans HB2.out hb3); clear hb3; have d0 := (HB3.out.cell (p := ⟨g, 0, none⟩) hgl).trans c0)
  have c3 : w3.drew.cell? ⟨g, 0, none⟩ = some (.slice r.A N r.c) := d0
  refine wp_region_order (S := fun w' => w'.cell? ⟨g, 0, none⟩ = some (.slice r.A N r.c)) 11 [0,1,2,3,4,5,6] [7,8,9,10] (by kernel_rfl) (by kernel_rfl) d0 ?_
  iterate 7 (refine headT_cons (by rfl) (by rfl) (by intro w hSw; go_simp; try rfl) ?_; simp only [Act.put, List.setIfInBounds_toArray, List.set_cons_zero, List.set_cons_succ])
  refine headT_nil ?_
  obtain ⟨w4, hw4⟩ : ∃ x, x = w3.drew := ⟨_, rfl⟩
  rw [← hw4]
  have hb4 : Below w.heap.size w w4 := by rw [hw4]; exact bl_drewN HB3.out 1
  clear hw4 c3 d0
  refine midT_cons (by rfl) (fun K hK => ?_)
  rw [if_pos (by rfl)]
  go_simp
  refine (HCl.out w4 hb4).mono ?_
  rintro e w5 ⟨v, rfl, h5, hb5⟩
  obtain ⟨wa, wc, rfl, _⟩ := owns_slice h5
  have hb5' := bl_trans hb4 hb5
  have H5 := Lib.hid h5
  have HB5 := Lib.hid hb5'
  have e5 := (hb5'.cell (p := ⟨g, 0, none⟩) hgl).trans c0
  have hz4 := hb4.size
  refine hK.out _ _ e5 (fun _ => ?_)
  clear hK K h5 hb5 hb4
  try simp only [Act.put, List.setIfInBounds_toArray, List.set_cons_zero, List.set_cons_succ]
  refine midT_cons (by rfl) (fun K hK => ?_)
  rw [if_pos (by rfl)]
  go_simp
  refine hK.out _ _ e5 (fun _ => ?_)
  clear hK K
  try simp only [Act.put, List.setIfInBounds_toArray, List.set_cons_zero, List.set_cons_succ]
  refine midT_cons (by rfl) (fun K hK => ?_)
  rw [if_pos (by rfl)]
  go_simp
  have hb6 := bl_alloc HB5.out (.cells #[.string lang, .slice wa n wc, .slice none 0 0, .slice none 0 0] 82)
  have hD6 := Blk.new w5 #[.string lang, .slice wa n wc, .slice none 0 0, .slice none 0 0] 82
  have h56 := owns_below H5.out (bl_alloc (Below.refl _ w5) (.cells #[.string lang, .slice wa n wc, .slice none 0 0, .slice none 0 0] 82))
  have hz5 := HB5.out.size
  obtain ⟨D, hD⟩ : ∃ x, x = w5.heap.size := ⟨_, rfl⟩
  obtain ⟨w6, hw6⟩ : ∃ x, x = w5.alloc (.cells #[.string lang, .slice wa n wc, .slice none 0 0, .slice none 0 0] 82) := ⟨_, rfl⟩
  rw [← hw6] at hb6 hD6 h56 ⊢
  rw [← hD] at hD6 hz5 ⊢
  have H6 := Lib.hid (owns_mono h56 hz4)
  have HB6 := Lib.hid hb6
  have HD6 : Hid (Rd w6 (some ⟨D, 0, none⟩) (fl encEn [(⟨lang, (wa, n, wc), (none, 0, 0), (none, 0, 0)⟩ : En)])) := rd_of_blkQ (cs := fl encEn [(⟨lang, (wa, n, wc), (none, 0, 0), (none, 0, 0)⟩ : En)]) (t := 82) hD6
  have e6 := (hb6.cell (p := ⟨g, 0, none⟩) hgl).trans c0
  have HL6 : Hid (w6.ownsRow 0 82 4 (.slice r.A N r.c) N (fl encEn r.ens)) := by
    have := owns_below HG.out.list hb6
    rw [← HN2.out] at this; exact this
  refine hK.out _ _ e6 (fun _ => ?_)
  clear hK K hD hw6 hb6 hD6 h56 H5 HB5 hb5' e5
  try simp only [Act.put, List.setIfInBounds_toArray, List.set_cons_zero, List.set_cons_succ]
  refine midT_cons (by rfl) (fun K hK => ?_)
  rw [if_pos (by rfl)]
  refine wp_pushs encEn_len (by decide) encEn_one Tryd.underlying71 infoEn rfl (.tmp 42) (.tmp 47) rfl (.slice r.A N r.c) r.ens N (by rw [HG.out.len]; exact HN2.out) rfl HL6.out (some ⟨D, 0, none⟩) 1 1 [(⟨lang, (wa, n, wc), (none, 0, 0), (none, 0, 0)⟩ : En)] rfl rfl HD6.out (fun e => by cases e) (by omega) (by decide) (by omega) ?_
  intro v7 w7 h71 h72 h73
  obtain ⟨A', c', rfl, _⟩ := owns_slice h71
  have hb7 : Keeps (AddT g r N) w w7 := (Keeps.of_below HB6.out).trans (Keeps.of_grown (O := AddT g r N) h72 (fun k e => .inr (.inr e))) (fun x q => .inl q)
  have k7 : Blk w7 g #[.slice r.A N r.c, .slice r.B ls.length r.d, .map (some r.mb)] 74 := by
    have h := HG.out.blk.below HB6.out
    rw [← HN2.out] at h
    refine h.grown h72 fun e => ?_
    have h1 := own_kind HL6.out e.symm
    rw [h.kind] at h1
    exact absurd h1 (by decide)
  have H71 := Lib.hid h71
  have HB7 := Lib.hid hb7
  have K7 := Lib.hid k7
  have S7 : Hid (w7.ownsRow w.heap.size 57 2 (.slice wa n wc) n (fl encSd l)) := H6.out.kept h72 (owns_neQ H6.out HL6.out (by decide))
  have HMP7 : Hid (MH w7 r.mb N (gF (es.map eK)) (gG (es.map eK))) := by
    have h := HG.out.map.bl HB6.out
    rw [← HN2.out] at h
    refine h.kept h72 fun e => ?_
    have h1 := own_kind HL6.out e.symm
    rw [h.kind] at h1
    exact absurd h1 (by decide)
  have hbl7 : ∀ b, (Value.slice A' (N + 1) c').ownBlock = some b → (Value.slice r.A N r.c).ownBlock = some b ∨ w.heap.size ≤ b := fun b e => by
    rcases h73 with q | q
    · exact .inl (q ▸ e)
    · rw [q] at e
      have := Option.some.inj e
      have := HB6.out.size
      exact .inr (by omega)
  have HBL7 := Lib.hid hbl7
  have e7 : w7.cell? ⟨g, 0, none⟩ = some (.slice r.A N r.c) := k7.cell 0
  have f7 : w7.frozen? ⟨g, 0, none⟩ = false := k7.free 0
  refine hK.out _ _ e7 (fun _ => ?_)
  clear hK K h71 h72 h73 hb7 k7 H6 HB6 HD6 HL6 hbl7 e6
  try simp only [Act.put, List.setIfInBounds_toArray, List.set_cons_zero, List.set_cons_succ]
  refine midT_nil ?_
  simp only [List.drop_succ_cons, List.drop_zero]
  go_wp2_with fail
  refine NoPanic.normal ?_
  have hk8 := K7.out.set 0 (.slice A' (N + 1) c')
  have H8 := Lib.hid (owns_setQ H71.out K7.out (by decide) 0 (.slice A' (N + 1) c'))
  have S8 := Lib.hid (owns_setQ S7.out K7.out (by decide) 0 (.slice A' (N + 1) c'))
  have M8 := Lib.hid (HMP7.out.setQ K7.out 0 (.slice A' (N + 1) c'))
  have hbs := HB7.out.trans (Keeps.of_set (O := AddT g r N) w7 g 0 (.slice A' (N + 1) c') (.inl rfl)) (fun x q => .inl q)
  have HB8 := Lib.hid hbs
  have K8 : Hid (Blk (w7.setCell ⟨g, 0, none⟩ (.slice A' (N + 1) c')) g #[.slice A' (N + 1) c', .slice r.B ls.length r.d, .map (some r.mb)] 74) := hk8
  obtain ⟨w8, hw8⟩ : ∃ x, x = w7.setCell ⟨g, 0, none⟩ (.slice A' (N + 1) c') := ⟨_, rfl⟩
  rw [← hw8] at H8 S8 M8 HB8 K8 ⊢
  clear hk8 hbs hw8 K7 H71 S7 HMP7 HB7 e7 f7
  have d2 : w8.cell? ⟨g, 2, none⟩ = some (.map (some r.mb)) := K8.out.cell 2
  have d2' : w8.drew.cell? ⟨g, 2, none⟩ = some (.map (some r.mb)) := d2
  go_upto_region 15 with fail
  refine wp_region_order (S := fun w' => w'.cell? ⟨g, 2, none⟩ = some (.map (some r.mb))) 8 [0,1,2,3,4,5,7] [6] (by kernel_rfl) (by kernel_rfl) d2 ?_
  iterate 7 (refine headT_cons (by rfl) (by rfl) (by intro w hSw; go_simp; try rfl) ?_; simp only [Act.put, List.setIfInBounds_toArray, List.set_cons_zero, List.set_cons_succ])
  refine headT_nil ?_
  obtain ⟨w9, hw9⟩ : ∃ x, x = w8.drew := ⟨_, rfl⟩
  rw [← hw9]
  have h89 : Below w8.heap.size w8 w9 := by rw [hw9]; exact bl_drewN (Below.refl _ _) 1
  clear hw9 d2 d2'
  have hb9 := HB8.out.trans (Keeps.of_below (O := AddT g r N) h89) (fun x q => .inl q)
  have HK9 := Lib.hid (key_any lang a n c l w9 HKy.out.len ((HKB.out.at (hb9.bel hBw fun k q => HOB.out k (HTO.out k q))).it) HL.out (by have := HKy.out.num; rw [HL.out]; exact this) (HA.out.kp hb9 fun b o s e q => HAO.out b o s e (HTO.out b q)) HKy.out.fit (by rw [HL.out]; exact (HKB.out.at (hb9.bel hBw fun k q => HOB.out k (HTO.out k q))).fmt))
  refine midT_cons (by rfl) (fun K hK => ?_)
  rw [if_pos (by rfl)]
  go_simp
  refine HK9.out.mono ?_
  rintro e w10 ⟨rfl, hb10⟩
  have h810 := bl_trans h89 hb10
  have M10 := Lib.hid (M8.out.bl h810)
  have H10 := Lib.hid (owns_below H8.out h810)
  have S10 := Lib.hid (owns_below S8.out h810)
  have K10 := Lib.hid (K8.out.below h810)
  have HB10 := Lib.hid (HB8.out.trans (Keeps.of_below (O := AddT g r N) h810) (fun x q => .inl q))
  have e10 : w10.cell? ⟨g, 2, none⟩ = some (.map (some r.mb)) := K10.out.cell 2
  refine hK.out _ _ e10 (fun _ => ?_)
  have HSZ := Lib.hid HKy.out.size
  clear hK K hb9 h89 hb10 h810 M8 H8 S8 K8 HB8 HK9
  try simp only [Act.put, List.setIfInBounds_toArray, List.set_cons_zero, List.set_cons_succ]
  refine midT_nil ?_
  simp only [List.drop_succ_cons, List.drop_zero]
  refine wpList_putH rfl (.tmp 54) (.tmp 57) (.tmp 58) 72 rfl Tryd.underlying72 rfl M10.out (by omega) (keyB lang l) rfl (N : Int) rfl HSZ.out (wf_natQ (by omega)) ?_
  intro w11 h111 h112
  have HB11 : Hid (Keeps (AddT g r N) w w11) := HB10.out.trans (Keeps.of_grown (O := AddT g r N) h112 (fun k e => .inr (.inl (Option.some.inj e).symm))) (fun x q => .inl q)
  have nm : ∀ b t, kind w10 b = some (some t) → some b ≠ some r.mb := fun b t hk e => by
    have e' := Option.some.inj e
    rw [e', M10.out.kind] at hk
    simp at hk
  have K11 : Hid (Blk w11 g #[.slice A' (N + 1) c', .slice r.B ls.length r.d, .map (some r.mb)] 74) := K10.out.grown h112 (nm g _ K10.out.kind)
  have H11 : Hid (w11.ownsRow 0 82 4 (.slice A' (N + 1) c') (N + 1) (fl encEn (r.ens ++ [(⟨lang, (wa, n, wc), (none, 0, 0), (none, 0, 0)⟩ : En)]))) := H10.out.kept h112 (by
    cases q : (Value.slice A' (N + 1) c').ownBlock with
    | none => exact .inl rfl
    | some b => exact .inr (nm b _ (own_kind H10.out q)))
  have S11 : Hid (w11.ownsRow w.heap.size 57 2 (.slice wa n wc) n (fl encSd l)) := S10.out.kept h112 (by
    cases q : (Value.slice wa n wc).ownBlock with
    | none => exact .inl rfl
    | some b => exact .inr (nm b _ (own_kind S10.out q)))
  have M11 := Lib.hid h111
  clear h111 h112 nm M10 H10 S10 K10 HB10 e10
  go_wp2_with fail
  refine NoPanic.normal ?_
  go_wp2_with fail
  go_ret2
  have hN := HN2.out
  have hL := HL.out
  obtain ⟨K11, H11, S11, M11, HB11, HBL7⟩ := (⟨K11.out, H11.out, S11.out, M11.out, HB11.out, HBL7.out⟩ : _ ∧ _ ∧ _ ∧ _ ∧ _ ∧ _)
  subst hN hL
  refine ⟨_, _, rfl, HG.out.added HB11 lang l K11 H11 HBL7 M11 S11 h3 h4 HKB.out.fit hl32 hlg, HB11.mono fun x _ q => HTO.out x q, ?_⟩
  rintro k (q | q)
  · exact .inl q
  · rcases HBL7 k q with q | q
    · exact .inl (HG.out.oL k q)
    · exact .inr q
end Go.Proofs.YtmfomjaomhohkaaDoor
