/- glotto: alone, count, nearer, join. glotto: the pairs of clusters, as an iterator. glotto.Shares at every input. -/
import Derived.Test.YtahgffjkkdbjeaaDoorZ1
import Derived.Test.YtahgffjkkdbjeaaDoorZ4
import Derived.Test.YtahgffjkkdbjeaaDoorZ7
import Derived.RangeFuncNested
import Derived.RangeFuncBound
import Derived.RangeFuncCalls
import Derived.RangeFuncLeaves
import Derived.Shelf.Abstract
import Derived.Shelf.RegionOpen
import Derived.WalkKit
import Derived.OwnWalkIn
import Derived.TacticsInMore
import Derived.LoopNIn
import Derived.LoopIn
namespace Go.Proofs.YtahgffjkkdbjeaaDoor
open Go.RowKit
/-- Clusters in block B: sizes s, table f. -/
abbrev Cl (w : World) (B : Nat) (s f : Nat → Nat) : Prop := Blk w B (ofF 600 (cg s f)) 100
theorem Cl.size {w : World} {B : Nat} {s f : Nat → Nat} (h : Cl w B s f) (a : Nat) (ha : a < 24) : w.cell? ⟨B, a, none⟩ = some (.int .i64 (s a)) := by
  rw [Blk.getF h a (by omega), cg_at_size _ _ _ ha]
theorem Cl.with {w : World} {B : Nat} {s f : Nat → Nat} (h : Cl w B s f) (a b : Nat) (ha : a < 24) (hb : b < 24) : w.cell? ⟨B, 24 + a * 24 + b, none⟩ = some (.int .i64 (f (a * 24 + b))) := by
  rw [show 24 + a * 24 + b = 24 + (a * 24 + b) by omega, Blk.getF h _ (by omega), cg_at_with]
theorem Cl.setSize {w : World} {B : Nat} {s f : Nat → Nat} (h : Cl w B s f) (a v : Nat) (ha : a < 24) : Cl (w.setCell ⟨B, a, none⟩ (.int .i64 v)) B (updN s a v) f := by
  have := Blk.setF h a (.int .i64 v)
  rwa [cg_size _ _ _ _ ha] at this
theorem Cl.setWith {w : World} {B : Nat} {s f : Nat → Nat} (h : Cl w B s f) (a b v : Nat) : Cl (w.setCell ⟨B, 24 + a * 24 + b, none⟩ (.int .i64 v)) B s (updN f (a * 24 + b) v) := by
  have := Blk.setF h (24 + (a * 24 + b)) (.int .i64 v)
  rw [cg_with] at this
  rw [show 24 + a * 24 + b = 24 + (a * 24 + b) by omega]
  exact this
set_option maxRecDepth 100000 in
set_option maxHeartbeats 1000000 in
theorem alone_any (n : Nat) (w : World) (hn : n ≤ 24) :
    Calls Tryd.prog 53 #[.int .i64 n] w fun e w' => e = .returned (.pointer (some ⟨w.heap.size, 0, none⟩)) ∧ Cl w' w.heap.size (aloneS n) (fun _ => 0) ∧ Below w.heap.size w w' := by
  go_enter Tryd.func53, Tryd.ntmps53
  go_upto_block 0 with fail
  rw [zc100]
  have h0 : Cl (w.alloc (.cells (ofF 600 (cg (fun _ => 0) fun _ => 0)) 100)) w.heap.size (aloneS 0) (fun _ => 0) := Blk.new w _ _
  have hb0 := bl_alloc (Below.refl _ w) (.cells (ofF 600 (cg (fun _ => 0) fun _ => 0)) 100)
  obtain ⟨w1, hw1⟩ : ∃ w1, w1 = w.alloc (.cells (ofF 600 (cg (fun _ => 0) fun _ => 0)) 100) := ⟨_, rfl⟩
  rw [← hw1] at h0 hb0 ⊢
  clear hw1
  go_wp2_with fail
  go_loopw [8, 4] (fun x _ wr => ∃ k : Nat, k ≤ n ∧ x = .int .i64 k ∧ Cl wr w.heap.size (aloneS k) (fun _ => 0) ∧ Below w.heap.size w wr) (fun x _ _ => n - (intOf x).toNat)
  case atStart => exact ⟨0, by omega, rfl, h0, hb0⟩
  case round =>
    obtain ⟨k, hk, rfl, hc, hb⟩ := hrel
    by_cases hlt : k < n
    · have c1 := hc.size k (by omega)
      have f1 := hc.free k
      have h2 := hc.setSize k 1 (by omega)
      rw [aloneS_next] at h2
      go_wp2_with fail
      go_roundw
      case rel => exact ⟨k + 1, by omega, by go_num, h2, bl_set hb _ _ _ _ (Nat.le_refl _)⟩
      case measure => simp [intOf]; omega
    · have e : k = n := by omega
      subst e
      go_wp2_with fail
      go_ret
      exact ⟨rfl, hc, hb⟩
set_option maxRecDepth 100000 in
set_option maxHeartbeats 1000000 in
theorem count_any (a b B Bc : Nat) (s f : Nat → Nat) (w : World) (ha : a < 24) (hb : b < 24) (hs : ∀ k, s k ≤ 24) (hc : Cl w B s f) (hp : w.cell? ⟨Bc, 0, none⟩ = some (.pointer (some ⟨B, 0, none⟩))) :
    Calls Tryd.prog 54 #[.int .i64 a, .int .i64 b, .pointer (some ⟨Bc, 0, none⟩)] w fun e w' => e = .returned (.int .i64 (cnt s a b : Int)) ∧ ∃ n, w' = w.drewN n := by
  have c1 := hc.size a ha
  have c2 := hc.size b hb
  have hm := cnt_le hs a b
  obtain ⟨v, hv⟩ : ∃ v, v = cnt s a b := ⟨_, rfl⟩
  rw [← hv] at hm ⊢
  have w1 := wrap_nat ((s a : Int) * (s b : Int)) v (by rw [hv, cnt]; simp) (by omega)
  generalize s a = x at *
  generalize s b = y at *
  clear hv hc hs
  go_enter Tryd.func54, Tryd.ntmps54
  go_wp2_with fail
  go_quiet (fail)
  go_wp2_with fail
  go_ret
  exact ⟨rfl, _, rfl⟩
set_option maxRecDepth 100000 in
set_option maxHeartbeats 2000000 in
theorem nearer_any (a b i j B Bc Bf M : Nat) (s f : Nat → Nat) (w : World) (ha : a < 24) (hb : b < 24) (hi : i < 24) (hj : j < 24) (hs : ∀ k, s k ≤ 24) (hf : ∀ k, f k ≤ M) (hM : M ≤ 9007199254740992) (hc : Cl w B s f) (hp : w.cell? ⟨Bc, 0, none⟩ = some (.pointer (some ⟨B, 0, none⟩))) (hq : w.cell? ⟨Bf, 0, none⟩ = some (.func (.func 54) #[] #[.pointer (some ⟨Bc, 0, none⟩)])) :
    Calls Tryd.prog 55 #[.int .i64 a, .int .i64 b, .int .i64 i, .int .i64 j, .pointer (some ⟨Bc, 0, none⟩), .pointer (some ⟨Bf, 0, none⟩)] w fun e w' => e = .returned (.bool (nearB s f a b i j)) ∧ ∃ n, w' = w.drewN n := by
  have c1 := hc.with a b ha hb
  have c2 := hc.with i j hi hj
  have HK : Hid (∀ (a b n : Nat), a < 24 → b < 24 → Calls Tryd.prog 54 #[.int .i64 a, .int .i64 b, .pointer (some ⟨Bc, 0, none⟩)] (w.drewN n) fun e w' => e = .returned (.int .i64 (cnt s a b : Int)) ∧ ∃ m, w' = (w.drewN n).drewN m) := fun a b n ha hb => count_any a b B Bc s f (w.drewN n) ha hb hs hc hp
  have m1 := cnt_le hs i j
  have m2 := cnt_le hs a b
  have m3 : f (a * 24 + b) * cnt s i j ≤ M * 576 := Nat.mul_le_mul (hf _) m1
  have m4 : f (i * 24 + j) * cnt s a b ≤ M * 576 := Nat.mul_le_mul (hf _) m2
  have hend : Hid (nearB s f a b i j = decide (f (a * 24 + b) * cnt s i j < f (i * 24 + j) * cnt s a b)) := rfl
  generalize f (a * 24 + b) = x at *
  generalize f (i * 24 + j) = y at *
  obtain ⟨v, hv⟩ : ∃ v, v = x * cnt s i j := ⟨_, rfl⟩
  obtain ⟨u, hu⟩ : ∃ u, u = y * cnt s a b := ⟨_, rfl⟩
  rw [← hv] at m3 hend
  rw [← hu] at m4 hend
  have w1 := wrap_nat ((x : Int) * (cnt s i j : Int)) v (by rw [hv]; simp) (by omega)
  have w2 := wrap_nat ((y : Int) * (cnt s a b : Int)) u (by rw [hu]; simp) (by omega)
  clear hv hu hs hf hc
  go_enter Tryd.func55, Tryd.ntmps55
  go_wp2_with fail
  go_quiet ((go_at_call 54; exact Calls.quiet_of (HK.out _ _ _ (by omega) (by omega))))
  go_wp2_with fail
  go_ret
  exact ⟨ret_b (by rw [hend.out]), _, rfl⟩
set_option maxRecDepth 100000 in
set_option maxHeartbeats 4000000 in
theorem join_any (a b B M : Nat) (s f : Nat → Nat) (w : World) (hab : a < b) (hb : b < 24) (hs : s a + s b ≤ 24) (hf : ∀ k, f k ≤ M) (hM : M ≤ 9007199254740992) (hc : Cl w B s f) :
    Calls Tryd.prog 58 #[.pointer (some ⟨B, 0, none⟩), .int .i64 a, .int .i64 b] w fun e w' => e = .returned (.tuple #[]) ∧ Cl w' B (joinS s a b) (jw f a b 24) ∧ But B w w' := by
  have c1 := hc.size a (by omega)
  have c2 := hc.size b (by omega)
  have g1 := hc.free a
  have HF := Lib.hid hf
  obtain ⟨z, hz⟩ : ∃ z, z = s a + s b := ⟨_, rfl⟩
  have HJ : Hid (updN (updN s a z) b 0 = joinS s a b) := by show _ = _; rw [joinS, hz]
  rw [← hz] at hs
  generalize s a = x at *
  generalize s b = y at *
  have w1 := wrap_nat ((x : Int) + (y : Int)) z (by rw [hz]; simp) (by omega)
  clear hz hf
  go_enter Tryd.func58, Tryd.ntmps58
  go_wp2_with fail
  refine wp_quiet_tail_lit 15 (by kernel_rfl) (by kernel_rfl) ?_
  simp only [List.take_succ_cons, List.take_zero, List.drop_succ_cons, List.drop_zero]
  repeat (go_big_quiet_step (fail))
  refine wpQuiet_nil ?_
  intro _ hw'
  obtain ⟨nq, hw''⟩ := hw'
  subst hw''
  have hc1 := Cl.setSize (Blk.drewN hc nq) a z (by omega)
  have hc2 := hc1.setSize b 0 hb
  rw [HJ.out] at hc2
  have bt := (((But.refl B w).drewN nq).set a (.int .i64 z)).set b (.int .i64 (0 : Nat))
  have c3 := hc1.size b hb
  have g3 := hc1.free b
  clear hc1 hc
  go_wp2_with fail
  go_loopw [28, 6] (fun x _ wr => ∃ i : Nat, i ≤ 24 ∧ x = .int .i64 i ∧ Cl wr B (joinS s a b) (jw f a b i) ∧ But B w wr) (fun x _ _ => 24 - (intOf x).toNat)
  case atStart => exact ⟨0, by omega, rfl, hc2, bt⟩
  case round =>
    obtain ⟨i, hi, rfl, hcl, hbt⟩ := hrel
    clear hc2 bt c3 g3
    by_cases hlt : i < 24
    · have e1 := hcl.with a i (by omega) hlt
      have e2 := hcl.with b i hb hlt
      obtain ⟨l1, l2⟩ := jw_cells f (a := a) (b := b) (i := i) (by omega) hlt hab HF.out
      have HJ : Hid (updN (updN (jw f a b i) (a * 24 + i) (jw f a b i (a * 24 + i) + jw f a b i (b * 24 + i))) (i * 24 + a) (jw f a b i (a * 24 + i) + jw f a b i (b * 24 + i)) = jw f a b (i + 1)) := rfl
      generalize jw f a b i (a * 24 + i) = x at *
      generalize jw f a b i (b * 24 + i) = y at *
      obtain ⟨v, hv⟩ : ∃ v, v = x + y := ⟨_, rfl⟩
      rw [← hv] at HJ
      have w1 := wrap_nat ((x : Int) + (y : Int)) v (by rw [hv]; simp) (by omega)
      have f1 := hcl.free (24 + a * 24 + i)
      clear hv
      go_upto_region 5 with fail
      refine wp_quiet_tail_lit 20 (by kernel_rfl) (by kernel_rfl) ?_
      simp only [List.take_succ_cons, List.take_zero, List.drop_succ_cons, List.drop_zero]
      repeat (go_big_quiet_step (fail))
      refine wpQuiet_nil ?_
      intro _ hw'
      obtain ⟨nq1, hw''⟩ := hw'
      subst hw''
      have hc3 := Cl.setWith (Blk.drewN hcl nq1) a i v
      have e3 := hc3.with a i (by omega) hlt
      rw [updN_same] at e3
      have f3 := hc3.free (24 + i * 24 + a)
      have e4 := hc3.with i a hlt (by omega)
      go_upto_region 6 with fail
      refine wp_quiet_tail_lit 14 (by kernel_rfl) (by kernel_rfl) ?_
      simp only [List.take_succ_cons, List.take_zero, List.drop_succ_cons, List.drop_zero]
      repeat (go_big_quiet_step (fail))
      refine wpQuiet_nil ?_
      intro _ hw'
      obtain ⟨nq2, hw''⟩ := hw'
      subst hw''
      have hc4 := Cl.setWith (Blk.drewN hc3 nq2) i a v
      rw [HJ.out] at hc4
      have bt4 := (((hbt.drewN nq1).set (24 + a * 24 + i) (.int .i64 v)).drewN nq2).set (24 + i * 24 + a) (.int .i64 v)
      go_wp2_with fail
      go_roundw
      case rel => exact ⟨i + 1, by omega, by go_num, hc4, bt4⟩
      case measure => simp [intOf]; omega
    · have e : i = 24 := by omega
      subst e
      go_wp2_with fail
      go_end0
      exact ⟨rfl, hcl, hbt⟩
end Go.Proofs.YtahgffjkkdbjeaaDoor
namespace Go.Proofs.YtahgffjkkdbjeaaDoor
open Go.RowKit Go.Shelf
attribute [local go_sem] Oper.semAt_some
/-- Three blocks lie as they lay. -/
def Kp3 (B1 B2 B3 : Nat) (W W' : World) : Prop := W'.heap[B1]? = W.heap[B1]? ∧ W'.heap[B2]? = W.heap[B2]? ∧ W'.heap[B3]? = W.heap[B3]?
theorem Kp3.refl (B1 B2 B3 : Nat) (W : World) : Kp3 B1 B2 B3 W W := ⟨rfl, rfl, rfl⟩
theorem Kp3.trans {B1 B2 B3 : Nat} {X Y Z : World} (h : Kp3 B1 B2 B3 X Y) (k : Kp3 B1 B2 B3 Y Z) : Kp3 B1 B2 B3 X Z := ⟨k.1.trans h.1, k.2.1.trans h.2.1, k.2.2.trans h.2.2⟩
theorem cell_of_blockEq {W W' : World} {B : Nat} (h : W'.heap[B]? = W.heap[B]?) (o : Nat) : W'.cell? ⟨B, o, none⟩ = W.cell? ⟨B, o, none⟩ := by
  simp only [World.cell?]
  rw [h]
def encP (x : Nat × Nat) : Array Value := #[.int .i64 (x.1 : Int), .int .i64 (x.2 : Int)]
set_option maxRecDepth 100000 in
set_option maxHeartbeats 4000000 in
theorem pairs1_in (m n l Bn Bc B : Nat) (s f : Nat → Nat) (hn : n ≤ 24) (hm : 1 ≤ m) (J Jx : List (Nat × Nat) → World → Prop)
    (hY : ∀ pre (x : Nat × Nat) W, x.1 < 24 → x.2 < 24 → J pre W → pre.length < 600 → YieldAt Fence.wide (m - 1) Tryd.prog l (encP x) W fun e W' =>
      (e = .returned (.bool true) ∧ J (pre ++ [x]) W' ∧ Kp3 B Bn Bc W W') ∨ (e = .returned (.bool false) ∧ Jx (pre ++ [x]) W'))
    (W : World) (hBn : W.cell? ⟨Bn, 0, none⟩ = some (.int .i64 n)) (hBc : W.cell? ⟨Bc, 0, none⟩ = some (.pointer (some ⟨B, 0, none⟩))) (hc : Cl W B s f) (h0 : J [] W) :
    CallsIn Fence.wide m Tryd.prog 90 #[.func (.yield l) #[] #[], .pointer (some ⟨Bn, 0, none⟩), .pointer (some ⟨Bc, 0, none⟩)] W fun e W' => (∃ v, e = .returned v) ∧
      ((∃ ys, ys = prs s n n ∧ J ys W') ∨ (∃ pre, True ∧ Jx pre W')) := by
  have HY := Lib.hid hY
  clear hY
  have HC : Hid (∀ wr, Kp3 B Bn Bc W wr → wr.cell? ⟨Bn, 0, none⟩ = some (.int .i64 n) ∧ wr.cell? ⟨Bc, 0, none⟩ = some (.pointer (some ⟨B, 0, none⟩)) ∧ ∀ a, a < 24 → wr.cell? ⟨B, a, none⟩ = some (.int .i64 (s a))) :=
    fun wr h => ⟨(cell_of_blockEq h.2.1 0).trans hBn, (cell_of_blockEq h.2.2 0).trans hBc, fun a ha => (cell_of_blockEq h.1 a).trans (hc.size a ha)⟩
  clear hc hBc
  refine callsIn_of_wp Tryd.func90 rfl trivial ?_ rfl
  simp only [Tryd.ntmps90, List.size_toArray, List.length_cons, List.length_nil, Nat.reduceAdd, Nat.reduceSub, Array.replicate_succ, Array.replicate_zero, List.push_toArray, List.append_toArray, List.nil_append, List.cons_append]
  gi_wp2
  gi_loopw [7, 4, 5] (fun x _ _ wr => ∃ a : Nat, a ≤ n ∧ x = .int .i64 a ∧ J (prs s n a) wr ∧ Kp3 B Bn Bc W wr) (fun x _ _ _ => n - (intOf x).toNat)
  case atStart => exact ⟨0, by omega, rfl, h0, Kp3.refl _ _ _ _⟩
  case round =>
    obtain ⟨a, ha, rfl, hJ, hk⟩ := hrel
    by_cases hlt : a < n
    · obtain ⟨wo, rfl⟩ : ∃ wo : World, wo = wr := ⟨_, rfl⟩
      obtain ⟨e1, e2, e3⟩ := HC.out wo hk
      have ea := e3 a (by omega)
      have E3 := Lib.hid e3
      clear e3
      gi_wp2
      gi_loopw [5] (fun x wr => ∃ b : Nat, a + 1 ≤ b ∧ b ≤ n ∧ x = .int .i64 b ∧ Hid (b = a + 1 ∨ 0 < s a) ∧ J (prs s n a ++ if 0 < s a then rowP s a b else []) wr ∧ Kp3 B Bn Bc W wr) (fun x _ => n - (intOf x).toNat)
      case atStart => exact ⟨a + 1, by omega, by omega, by go_num, .inl rfl, by
        rw [rowP_low s a (a + 1) (Nat.le_refl _)]
        have : prs s n a ++ (if 0 < s a then [] else []) = prs s n a := by split <;> simp
        rw [this]; exact hJ, hk⟩
      case round =>
        obtain ⟨b, hb1, hb2, rfl, hsa, hJ2, hk2⟩ := hrel
        clear hJ e1 e2 ea E3
        obtain ⟨e1, e2, e3⟩ := HC.out wr hk2
        have ea := e3 a (by omega)
        by_cases hbn : b < n
        · have eb := e3 b (by omega)
          clear e3
          by_cases h1 : 0 < s a
          · by_cases h2 : 0 < s b
            · have hlen : (prs s n a ++ if 0 < s a then rowP s a b else []).length < 600 := by
                have l1 := prs_len s n hn a
                have l2 := rowP_len s a b
                rw [if_pos h1, List.length_append]
                omega
              obtain ⟨fn, tmps, assign, body, hy, hR⟩ := HY.out _ (a, b) wr (show a < 24 by omega) (show b < 24 by omega) hJ2 hlen
              dsimp only [encP] at hy
              have hnx : Hid ((prs s n a ++ if 0 < s a then rowP s a b else []) ++ [(a, b)] = prs s n a ++ if 0 < s a then rowP s a (b + 1) else []) := by
                show _ = _
                rw [if_pos h1, if_pos h1, rowP_next s a b (by omega) h2, List.append_assoc]
              have h1' : decide (0 < s a) = true := by simpa using h1
              have h2' : decide (0 < s b) = true := by simpa using h2
              have H1 : Hid (b + 1 = a + 1 ∨ 0 < s a) := .inr h1
              gi_wp2
              refine hR.mono ?_
              rintro e W3 (⟨rfl, hJ3, hk3⟩ | ⟨rfl, hJx3⟩)
              · rw [hnx.out] at hJ3
                gi_wp2
                go_roundw
                case rel => exact ⟨b + 1, by omega, by omega, by go_num, H1, hJ3, hk2.trans hk3⟩
                case measure => simp [intOf]; omega
              · gi_wp2
                refine bodyPost_ret (results_none rfl _ _ _) rfl ?_
                exact ⟨⟨_, rfl⟩, .inr ⟨_, trivial, hJx3⟩⟩
            · have hnx : Hid ((prs s n a ++ if 0 < s a then rowP s a b else []) = prs s n a ++ if 0 < s a then rowP s a (b + 1) else []) := by
                show _ = _
                rw [rowP_skip s a b fun h => h2 h.2]
              have h1' : decide (0 < s a) = true := by simpa using h1
              have h2' : decide (0 < s b) = false := by simpa using h2
              have H1 : Hid (b + 1 = a + 1 ∨ 0 < s a) := .inr h1
              rw [hnx.out] at hJ2
              gi_wp2
              refine ⟨fun _ h => (by cases h), ?_⟩
              gi_wp2
              go_roundw
              case rel => exact ⟨b + 1, by omega, by omega, by go_num, H1, hJ2, hk2⟩
              case measure => simp [intOf]; omega
          · have h1' : decide (0 < s a) = false := by simpa using h1
            have hnx : Hid ((prs s n a ++ if 0 < s a then rowP s a b else []) = prs s n (a + 1)) := by
              show _ = _
              rw [prs, if_neg h1, if_neg h1]
            rw [hnx.out] at hJ2
            gi_wp2
            go_roundw
            case rel => exact ⟨a + 1, by omega, by go_num, hJ2, hk2⟩
            case measure => simp [intOf]; omega
        · obtain rfl : b = n := by omega
          have hnx : Hid ((prs s b a ++ if 0 < s a then rowP s a b else []) = prs s b (a + 1)) := rfl
          rw [hnx.out] at hJ2
          have hd : decide (b < b) = false := by simp
          clear e3
          gi_wp2
          go_roundw
          case rel => exact ⟨a + 1, by omega, by go_num, hJ2, hk2⟩
          case measure => simp [intOf]; omega
    · have e : a = n := by omega
      subst e
      gi_wp2
      go_end0
      exact ⟨⟨_, rfl⟩, .inl ⟨_, rfl, hJ⟩⟩
/-- Two languages. -/
abbrev Two := Fin 24 × Fin 24
def toN (x : Two) : Nat × Nat := (x.1.val, x.2.val)
/-- The iterator keeps its word. -/
theorem pairs_stops (m n Bn Bc B : Nat) (s f : Nat → Nat) (w : World) (hn : n ≤ 24) (hm : 1 ≤ m) (hBn : w.cell? ⟨Bn, 0, none⟩ = some (.int .i64 n)) (hBc : w.cell? ⟨Bc, 0, none⟩ = some (.pointer (some ⟨B, 0, none⟩))) (hc : Cl w B s f) (h1 : Bn < w.heap.size) (h2 : Bc < w.heap.size) :
    SeqStopsK Fence.wide m Tryd.prog 90 #[.pointer (some ⟨Bn, 0, none⟩), .pointer (some ⟨Bc, 0, none⟩)] (fun x : Two => encP (toN x)) (Kp3 B Bn Bc) (fun ys => ys.map toN = prs s n n) (fun _ => True) 600 w := fun l J Jx W hW _ _ hY h0 => by
  refine (pairs1_in m n l Bn Bc B s f hn hm (fun l W => ∃ ys : List Two, ys.map toN = l ∧ J ys W) (fun l W => ∃ ys : List Two, ys.map toN = l ∧ Jx ys W) ?_ W ((hW.cell (p := ⟨Bn, 0, none⟩) h1).trans hBn) ((hW.cell (p := ⟨Bc, 0, none⟩) h2).trans hBc) (Blk.below hc hW) ⟨[], rfl, h0⟩).mono ?_
  · rintro pre ⟨x, y⟩ W1 hx hy ⟨ys, rfl, hJ⟩ hl
    obtain ⟨fn, tmps, assign, body, hy1, hR⟩ := hY ys (⟨x, hx⟩, ⟨y, hy⟩) W1 hJ (by rwa [List.length_map] at hl)
    refine ⟨fn, tmps, assign, body, hy1, hR.mono ?_⟩
    rintro e W' (⟨he, hJ', hk⟩ | ⟨he, hJx⟩)
    · exact .inl ⟨he, ⟨_, by rw [List.map_append]; rfl, hJ'⟩, hk⟩
    · exact .inr ⟨he, _, by rw [List.map_append]; rfl, hJx⟩
  · rintro e W' ⟨he, ⟨ys, rfl, zs, hz, hJ⟩ | ⟨pre, _, zs, _, hJx⟩⟩
    · exact ⟨he, .inl ⟨zs, hz, hJ⟩⟩
    · exact ⟨he, .inr ⟨zs, trivial, hJx⟩⟩
theorem pairs_any (n : Nat) (B : Nat) (w : World) :
    Calls Tryd.prog 56 #[.pointer (some ⟨B, 0, none⟩), .int .i64 n] w fun e w' => e = .returned (.func (.func 90) #[] #[.pointer (some ⟨w.heap.size + 1, 0, none⟩), .pointer (some ⟨w.heap.size, 0, none⟩)]) ∧ w' = (w.alloc (.cells #[.pointer (some ⟨B, 0, none⟩)] 96)).alloc (.cells #[.int .i64 n] 3) := by
  go_enter Tryd.func56, Tryd.ntmps56
  go_wp2
  go_ret
  exact ⟨rfl, rfl⟩
end Go.Proofs.YtahgffjkkdbjeaaDoor
namespace Go.Proofs.YtahgffjkkdbjeaaDoor
open Go.RowKit
theorem anyLong_at (l : List Rw) (k : Nat) (h : k < l.length) : l[k] = (rA l k, rN l k, rC l k) := by simp [rA, rN, rC, h]
set_option maxHeartbeats 400000 in
theorem anyLong_idx (a : Option Addr) (n c : Nat) (l : List Rw) (w : World) (hn : l.length = n) (hm : n ≤ 1152921504606846976) (hA : Rd w a (fl encR l)) (hb0 : ∀ i, i < n → rN l i ≤ 1152921504606846976) :
    Calls Tryd.prog 91 #[.slice a n c, .func (.func 60) #[] #[]] w fun e w' => e = .returned (.int .i64 (idxF longR l)) ∧ Below w.heap.size w w' := by
  have HN := Lib.hid hn; clear hn
  have HB0 := Lib.hid hb0; clear hb0
  go_enter Tryd.func91, Tryd.ntmps91
  go_wp2
  go_loopw [8, 5] (fun x _ wr => ∃ k : Nat, k ≤ n ∧ x = .int .i64 k ∧ NoneBefore longR l k ∧ Below w.heap.size w wr) (fun x _ _ => n - (intOf x).toNat)
  case atStart => exact ⟨0, by omega, rfl, NoneBefore.zero _ _, Below.refl _ _⟩
  case round =>
    obtain ⟨k, hk, rfl, hnb, hbl⟩ := hrel
    by_cases hlt : k < n
    · obtain ⟨b, o, rfl, _, hc⟩ := rdR (hA.bl hbl) (by rw [HN.out]; omega)
      have G := hc k (by rw [HN.out]; omega)
      clear hc hA
      have hkl : Hid (k < l.length) := by rw [HN.out]; exact hlt
      have hat := Lib.hid (anyLong_at l k hkl.out)
      go_wp2_with fail
      refine (long_cl (rA l k) (rN l k) (rC l k) _ (HB0.out k hlt)).mono ?_
      rintro e w' ⟨rfl, hb2⟩
      have hlr : Hid (decide (24 < rN l k) = longR (rA l k, rN l k, rC l k)) := rfl
      rcases Bool.eq_false_or_eq_true (decide (24 < rN l k)) with hp | hp
      · have HP := Lib.hid hp
        rw [hp]
        clear hp
        go_wp2
        go_ret
        exact ⟨ret_i (by rw [hnb.found hkl.out (by rw [hat.out, ← hlr.out]; exact HP.out)]), bl_trans hbl hb2⟩
      · have HP := Lib.hid hp
        rw [hp]
        clear hp
        go_wp2
        go_roundw
        case rel => exact ⟨k + 1, by omega, by go_num, hnb.next hkl.out (by rw [hat.out, ← hlr.out]; exact HP.out), bl_trans hbl hb2⟩
        case measure => simp [intOf]; omega
    · go_wp2
      go_ret
      exact ⟨ret_i (by rw [hnb.none (by rw [HN.out]; omega)]), hbl⟩
set_option maxHeartbeats 400000 in
theorem anyLong_any (a : Option Addr) (n c : Nat) (l : List Rw) (w : World) (hn : l.length = n) (hm : n ≤ 1152921504606846976) (hA : Rd w a (fl encR l)) (hb0 : ∀ i, i < n → rN l i ≤ 1152921504606846976) :
    Calls Tryd.prog 59 #[.slice a n c, .func (.func 60) #[] #[]] w fun e w' => e = .returned (.bool (l.any longR)) ∧ Below w.heap.size w w' := by
  have HB0 := Lib.hid hb0; clear hb0
  go_enter Tryd.func59, Tryd.ntmps59
  go_wp2_with fail
  refine (anyLong_idx a n c l _ hn hm hA HB0.out).mono ?_
  rintro e w' ⟨rfl, hb⟩
  have hi := idxF_ge longR l
  rcases Bool.eq_false_or_eq_true (l.any longR) with hp | hp
  · have HP := Lib.hid hp
    rw [hp] at hi
    clear hp
    go_wp2
    go_ret
    exact ⟨ret_b (by rw [HP.out]), hb⟩
  · have HP := Lib.hid hp
    rw [hp] at hi
    clear hp
    go_wp2
    go_ret
    exact ⟨ret_b (by rw [HP.out]), hb⟩
/-- The fractions h 0 .. h (N - 1), in block g. -/
def FF (w : World) (base g cap N : Nat) (h : Nat → Fr) : Prop := w.ownsRow base 40 2 (.slice (some ⟨g, 0, none⟩) N cap) N (fl encFr ((List.range N).map h))
theorem FF.set {w : World} {base g cap N : Nat} {h : Nat → Fr} (hf : FF w base g cap N h) (p : Nat) (u v : Int) : FF ((w.setCell ⟨g, p * 2, none⟩ (.int .i64 u)).setCell ⟨g, p * 2 + 1, none⟩ (.int .i64 v)) base g cap N (updF h p (u, v)) := by
  unfold FF
  rw [map_updF]
  exact owns_setFr hf p u v
theorem FF.cell {w : World} {base g cap N : Nat} {h : Nat → Fr} (hf : FF w base g cap N h) (p : Nat) (hp : p < N) : (∃ u, w.cell? ⟨g, p * 2, none⟩ = some u) ∧ ∃ u, w.cell? ⟨g, p * 2 + 1, none⟩ = some u := ⟨owns_cell hf (p * 2) (by omega), owns_cell hf (p * 2 + 1) (by omega)⟩
theorem FF.congr {w : World} {base g cap N : Nat} {h h' : Nat → Fr} (hf : FF w base g cap N h) (e : ∀ p, p < N → h p = h' p) : FF w base g cap N h' := by
  unfold FF at *
  rw [show (List.range N).map h' = (List.range N).map h from List.map_congr_left fun p hp => (e p (by simpa using hp)).symm]
  exact hf
theorem FF.drewN {w : World} {base g cap N : Nat} {h : Nat → Fr} (hf : FF w base g cap N h) (n : Nat) : FF (w.drewN n) base g cap N h := hf
theorem shP_zero (L : List (List Int)) (n M : Nat) : (List.range M).map (shP L n 0 0) = List.replicate M (0, 0) := by
  rw [List.eq_replicate_iff]
  refine ⟨by simp, fun x hx => ?_⟩
  obtain ⟨k, _, rfl⟩ := List.mem_map.1 hx
  unfold shP
  generalize k / n = i
  generalize k % n = j
  exact if_neg (by omega)
theorem sh_set {w w0 : World} {g M n a c k1 k2 ln ld : Nat} {L : List (List Int)} (h1 : a * n + c = k1) (h2 : c * n + a = k2) (hF : shareF L a c = ((ln : Int), (ld : Int))) (ha : a < n) (hc : c ≤ a) (hf : FF w w0.heap.size g M M (shP L n a c)) (hg : w0.heap.size ≤ g) (hb : Below w0.heap.size w0 w) :
    FF (((((w.setCell ⟨g, k1 * 2, none⟩ (.int .i64 ln)).setCell ⟨g, k1 * 2 + 1, none⟩ (.int .i64 ld)).setCell ⟨g, k2 * 2, none⟩ (.int .i64 ln)).setCell ⟨g, k2 * 2 + 1, none⟩ (.int .i64 ld)).drew) w0.heap.size g M M (shP L n a (c + 1)) ∧ Below w0.heap.size w0 (((((w.setCell ⟨g, k1 * 2, none⟩ (.int .i64 ln)).setCell ⟨g, k1 * 2 + 1, none⟩ (.int .i64 ld)).setCell ⟨g, k2 * 2, none⟩ (.int .i64 ln)).setCell ⟨g, k2 * 2 + 1, none⟩ (.int .i64 ld)).drew) := by
  have h := FF.set (FF.set hf k1 ln ld) k2 ln ld
  refine ⟨FF.drewN (h.congr fun p _ => ?_) 1, bl_drewN (bl_set (bl_set (bl_set (bl_set hb _ _ _ _ hg) _ _ _ _ hg) _ _ _ _ hg) _ _ _ _ hg) 1⟩
  rw [← hF, ← h1, ← h2]
  exact shP_next L ha hc p
def ShPost (w : World) (L : List (List Int)) (e : Ending) (w' : World) : Prop :=
  Below w.heap.size w w' ∧ ((∃ k, sharesE L = .error k ∧ e = .returned (.tuple #[.slice none 0 0, .int .i64 k])) ∨
    ∃ (n : Nat) (v : Value), sharesE L = .ok n ∧ n ≤ 24 ∧ e = .returned (.tuple #[v, .int .i64 0]) ∧ (L = [] → n = 0 ∧ v = .slice none 0 0) ∧ w'.ownsRow w.heap.size 40 2 v (n * n) (fl encFr (shL L n)))
set_option maxRecDepth 100000 in
set_option maxHeartbeats 4000000 in
theorem shares_any (a : Option Addr) (N c : Nat) (rs : List Rw) (L : List (List Int)) (w : World) (hn : L.length = N) (hN : N ≤ 1152921504606846976) (hR : Rows w a rs L) :
    Calls Tryd.prog 26 #[.slice a N c] w (ShPost w L) := by
  have HR := Lib.hid hR
  have HN := Lib.hid hn
  have hlr := hR.len
  have hb0 : Hid (∀ i, i < N → rN rs i ≤ 1152921504606846976) := fun i hi => (hR.row i (by rw [hn]; exact hi)).2.2
  have hlong := Lib.hid (hR.long)
  have hA := hR.rd
  rw [hn] at hlr
  have HLR := Lib.hid hlr
  clear hR hn hlr
  by_cases h1 : 256 < N
  · have hs := Lib.hid (show sharesE L = .error 12 by rw [sharesE, if_pos (.inl (by rw [HN.out]; exact h1))])
    go_enter Tryd.func26, Tryd.ntmps26
    go_wp2_with fail
    go_ret2
    exact ⟨Below.refl _ _, .inl ⟨12, hs.out, rfl⟩⟩
  · have hd1 : decide (256 < N) = false := by simpa using h1
    have h1' : N ≤ 256 := by omega
    by_cases h2 : L.any longL = true
    · have hs := Lib.hid (show sharesE L = .error 12 by rw [sharesE, if_pos (.inr h2)])
      have HL : Hid (rs.any longR = true) := by show _ = _; rw [hlong.out, h2]
      clear h2 h1
      go_enter Tryd.func26, Tryd.ntmps26
      go_wp2_with (go_at_call 59; refine (anyLong_any a N c rs _ HLR.out (by omega) hA hb0.out).mono ?_; rintro e w1 ⟨rfl, hb1⟩; rw [HL.out])
      go_ret2
      exact ⟨hb1, .inl ⟨12, hs.out, rfl⟩⟩
    · have HL : Hid (rs.any longR = false) := by show _ = _; rw [hlong.out]; simpa using h2
      have H2 := Lib.hid h2
      have HE2 : Hid (∀ k, k < N → ¬ RowOk L k → sharesE L = .error 2) := fun k hk h => by
        rw [sharesE, if_neg (by rw [HN.out]; rintro (h | h); exact h1 h; exact h2 h), if_pos (fun h3 => h (h3 k (by rw [HN.out]; exact hk)))]
      have HEO : Hid ((∀ i, i < N → RowOk L i) → sharesE L = .ok (rwk L 0).length) := fun h => by
        rw [sharesE, if_neg (by rw [HN.out]; rintro (h | h); exact h1 h; exact h2 h), if_neg (fun h3 => h3 fun i hi => h i (by rw [← HN.out]; exact hi))]
      have H24 : Hid (∀ i, i < N → rN rs i ≤ 24) := fun i hi => by
        have hi2 : i < L.length := by rw [HN.out]; exact hi
        rw [(HR.out.row i hi2).2.1]
        have h3 := List.any_eq_false.1 (by simpa using h2 : L.any longL = false) L[i] (List.getElem_mem hi2)
        simp only [longL, decide_eq_true_eq] at h3
        have : rwk L i = L[i] := by simp [rwk, hi2]
        rw [this]
        omega
      clear h2 h1
      go_enter Tryd.func26, Tryd.ntmps26
      go_upto_block 0 with (go_at_call 59; refine (anyLong_any a N c rs _ HLR.out (by omega) hA hb0.out).mono ?_; rintro e w1 ⟨rfl, hb1⟩; rw [HL.out])
      go_cut [] (fun wx => Hid (∀ i, i < N → RowOk L i) ∧ Below w.heap.size w wx)
      case first =>
        go_wp2_with fail
        go_loopw [24, 5] (fun x _ wr => ∃ k : Nat, k ≤ N ∧ x = .int .i64 k ∧ Hid (∀ i, i < k → RowOk L i) ∧ Below w.heap.size w wr) (fun x _ _ => N - (intOf x).toNat)
        case atStart => exact ⟨0, by omega, rfl, fun i h => absurd h (by omega), hb1⟩
        case round =>
          obtain ⟨k, hk, rfl, hok, hbl⟩ := hrel
          by_cases hlt : k < N
          · obtain ⟨b, o, rfl, _, hc⟩ := rdR (hA.bl hbl) (by rw [HLR.out]; omega)
            have G := hc k (by rw [HLR.out]; omega)
            have G0 := hc 0 (by rw [HLR.out]; omega)
            rw [Nat.add_zero] at G0
            obtain ⟨hr1, hr2, hr3⟩ := HR.out.row k (by rw [HN.out]; exact hlt)
            obtain ⟨_, hz2, _⟩ := HR.out.row 0 (by rw [HN.out]; omega)
            have HE := Lib.hid (HE2.out k hlt)
            have HNX : Hid (RowOk L k → ∀ i, i < k + 1 → RowOk L i) := fun h i hi => by
              by_cases e : i = k
              · rw [e]; exact h
              · exact hok.out i (by omega)
            have q1 := H24.out k hlt
            have q0 := H24.out 0 (by omega)
            have HR1 := Lib.hid (hr1.bl hbl)
            have HR2 := Lib.hid hr2
            have HRO : Hid (RowOk L k ↔ rN rs k = rN rs 0 ∧ (rwk L k).any under = false) := by show _ ↔ _; rw [hr2, hz2]; rfl
            clear hc hr1 hr2 hr3 hz2
            generalize rN rs k = n1 at *
            generalize rN rs 0 = n0 at *
            by_cases e : n1 = n0
            · have hq : ((n1 : Int) != (n0 : Int)) = false := by simp; omega
              have EN := Lib.hid e
              clear e
              rcases Bool.eq_false_or_eq_true ((rwk L k).any under) with hp | hp
              · have HP := Lib.hid hp
                have hs := Lib.hid (HE.out (fun h => by have := (HRO.out.1 h).2; rw [hp] at this; cases this))
                clear hp
                go_wp2_with (go_at_call 61; refine (anyUnder_any (rA rs k) n1 (rC rs k) (rwk L k) _ HR2.out.symm (by omega) HR1.out).mono ?_; rintro e w2 ⟨rfl, hb2⟩; rw [HP.out])
                go_ret2
                exact ⟨bl_trans hbl hb2, .inl ⟨2, hs.out, rfl⟩⟩
              · have HP := Lib.hid hp
                have hnx := Lib.hid (HNX.out (HRO.out.2 ⟨EN.out, hp⟩))
                clear hp
                go_wp2_with (go_at_call 61; refine (anyUnder_any (rA rs k) n1 (rC rs k) (rwk L k) _ HR2.out.symm (by omega) HR1.out).mono ?_; rintro e w2 ⟨rfl, hb2⟩; rw [HP.out])
                go_roundw
                case rel => exact ⟨k + 1, by omega, by go_num, hnx, bl_trans hbl hb2⟩
                case measure => simp [intOf]; omega
            · have hq : ((n1 : Int) != (n0 : Int)) = true := by simp; omega
              have hs := Lib.hid (HE.out (fun h => e (HRO.out.1 h).1))
              clear e
              go_wp2_with fail
              go_ret2
              exact ⟨hbl, .inl ⟨2, hs.out, rfl⟩⟩
          · go_wp2_with fail
            go_meet
            have : k = N := by omega
            subst this
            exact ⟨hok, hbl⟩
      case rest =>
        obtain ⟨hok, hbl⟩ := hcut
        have hs := Lib.hid (HEO.out hok.out)
        by_cases hN0 : N = 0
        · have hL0 : L = [] := List.eq_nil_of_length_eq_zero (by rw [HN.out]; exact hN0)
          have hq : ((N : Int) == 0) = true := by simp; omega
          have HL0 := Lib.hid hL0
          have HN0 := Lib.hid hN0
          clear hL0 hN0
          go_wp2_with fail
          go_ret2
          refine ⟨hbl, .inr ⟨0, _, by rw [hs.out, HL0.out]; rfl, by omega, rfl, fun _ => ⟨rfl, rfl⟩, World.ownsRow_nil _ _ _ _⟩⟩
        · have hq : ((N : Int) == 0) = false := by simp; omega
          have hN1 : 0 < N := by omega
          clear hN0
          obtain ⟨b, o, rfl, hbw, hc⟩ := rdR hA (by rw [HLR.out]; omega)
          have hcr : Hid (∀ wr, Below w.heap.size w wr → ∀ i, i < N → wr.cell? ⟨b, o + i, none⟩ = some (.slice (rA rs i) (rN rs i) (rC rs i))) := fun wr h i hi => (h.cell (p := ⟨b, o + i, none⟩) hbw).trans (hc i (by rw [HLR.out]; exact hi))
          have G0 := hcr.out _ hbl 0 (by omega)
          rw [Nat.add_zero] at G0
          obtain ⟨n, hn⟩ : ∃ n, n = rN rs 0 := ⟨_, rfl⟩
          have hn24 := H24.out 0 hN1
          rw [← hn] at G0 hn24
          have hlen : Hid (∀ i, i < N → rN rs i = n) := fun i hi => by
            rw [hn, (HR.out.row i (by rw [HN.out]; exact hi)).2.1, (HR.out.row 0 (by rw [HN.out]; omega)).2.1]
            exact (hok.out i hi).1
          have hsn : Hid (sharesE L = .ok n) := by show _ = _; rw [hs.out, hn, (HR.out.row 0 (by rw [HN.out]; omega)).2.1]
          obtain ⟨M, hM⟩ : ∃ M, n * n = M := ⟨_, rfl⟩
          have hM2 : M ≤ 576 := by rw [← hM]; exact Nat.mul_le_mul hn24 hn24
          have wM := wrap_nat ((n : Int) * (n : Int)) M (by rw [← hM]; simp) (by omega)
          have HMM := Lib.hid hM
          clear hn hM hc hs
          obtain ⟨i0, hi, hz0, hz1, hz2⟩ := info_parts info40
          have hmk := run_make (P := Tryd.prog) wc 22 40 i0 _ Tryd.underlying22 hi hz0 .i64 .i64 (M : Int) (M : Int) (by omega) (by omega) (by rw [hz2]; omega) (by omega)
          rw [hz1] at hmk
          simp only [Int.toNat_natCast] at hmk
          have hown0 : FF (wc.alloc (.cells (madeCells #[Value.int .i64 0, Value.int .i64 0] (M * 2)) 40)) w.heap.size wc.heap.size M M (shP L n 0 0) := by
            have := owns_made (w := wc) (base := w.heap.size) (e := 40) (k := 2) (n := M) (cs := madeCells (encFr (0, 0)).toArray (M * 2)) hbl.size (size_madeCells _ _) (by unfold maxLen; omega)
            rw [made_cells encFr 2 encFr_len (by omega)] at this
            unfold FF
            rw [shP_zero]
            exact this
          have hbl0 := bl_alloc hbl (.cells (madeCells #[Value.int .i64 0, Value.int .i64 0] (M * 2)) 40)
          obtain ⟨g, hg⟩ : ∃ g, g = wc.heap.size := ⟨_, rfl⟩
          have hgw : w.heap.size ≤ g := by rw [hg]; exact hbl.size
          go_wp2_with fail
          rw [← hg] at hown0 ⊢
          clear hg hmk G0 hbl
          obtain ⟨w5, hw5⟩ : ∃ w5, w5 = wc.alloc (.cells (madeCells #[Value.int .i64 0, Value.int .i64 0] (M * 2)) 40) := ⟨_, rfl⟩
          rw [← hw5] at hown0 hbl0 ⊢
          clear hw5
          go_loopw [52, 8, 57, 9, 62, 10, 11, 13, 14] (fun x _ _ _ _ _ _ _ _ wr => ∃ a : Nat, a ≤ n ∧ x = .int .i64 a ∧ FF wr w.heap.size g M M (shP L n a 0) ∧ Below w.heap.size w wr) (fun x _ _ _ _ _ _ _ _ _ => n - (intOf x).toNat)
          case atStart => exact ⟨0, by omega, rfl, hown0, hbl0⟩
          case round =>
            obtain ⟨a, ha, rfl, hff, hbl⟩ := hrel
            clear hown0 hbl0
            by_cases hlt : a < n
            · obtain ⟨wo, rfl⟩ : ∃ wo : World, wo = wr := ⟨_, rfl⟩
              go_wp2_with fail
              go_loopw [57, 9, 62, 10, 11, 13, 14] (fun x _ _ _ _ _ _ wr => ∃ b : Nat, b ≤ a + 1 ∧ x = .int .i64 b ∧ FF wr w.heap.size g M M (shP L n a b) ∧ Below w.heap.size w wr) (fun x _ _ _ _ _ _ _ => a + 1 - (intOf x).toNat)
              case atStart => exact ⟨0, by omega, rfl, hff, hbl⟩
              case round =>
                obtain ⟨c, hc, rfl, hff2, hbl2⟩ := hrel
                clear hff hbl
                by_cases hct : c < a + 1
                · obtain ⟨wo2, rfl⟩ : ∃ wo : World, wo = wr := ⟨_, rfl⟩
                  go_upto_block 6 with fail
                  go_cut [10, 11] (fun s1 s2 wx => s1 = .int .i64 (sameK L a c N) ∧ s2 = .int .i64 (bothK L a c N) ∧ ∃ nq, wx = wo2.drewN nq)
                  case first =>
                    go_wp2_with fail
                    go_loopw [62, 10, 11, 13] (fun x s1 s2 _ wr => ∃ k : Nat, k ≤ N ∧ x = .int .i64 k ∧ s1 = .int .i64 (sameK L a c k) ∧ s2 = .int .i64 (bothK L a c k) ∧ ∃ nq, wr = wo2.drewN nq) (fun x _ _ _ _ => N - (intOf x).toNat)
                    case atStart => exact ⟨0, by omega, rfl, rfl, rfl, 0, rfl⟩
                    case round =>
                      obtain ⟨k, hk, rfl, rfl, rfl, nq0, rfl⟩ := hrel
                      by_cases hkt : k < N
                      · have G := hcr.out _ hbl2 k hkt
                        obtain ⟨r1, r2, _⟩ := HR.out.row k (by rw [HN.out]; exact hkt)
                        have hl := hlen.out k hkt
                        rw [hl] at G r2
                        obtain ⟨rb, ro, hra, hrb, hrc⟩ := rdI r1 (by omega)
                        have X1 := hbl2.cell (p := ⟨rb, ro + a, none⟩) hrb |>.trans (hrc a (by omega))
                        have X2 := hbl2.cell (p := ⟨rb, ro + c, none⟩) hrb |>.trans (hrc c (by omega))
                        rw [hra] at G
                        have b1 := bothK_le L a c k
                        have b2 := sameK_le L a c k
                        have HB : Hid (bothK L a c (k + 1) = bothK L a c k + if bothR L a c k then 1 else 0) := rfl
                        have HS : Hid (sameK L a c (k + 1) = sameK L a c k + if bothR L a c k ∧ iA (rwk L k) a = iA (rwk L k) c then 1 else 0) := rfl
                        have HBR : Hid (bothR L a c k ↔ 0 ≤ iA (rwk L k) a ∧ 0 ≤ iA (rwk L k) c) := Iff.rfl
                        clear r1 r2 hl hra hrb hrc
                        generalize iA (rwk L k) a = x at *
                        generalize iA (rwk L k) c = y at *
                        by_cases hx : 0 ≤ x
                        · have hxd : decide (0 ≤ x) = true := by simpa using hx
                          by_cases hy : 0 ≤ y
                          · have hyd : decide (0 ≤ y) = true := by simpa using hy
                            have hbr : Hid (bothR L a c k) := HBR.out.2 ⟨hx, hy⟩
                            have e1 := Lib.hid (show bothK L a c (k + 1) = bothK L a c k + 1 by rw [HB.out, if_pos hbr.out])
                            by_cases hxy : x = y
                            · have hq : (x == y) = true := by simp [hxy]
                              have e2 := Lib.hid (show sameK L a c (k + 1) = sameK L a c k + 1 by rw [HS.out, if_pos ⟨hbr.out, hxy⟩])
                              clear hxy
                              go_wp2_with fail
                              go_quiet (fail)
                              go_wp2_with fail
                              go_roundw
                              case rel => exact ⟨k + 1, by omega, by go_num, by rw [e2.out]; go_num, by rw [e1.out]; go_num, nq0 + nq, by simp⟩
                              case measure => simp [intOf]; omega
                            · have hq : (x == y) = false := by simp [hxy]
                              have e2 := Lib.hid (show sameK L a c (k + 1) = sameK L a c k by rw [HS.out, if_neg (fun h => hxy h.2)]; rfl)
                              clear hxy
                              go_wp2_with fail
                              go_quiet (fail)
                              go_wp2_with fail
                              go_roundw
                              case rel => exact ⟨k + 1, by omega, by go_num, by rw [e2.out], by rw [e1.out]; go_num, nq0 + nq, by simp⟩
                              case measure => simp [intOf]; omega
                          · have hyd : decide (0 ≤ y) = false := by simpa using hy
                            have hbr : Hid (¬ bothR L a c k) := fun h => hy (HBR.out.1 h).2
                            have e1 := Lib.hid (show bothK L a c (k + 1) = bothK L a c k by rw [HB.out, if_neg hbr.out]; rfl)
                            have e2 := Lib.hid (show sameK L a c (k + 1) = sameK L a c k by rw [HS.out, if_neg (fun h => hbr.out h.1)]; rfl)
                            go_wp2_with fail
                            go_roundw
                            case rel => exact ⟨k + 1, by omega, by go_num, by rw [e2.out], by rw [e1.out], nq0, rfl⟩
                            case measure => simp [intOf]; omega
                        · have hxd : decide (0 ≤ x) = false := by simpa using hx
                          have hbr : Hid (¬ bothR L a c k) := fun h => hx (HBR.out.1 h).1
                          have e1 := Lib.hid (show bothK L a c (k + 1) = bothK L a c k by rw [HB.out, if_neg hbr.out]; rfl)
                          have e2 := Lib.hid (show sameK L a c (k + 1) = sameK L a c k by rw [HS.out, if_neg (fun h => hbr.out h.1)]; rfl)
                          go_wp2_with fail
                          go_roundw
                          case rel => exact ⟨k + 1, by omega, by go_num, by rw [e2.out], by rw [e1.out], nq0, rfl⟩
                          case measure => simp [intOf]; omega
                      · go_wp2_with fail
                        go_meet
                        have : k = N := by omega
                        subst this
                        exact ⟨rfl, rfl, nq0, rfl⟩
                  case rest =>
                    obtain ⟨rfl, rfl, nq0, rfl⟩ := hcut
                    have b1 := bothK_le L a c N
                    have b2 := sameK_le L a c N
                    obtain ⟨sm, hsm⟩ : ∃ x, x = sameK L a c N := ⟨_, rfl⟩
                    obtain ⟨bo, hbo⟩ : ∃ x, x = bothK L a c N := ⟨_, rfl⟩
                    obtain ⟨mx, hmx⟩ : ∃ x, x = max bo 1 := ⟨_, rfl⟩
                    obtain ⟨ln, hln⟩ : ∃ x, x = sm / Nat.gcd sm mx := ⟨_, rfl⟩
                    obtain ⟨ld, hld⟩ : ∃ x, x = mx / Nat.gcd sm mx := ⟨_, rfl⟩
                    have HF : Hid (shareF L a c = ((ln : Int), (ld : Int))) := by
                      show _ = _
                      unfold shareF
                      rw [HN.out, ← hsm, ← hbo, ← hmx, hln, hld]
                      simp [lowF, lowN, lowD]
                    rw [← hsm] at b2 ⊢
                    rw [← hbo] at b1 b2 ⊢
                    have H57 : Hid (∀ W3 (z : Int), z = mx → Calls Tryd.prog 57 #[.int .i64 sm, .int .i64 z] W3 fun e w' => e = .returned (.agg #[.int .i64 ln, .int .i64 ld]) ∧ Below W3.heap.size W3 w') := fun W3 z hz => by
                      rw [hz, hln, hld]; exact low_any sm mx W3 (by omega) (by omega) (by omega)
                    obtain ⟨m1, m2, k1, k2, hm1, hm2, hk1, hk2, c1, c2⟩ := idx_two (n := n) (N := M) (a := a) (b := c) HMM.out (by omega) (by omega) (by omega)
                    have wa1 := wrap_nat ((a : Int) * (n : Int)) m1 (by rw [← hm1]; simp) (by omega)
                    have wa2 := wrap_nat ((c : Int) * (n : Int)) m2 (by rw [← hm2]; simp) (by omega)
                    have wa3 := wrap_nat ((m1 : Int) + (c : Int)) k1 (by omega) (by omega)
                    have wa4 := wrap_nat ((m2 : Int) + (a : Int)) k2 (by omega) (by omega)
                    have HK1 := Lib.hid (show a * n + c = k1 by omega)
                    have HK2 := Lib.hid (show c * n + a = k2 by omega)
                    have hff3 := FF.drewN hff2 nq0
                    have hblx := bl_drewN hbl2 nq0
                    have HMX : Hid (mx = max bo 1) := hmx
                    clear hsm hbo hmx hln hld hm1 hm2 hk1 hk2 hff2 hbl2
                    have hlow : bo < 1 ∨ 1 ≤ bo := by omega
                    rcases hlow with hb1 | hb1
                    all_goals
                      go_wp2_with fail
                      refine (H57.out _ _ (by have := HMX.out; omega)).mono ?_
                      rintro e w7 ⟨rfl, hb7⟩
                      have hff8 : FF (w7.alloc (.cells #[.int .i64 ln, .int .i64 ld] 40)) w.heap.size g M M (shP L n a c) := World.ownsRow.alloc (owns_below hff3 hb7) _
                      have hbl8 := bl_alloc (bl_trans hblx hb7) (.cells #[.int .i64 ln, .int .i64 ld] 40)
                      have hx8 := Blk.new w7 #[.int .i64 ln, .int .i64 ld] 40
                      have e0 := hx8.cell 0
                      have e1 := hx8.cell 1
                      have hgX : g < w7.heap.size := (World.ownsRow.lt (owns_below hff3 hb7) g rfl).2
                      obtain ⟨⟨u1, v1⟩, u2, v2⟩ := hff8.cell k1 c1
                      obtain ⟨⟨u3, v3⟩, u4, v4⟩ := hff8.cell k2 c2
                      have f1 := World.ownsRow.frozenAt hff8 (k1 * 2)
                      have f2 := World.ownsRow.frozenAt hff8 (k1 * 2 + 1)
                      have f3 := World.ownsRow.frozenAt hff8 (k2 * 2)
                      have f4 := World.ownsRow.frozenAt hff8 (k2 * 2 + 1)
                      go_upto_region 29 with fail
                      obtain ⟨w8, hw8⟩ : ∃ w8, w8 = w7.alloc (.cells #[.int .i64 ln, .int .i64 ld] 40) := ⟨_, rfl⟩
                      obtain ⟨X, hX⟩ : ∃ X, X = w7.heap.size := ⟨_, rfl⟩
                      rw [← hw8] at hff8 hbl8 e0 e1 v1 v2 v3 v4 f1 f2 f3 f4 ⊢
                      rw [← hX] at e0 e1 hgX ⊢
                      have e0' : w8.cell? ⟨X, 0, none⟩ = some (.int .i64 ln) := e0
                      have e1' : w8.cell? ⟨X, 1, none⟩ = some (.int .i64 ld) := e1
                      clear hw8 hX hx8 e0 e1 hff3 hblx hb7
                      by_cases hac : c = a
                      · have hk : k2 = k1 := by rw [← HK1.out, ← HK2.out, hac]
                        have HAC := Lib.hid hac
                        have HKK := Lib.hid hk
                        subst hk
                        have HREL := Lib.hid (sh_set HK1.out HK2.out HF.out hlt (by omega) hff8 hgw hbl8)
                        clear hac u3 u4 v3 v4 f3 f4
                        go_region
                        go_wp2_with fail
                        go_roundw
                        case rel => exact ⟨c + 1, by omega, by go_num, HREL.out⟩
                        case measure => simp [intOf]; omega
                      · have hk : ¬ (k1 = k2) := fun e => by
                          have := div_mod_uniq (n := n) (i := a) (j := c) (i' := c) (j' := a) (by omega) (by omega) (by rw [HK1.out, HK2.out, e])
                          exact hac this.2
                        have HAC := Lib.hid hac
                        have HREL := Lib.hid (sh_set HK1.out HK2.out HF.out hlt (by omega) hff8 hgw hbl8)
                        clear hac
                        go_region
                        go_wp2_with fail
                        go_roundw
                        case rel => exact ⟨c + 1, by omega, by go_num, HREL.out⟩
                        case measure => simp [intOf]; omega
                · go_wp2_with fail
                  go_roundw
                  have e : c = a + 1 := by omega
                  case rel => exact ⟨a + 1, by omega, by go_num, hff2.congr fun p _ => by rw [e]; exact shP_row L n a p, hbl2⟩
                  case measure => simp [intOf]; omega
            · have e : a = n := by omega
              subst e
              go_wp2_with fail
              go_ret2
              have hfin : FF wr w.heap.size g M M (fun k => shareF L (k / a) (k % a)) := FF.congr hff fun p hp => shP_all L a p (by rw [HMM.out]; exact hp)
              refine ⟨hbl, .inr ⟨a, _, hsn.out, hn24, rfl, fun h => ?_, ?_⟩⟩
              · have h2 := HN.out
                rw [h] at h2
                simp at h2
                omega
              · unfold FF at hfin
                unfold shL
                rw [HMM.out]
                exact hfin
end Go.Proofs.YtahgffjkkdbjeaaDoor
