/- glotto: alone, count, nearer, join. -/
import Derived.Test.YtahgffjkkdbjeaaDoorP6
import Derived.Test.YtahgffjkkdbjeaaDoorW6
import Derived.Test.YtahgffjkkdbjeaaDoorWB
namespace Go.Proofs.YtahgffjkkdbjeaaDoor
open Go.RowKit
/-- Clusters in block B: sizes s, table f. -/
abbrev Cl (w : World) (B : Nat) (s f : Nat → Nat) : Prop := Blk w B (ofF 600 (cg s f)) 100
theorem Cl.size {w : World} {B : Nat} {s f : Nat → Nat} (h : Cl w B s f) (a : Nat) (ha : a < 24) : w.cell? ⟨B, a, none⟩ = some (.int .i64 (s a)) := by
  rw [Blk.getF h a (by omega), cg_at_size _ _ _ ha]
theorem Cl.with {w : World} {B : Nat} {s f : Nat → Nat} (h : Cl w B s f) (a b : Nat) (ha : a < 24) (hb : b < 24) : w.cell? ⟨B, 24 + a * 24 + b, none⟩ = some (.int .i64 (f (a * 24 + b))) := by
  rw [show 24 + a * 24 + b = 24 + (a * 24 + b) by omega, Blk.getF h _ (by omega), cg_at_with]
theorem Cl.setSize {w : World} {B : Nat} {s f : Nat → Nat} (h : Cl w B s f) (a v : Nat) (ha : a < 24) : Cl (w.setCell ⟨B, a, none⟩ (.int .i64 v)) B (updN s a v) f := by
  have := Blk.setF h a (.int .i64 v)
  rwa [cg_size _ _ _ _ ha] at this
theorem Cl.setWith {w : World} {B : Nat} {s f : Nat → Nat} (h : Cl w B s f) (a b v : Nat) : Cl (w.setCell ⟨B, 24 + a * 24 + b, none⟩ (.int .i64 v)) B s (updN f (a * 24 + b) v) := by
  have := Blk.setF h (24 + (a * 24 + b)) (.int .i64 v)
  rw [cg_with] at this
  rw [show 24 + a * 24 + b = 24 + (a * 24 + b) by omega]
  exact this
set_option maxRecDepth 100000 in
set_option maxHeartbeats 1000000 in
theorem alone_any (n : Nat) (w : World) (hn : n ≤ 24) :
    Calls Tryd.prog 53 #[.int .i64 n] w fun e w' => e = .returned (.pointer (some ⟨w.heap.size, 0, none⟩)) ∧ Cl w' w.heap.size (aloneS n) (fun _ => 0) ∧ Below w.heap.size w w' := by
  go_enter Tryd.func53, Tryd.ntmps53
  go_upto_block 0 with fail
  rw [zc100]
  have h0 : Cl (w.alloc (.cells (ofF 600 (cg (fun _ => 0) fun _ => 0)) 100)) w.heap.size (aloneS 0) (fun _ => 0) := Blk.new w _ _
  have hb0 := bl_alloc (Below.refl _ w) (.cells (ofF 600 (cg (fun _ => 0) fun _ => 0)) 100)
  obtain ⟨w1, hw1⟩ : ∃ w1, w1 = w.alloc (.cells (ofF 600 (cg (fun _ => 0) fun _ => 0)) 100) := ⟨_, rfl⟩
  rw [← hw1] at h0 hb0 ⊢
  clear hw1
  go_wp2_with fail
  go_loopw [8, 4] (fun x _ wr => ∃ k : Nat, k ≤ n ∧ x = .int .i64 k ∧ Cl wr w.heap.size (aloneS k) (fun _ => 0) ∧ Below w.heap.size w wr) (fun x _ _ => n - (intOf x).toNat)
  case atStart => exact ⟨0, by omega, rfl, h0, hb0⟩
  case round =>
    obtain ⟨k, hk, rfl, hc, hb⟩ := hrel
    by_cases hlt : k < n
    · have c1 := hc.size k (by omega)
      have f1 := hc.free k
      have h2 := hc.setSize k 1 (by omega)
      rw [aloneS_next] at h2
      go_wp2_with fail
      go_roundw
      case rel => exact ⟨k + 1, by omega, by go_num, h2, bl_set hb _ _ _ _ (Nat.le_refl _)⟩
      case measure => simp [intOf]; omega
    · have e : k = n := by omega
      subst e
      go_wp2_with fail
      go_ret
      exact ⟨rfl, hc, hb⟩
set_option maxRecDepth 100000 in
set_option maxHeartbeats 1000000 in
theorem count_any (a b B Bc : Nat) (s f : Nat → Nat) (w : World) (ha : a < 24) (hb : b < 24) (hs : ∀ k, s k ≤ 24) (hc : Cl w B s f) (hp : w.cell? ⟨Bc, 0, none⟩ = some (.pointer (some ⟨B, 0, none⟩))) :
    Calls Tryd.prog 54 #[.int .i64 a, .int .i64 b, .pointer (some ⟨Bc, 0, none⟩)] w fun e w' => e = .returned (.int .i64 (cnt s a b : Int)) ∧ ∃ n, w' = w.drewN n := by
  have c1 := hc.size a ha
  have c2 := hc.size b hb
  have hm := cnt_le hs a b
  obtain ⟨v, hv⟩ : ∃ v, v = cnt s a b := ⟨_, rfl⟩
  rw [← hv] at hm ⊢
  have w1 := wrap_nat ((s a : Int) * (s b : Int)) v (by rw [hv, cnt]; simp) (by omega)
  generalize s a = x at *
  generalize s b = y at *
  clear hv hc hs
  go_enter Tryd.func54, Tryd.ntmps54
  go_wp2_with fail
  go_quiet (fail)
  go_wp2_with fail
  go_ret
  exact ⟨rfl, _, rfl⟩
set_option maxRecDepth 100000 in
set_option maxHeartbeats 2000000 in
theorem nearer_any (a b i j B Bc Bf M : Nat) (s f : Nat → Nat) (w : World) (ha : a < 24) (hb : b < 24) (hi : i < 24) (hj : j < 24) (hs : ∀ k, s k ≤ 24) (hf : ∀ k, f k ≤ M) (hM : M ≤ 9007199254740992) (hc : Cl w B s f) (hp : w.cell? ⟨Bc, 0, none⟩ = some (.pointer (some ⟨B, 0, none⟩))) (hq : w.cell? ⟨Bf, 0, none⟩ = some (.func (.func 54) #[] #[.pointer (some ⟨Bc, 0, none⟩)])) :
    Calls Tryd.prog 55 #[.int .i64 a, .int .i64 b, .int .i64 i, .int .i64 j, .pointer (some ⟨Bc, 0, none⟩), .pointer (some ⟨Bf, 0, none⟩)] w fun e w' => e = .returned (.bool (nearB s f a b i j)) ∧ ∃ n, w' = w.drewN n := by
  have c1 := hc.with a b ha hb
  have c2 := hc.with i j hi hj
  have HK : Hid (∀ (a b n : Nat), a < 24 → b < 24 → Calls Tryd.prog 54 #[.int .i64 a, .int .i64 b, .pointer (some ⟨Bc, 0, none⟩)] (w.drewN n) fun e w' => e = .returned (.int .i64 (cnt s a b : Int)) ∧ ∃ m, w' = (w.drewN n).drewN m) := fun a b n ha hb => count_any a b B Bc s f (w.drewN n) ha hb hs hc hp
  have m1 := cnt_le hs i j
  have m2 := cnt_le hs a b
  have m3 : f (a * 24 + b) * cnt s i j ≤ M * 576 := Nat.mul_le_mul (hf _) m1
  have m4 : f (i * 24 + j) * cnt s a b ≤ M * 576 := Nat.mul_le_mul (hf _) m2
  have hend : Hid (nearB s f a b i j = decide (f (a * 24 + b) * cnt s i j < f (i * 24 + j) * cnt s a b)) := rfl
  generalize f (a * 24 + b) = x at *
  generalize f (i * 24 + j) = y at *
  obtain ⟨v, hv⟩ : ∃ v, v = x * cnt s i j := ⟨_, rfl⟩
  obtain ⟨u, hu⟩ : ∃ u, u = y * cnt s a b := ⟨_, rfl⟩
  rw [← hv] at m3 hend
  rw [← hu] at m4 hend
  have w1 := wrap_nat ((x : Int) * (cnt s i j : Int)) v (by rw [hv]; simp) (by omega)
  have w2 := wrap_nat ((y : Int) * (cnt s a b : Int)) u (by rw [hu]; simp) (by omega)
  clear hv hu hs hf hc
  go_enter Tryd.func55, Tryd.ntmps55
  go_wp2_with fail
  go_quiet ((go_at_call 54; exact Calls.quiet_of (HK.out _ _ _ (by omega) (by omega))))
  go_wp2_with fail
  go_ret
  exact ⟨ret_b (by rw [hend.out]), _, rfl⟩
set_option maxRecDepth 100000 in
set_option maxHeartbeats 4000000 in
theorem join_any (a b B M : Nat) (s f : Nat → Nat) (w : World) (hab : a < b) (hb : b < 24) (hs : s a + s b ≤ 24) (hf : ∀ k, f k ≤ M) (hM : M ≤ 9007199254740992) (hc : Cl w B s f) :
    Calls Tryd.prog 58 #[.pointer (some ⟨B, 0, none⟩), .int .i64 a, .int .i64 b] w fun e w' => e = .returned (.tuple #[]) ∧ Cl w' B (joinS s a b) (jw f a b 24) ∧ But B w w' := by
  have c1 := hc.size a (by omega)
  have c2 := hc.size b (by omega)
  have g1 := hc.free a
  have HF := Lib.hid hf
  obtain ⟨z, hz⟩ : ∃ z, z = s a + s b := ⟨_, rfl⟩
  have HJ : Hid (updN (updN s a z) b 0 = joinS s a b) := by show _ = _; rw [joinS, hz]
  rw [← hz] at hs
  generalize s a = x at *
  generalize s b = y at *
  have w1 := wrap_nat ((x : Int) + (y : Int)) z (by rw [hz]; simp) (by omega)
  clear hz hf
  go_enter Tryd.func58, Tryd.ntmps58
  go_wp2_with fail
  refine wp_quiet_tail_lit 15 (by kernel_rfl) (by kernel_rfl) ?_
  simp only [List.take_succ_cons, List.take_zero, List.drop_succ_cons, List.drop_zero]
  repeat (go_big_quiet_step (fail))
  refine wpQuiet_nil ?_
  intro _ hw'
  obtain ⟨nq, hw''⟩ := hw'
  subst hw''
  have hc1 := Cl.setSize (Blk.drewN hc nq) a z (by omega)
  have hc2 := hc1.setSize b 0 hb
  rw [HJ.out] at hc2
  have bt := (((But.refl B w).drewN nq).set a (.int .i64 z)).set b (.int .i64 (0 : Nat))
  have c3 := hc1.size b hb
  have g3 := hc1.free b
  clear hc1 hc
  go_wp2_with fail
  go_loopw [28, 6] (fun x _ wr => ∃ i : Nat, i ≤ 24 ∧ x = .int .i64 i ∧ Cl wr B (joinS s a b) (jw f a b i) ∧ But B w wr) (fun x _ _ => 24 - (intOf x).toNat)
  case atStart => exact ⟨0, by omega, rfl, hc2, bt⟩
  case round =>
    obtain ⟨i, hi, rfl, hcl, hbt⟩ := hrel
    clear hc2 bt c3 g3
    by_cases hlt : i < 24
    · have e1 := hcl.with a i (by omega) hlt
      have e2 := hcl.with b i hb hlt
      obtain ⟨l1, l2⟩ := jw_cells f (a := a) (b := b) (i := i) (by omega) hlt hab HF.out
      have HJ : Hid (updN (updN (jw f a b i) (a * 24 + i) (jw f a b i (a * 24 + i) + jw f a b i (b * 24 + i))) (i * 24 + a) (jw f a b i (a * 24 + i) + jw f a b i (b * 24 + i)) = jw f a b (i + 1)) := rfl
      generalize jw f a b i (a * 24 + i) = x at *
      generalize jw f a b i (b * 24 + i) = y at *
      obtain ⟨v, hv⟩ : ∃ v, v = x + y := ⟨_, rfl⟩
      rw [← hv] at HJ
      have w1 := wrap_nat ((x : Int) + (y : Int)) v (by rw [hv]; simp) (by omega)
      have f1 := hcl.free (24 + a * 24 + i)
      clear hv
      go_upto_region 5 with fail
      refine wp_quiet_tail_lit 20 (by kernel_rfl) (by kernel_rfl) ?_
      simp only [List.take_succ_cons, List.take_zero, List.drop_succ_cons, List.drop_zero]
      repeat (go_big_quiet_step (fail))
      refine wpQuiet_nil ?_
      intro _ hw'
      obtain ⟨nq1, hw''⟩ := hw'
      subst hw''
      have hc3 := Cl.setWith (Blk.drewN hcl nq1) a i v
      have e3 := hc3.with a i (by omega) hlt
      rw [updN_same] at e3
      have f3 := hc3.free (24 + i * 24 + a)
      have e4 := hc3.with i a hlt (by omega)
      go_upto_region 6 with fail
      refine wp_quiet_tail_lit 14 (by kernel_rfl) (by kernel_rfl) ?_
      simp only [List.take_succ_cons, List.take_zero, List.drop_succ_cons, List.drop_zero]
      repeat (go_big_quiet_step (fail))
      refine wpQuiet_nil ?_
      intro _ hw'
      obtain ⟨nq2, hw''⟩ := hw'
      subst hw''
      have hc4 := Cl.setWith (Blk.drewN hc3 nq2) i a v
      rw [HJ.out] at hc4
      have bt4 := (((hbt.drewN nq1).set (24 + a * 24 + i) (.int .i64 v)).drewN nq2).set (24 + i * 24 + a) (.int .i64 v)
      go_wp2_with fail
      go_roundw
      case rel => exact ⟨i + 1, by omega, by go_num, hc4, bt4⟩
      case measure => simp [intOf]; omega
    · have e : i = 24 := by omega
      subst e
      go_wp2_with fail
      go_end0
      exact ⟨rfl, hcl, hbt⟩
end Go.Proofs.YtahgffjkkdbjeaaDoor
