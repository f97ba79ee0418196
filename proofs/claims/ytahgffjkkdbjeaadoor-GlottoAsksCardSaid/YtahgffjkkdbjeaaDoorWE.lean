/- ablautref35.Rank: insertions, one language after the other. -/
import Derived.Test.YtahgffjkkdbjeaaDoorP5
import Derived.Test.YtahgffjkkdbjeaaDoorPA
import Derived.Test.YtahgffjkkdbjeaaDoorWC
import Derived.Test.YtahgffjkkdbjeaaDoorW5
namespace Go.Proofs.YtahgffjkkdbjeaaDoor
open Go.RowKit
theorem owns_cap {w : World} {base e k : Nat} {a : Option Addr} {n cap : Nat} {cs : List Value} (h : w.ownsRow base e k (.slice a n cap) n cs) : n ≤ cap := by
  rcases h.2 with ⟨h1, rfl⟩ | ⟨g, cap', cur, h1, _, _, h2, _⟩
  · exact Nat.zero_le _
  · simp only [Value.slice.injEq] at h1; obtain ⟨_, _, rfl⟩ := h1; exact h2
theorem owns_some {w : World} {base e k : Nat} {a : Option Addr} {n cap : Nat} {cs : List Value} (h : w.ownsRow base e k (.slice a n cap) n cs) (hc : 0 < cap) : ∃ g, a = some ⟨g, 0, none⟩ := by
  rcases h.2 with ⟨h1, rfl⟩ | ⟨g, cap', cur, h1, _, _, h2, _⟩
  · simp only [Value.slice.injEq] at h1; omega
  · simp only [Value.slice.injEq] at h1; exact ⟨g, h1.1⟩
theorem encI_one : ∀ x : Int, ∀ u ∈ encI x, u.oneCell' = true := by
  intro x u hu
  simp only [encI, List.mem_singleton] at hu
  subst hu
  rfl
def RrPost (w : World) (n : Int) (d : List Fr) (x : Int) (e : Ending) (w' : World) : Prop :=
  Below w.heap.size w w' ∧ ((∃ k, rankE n d x = .error k ∧ e = .returned (.tuple #[.slice none 0 0, .int .i64 k])) ∨
    ∃ (m c y : Nat) (v : Value) (f : Nat → Nat), n = (m : Int) ∧ x = (y : Int) ∧ y < m ∧ m ≤ 24 ∧ rankE n d x = .ok c ∧ e = .returned (.tuple #[v, .int .i64 0]) ∧ w'.ownsRow w.heap.size 3 1 v m (fl encI (rowL f m)) ∧ RkRow d c m y f)
set_option maxRecDepth 100000 in
set_option maxHeartbeats 4000000 in
theorem rrank_any (a : Option Addr) (n x : Int) (N c : Nat) (d : List Fr) (w : World) (hn1 : -9223372036854775808 ≤ n) (hn2 : n ≤ 9223372036854775807) (hx1 : -9223372036854775808 ≤ x) (hx2 : x ≤ 9223372036854775807) (hd : d.length = N) (hN : N ≤ 1152921504606846976) (hA : Rd w a (fl encFr d)) (hok : FitFr d) :
    Calls Tryd.prog 20 #[.int .i64 n, .slice a N c, .int .i64 x] w (RrPost w n d x) := by
  have HD := Lib.hid hd
  have HK := Lib.hid hok
  clear hd hok
  go_enter Tryd.func20, Tryd.ntmps20
  go_wp2_with fail
  refine (rscaled_any a n N c d _ hn1 hn2 HD.out hN hA HK.out).mono ?_
  rintro e w1 ⟨hb1, ⟨k, hk, rfl⟩ | ⟨m, cm, v, rfl, hm1, hm2, hl, hs, rfl, hown⟩⟩
  · have hs := Lib.hid (rankE_err (x := x) hk)
    have hk0 := scaled_err_ne hk
    clear hk
    go_wp2_with fail
    go_ret2
    exact ⟨hb1, .inl ⟨k, hs.out, rfl⟩⟩
  · have HS := Lib.hid hs
    obtain ⟨ga, gcap, rfl, _⟩ := owns_slice hown
    obtain ⟨g, o, rfl, hgl, hcell⟩ := scK_cells hown hm1
    have hmm : m * m ≤ 576 := by have := Nat.mul_le_mul hm2 hm2; omega
    have hle : Hid (∀ i j, i < m → j < m → w1.cell? ⟨g, o + (i * m + j), none⟩ = some (.int .i64 (dist d cm m i j)) ∧ dist d cm m i j ≤ 1073741824) := fun i j hi hj => ⟨hcell _ (idx_lt rfl hi hj), dist_le hs HK.out hi hj⟩
    clear hcell hs hl hown
    obtain ⟨M, hM⟩ : ∃ M, M = m * m := ⟨_, rfl⟩
    rw [← hM] at hmm ⊢
    have HM := Lib.hid hM.symm
    clear hM
    by_cases c1 : x < 0
    · have hs := Lib.hid (rankE_out HS.out (.inl c1))
      go_wp2_with fail
      go_ret2
      exact ⟨hb1, .inl ⟨3, hs.out, rfl⟩⟩
    · by_cases c2 : (m : Int) ≤ x
      · have hs := Lib.hid (rankE_out HS.out (.inr c2))
        go_wp2_with fail
        go_ret2
        exact ⟨hb1, .inl ⟨3, hs.out, rfl⟩⟩
      · obtain ⟨y, rfl⟩ : ∃ y : Nat, x = y := ⟨x.toNat, by omega⟩
        have hs := Lib.hid (rankE_ok HS.out (show (0 : Int) ≤ y by omega) (by omega))
        have hym : y < m := by omega
        have cb1 : decide ((y : Int) < 0) = false := by simp
        have cb2 : decide (m ≤ y) = false := by simp; omega
        clear c1 c2
        go_wp2_with fail
        go_loopw [12, 11, 13, 14] (fun x v _ _ wr => ∃ (b : Nat) (f : Nat → Nat), b ≤ m ∧ x = .int .i64 b ∧ wr.ownsRow w1.heap.size 3 1 v b (fl encI (rowL f b)) ∧ Hid (Srt (fun p => dist d cm m y p) f 0 b) ∧ Hid (Same (fun p => p) f 0 b) ∧ Below w1.heap.size w1 wr) (fun x _ _ _ _ => m - (intOf x).toNat)
        case atStart => exact ⟨0, fun p => p, by omega, rfl, World.ownsRow_nil _ _ _ _, fun p q _ _ h => absurd h (by omega), Same.refl _ _ _, Below.refl _ _⟩
        case round =>
          obtain ⟨b, f, hb, rfl, hown, hsr, hsm, hbl⟩ := hrel
          by_cases hlt : b < m
          · obtain ⟨oa, ocap, rfl, hoa⟩ := owns_slice hown
            have hgk : ∀ i j, i < m → j < m → wr.cell? ⟨g, o + (i * m + j), none⟩ = some (.int .i64 (dist d cm m i j)) := fun i j hi hj => (hbl.cell (p := ⟨g, o + (i * m + j), none⟩) hgl).trans (hle.out i j hi hj).1
            have HGK := Lib.hid hgk
            clear hgk
            obtain ⟨X, hX⟩ : ∃ X, X = dist d cm m y b := ⟨_, rfl⟩
            have hXb : X ≤ 1073741824 := by rw [hX]; exact (hle.out y b hym hlt).2
            obtain ⟨m1, m2, k1, _, hm1', hm2', hk1, _, c1', _⟩ := idx_two (n := m) (N := M) (a := y) (b := b) HM.out (by omega) (by omega) (by omega)
            have e1 := HGK.out y b hym hlt
            rw [hm1', hk1, ← hX] at e1
            have w1' := wrap_nat ((y : Int) * (m : Int)) m1 (by rw [← hm1']; simp) (by omega)
            have w3 := wrap_nat ((m1 : Int) + (b : Int)) k1 (by omega) (by omega)
            have HX := Lib.hid hX
            have HM1 := Lib.hid hm1'
            clear hX hm1' hm2' hk1
            go_upto_block 2 with fail
            go_cut [13] (fun s wx => ∃ t : Nat, s = .int .i64 t ∧ t ≤ b ∧ Hid (∀ p, p < t → dist d cm m y (f p) ≤ dist d cm m y b) ∧ Hid (t < b → dist d cm m y b < dist d cm m y (f t)) ∧ ∃ nq, wx = wr.drewN nq)
            case first =>
              go_wp2_with fail
              go_loopw [13] (fun s wx => ∃ t : Nat, s = .int .i64 t ∧ t ≤ b ∧ Hid (∀ p, p < t → dist d cm m y (f p) ≤ dist d cm m y b) ∧ ∃ nq, wx = wr.drewN nq) (fun s _ => b - (intOf s).toNat)
              case atStart => exact ⟨0, rfl, by omega, fun p h => absurd h (by omega), 0, rfl⟩
              case round =>
                obtain ⟨t, rfl, ht, hp, nq0, rfl⟩ := hrel
                by_cases htb : t < b
                · obtain ⟨g', hg1, hg2, rfl⟩ := hoa.resolve_left (by omega)
                  have hft : f t < m := Nat.lt_of_lt_of_le (same_lt hsm.out htb) hb
                  have ec : wr.cell? ⟨g', t, none⟩ = some (.int .i64 (f t : Int)) := by
                    obtain ⟨b2, o2, e2, _, hc2⟩ := rdI (rd_of_owns hown) (by rw [rowL_len]; omega)
                    have e2 := Option.some.inj e2
                    have h2 := hc2 t (by rw [rowL_len]; exact htb)
                    rw [rowL_at f htb] at h2
                    have h3 : (⟨b2, o2 + t, none⟩ : Addr) = ⟨g', t, none⟩ := by
                      have e3 := congrArg Addr.block e2
                      have e4 := congrArg Addr.off e2
                      simp only at e3 e4
                      rw [← e3, ← e4, Nat.zero_add]
                    rw [← h3]; exact h2
                  have e2 := HGK.out y (f t) hym hft
                  have hYb := (hle.out y (f t) hym hft).2
                  rw [HM1.out] at e2
                  have HE : Hid (f t = f t) := rfl
                  obtain ⟨Y, hY⟩ : ∃ Y, Y = dist d cm m y (f t) := ⟨_, rfl⟩
                  rw [← hY] at e2 hYb
                  have HY := Lib.hid hY
                  obtain ⟨z, hz⟩ : ∃ z, z = f t := ⟨_, rfl⟩
                  rw [← hz] at e2 ec hft
                  have HZ := Lib.hid hz
                  obtain ⟨k2, hk2⟩ : ∃ k, m1 + z = k := ⟨_, rfl⟩
                  have hk2b : k2 < M := by rw [← hk2, ← HM1.out]; exact idx_lt HM.out hym hft
                  rw [hk2] at e2
                  have w4 := wrap_nat ((m1 : Int) + (z : Int)) k2 (by omega) (by omega)
                  clear hY hz hk2
                  by_cases hc : Y ≤ X
                  · have hp2 : Hid (∀ p, p < t + 1 → dist d cm m y (f p) ≤ dist d cm m y b) := fun p hp' => by
                      by_cases e : p = t
                      · rw [e, ← HY.out, ← HX.out]; exact hc
                      · exact hp.out p (by omega)
                    go_wp2_with fail
                    go_quiet (fail)
                    go_wp2_with fail
                    go_roundw
                    case rel => exact ⟨t + 1, by go_num, by omega, hp2, nq0 + nq, by simp⟩
                    case measure => simp [intOf]; omega
                  · have hp2 : Hid (t < b → dist d cm m y b < dist d cm m y (f t)) := fun _ => by rw [← HY.out, ← HX.out]; omega
                    go_wp2_with fail
                    go_quiet (fail)
                    go_wp2_with fail
                    go_meet
                    exact ⟨t, rfl, by omega, hp, hp2, nq0 + nq, by simp⟩
                · have e : t = b := by omega
                  subst e
                  have hd1 : decide (t < t) = false := by simp
                  go_wp2_with fail
                  go_quiet (fail)
                  go_wp2_with fail
                  go_meet
                  exact ⟨t, rfl, by omega, hp, fun h => absurd h (by omega), nq0 + nq, by simp⟩
            case rest =>
              obtain ⟨t, rfl, ht, hp1, hp2, nq, rfl⟩ := hcut
              have hcap := owns_cap hown
              have hown : (wr.drewN nq).ownsRow w1.heap.size 3 1 _ b (fl encI (rowL f b)) := hown
              clear HGK e1 w1' w3 hXb
              have r1 : Rd (wr.drewN nq) oa (fl encI ((rowL f b).take t)) := Rd.take1 (f := Value.int .i64) (rd_of_owns hown) t
              have r0 : oa = none → t = 0 := fun e => by
                rcases hoa with h | ⟨_, _, _, h⟩
                · omega
                · rw [h] at e; cases e
              have lt1 : Hid (((rowL f b).take t).length = t) := by show _ = _; rw [List.length_take, rowL_len]; omega
              have R0 := Lib.hid r0
              have hsz : w1.heap.size ≤ (wr.drewN nq).heap.size := hbl.size
              clear r0
              go_upto_region 15 with (at_builtin; refine wpList_pushs (enc := encI) (k := 1) (bytes := 8) rfl (fun _ => rfl) (by decide) encI_one (base := w1.heap.size) Tryd.underlying29 info3 rfl (.tmp 65) (.tmp 68) rfl (.slice none 0 0) ([] : List Int) 0 rfl rfl (World.ownsRow_nil _ _ _ _) oa t ocap ((rowL f b).take t) lt1.out.symm rfl r1 R0.out (by omega) (by decide) hsz ?_; intro v1 w2 hw1 hw2 hw3)
              simp only [Nat.zero_add, List.nil_append] at hw1
              have hown2 := hown.kept hw2 (by cases (Value.slice oa b ocap).ownBlock <;> simp [Value.ownBlock])
              have hbl2 : Below w1.heap.size w1 w2 := Below.grown (bl_drewN hbl nq) hw2 hsz (fun r hr => by simp [Value.ownBlock] at hr)
              have hne1 : Hid ((Value.slice oa b ocap).ownBlock = none ∨ (Value.slice oa b ocap).ownBlock ≠ v1.ownBlock) := by
                show _ ∨ _
                cases ho : (Value.slice oa b ocap).ownBlock with
                | none => exact .inl rfl
                | some r =>
                  right
                  have h1 := (hown.lt r ho).2
                  rcases hw3 with h | h
                  · rw [h]; simp [Value.ownBlock]
                  · rw [h]; intro e; have := Option.some.inj e; omega
              have hlt1 : ∀ r, v1.ownBlock = some r → w1.heap.size ≤ r := fun r hr => (hw1.lt r hr).1
              have HL1 := Lib.hid hlt1
              have hsz2 := hbl2.size
              clear hw2 hw3 hlt1 hown hbl hsz r1
              go_upto_region 16 with (at_builtin; refine push_I rfl (.tmp 70) (.tmp 72) rfl w1.heap.size v1 ((rowL f b).take t) t lt1.out.symm rfl (hw1.alloc _) w2.heap.size 1 (b : Int) rfl (Blk.new w2 _ _) (by omega) (by simp; omega) ?_; intro g5 cap5 w3 hw4 hw5 hw6 hw7)
              have hown3 := (hown2.alloc (.cells #[.int .i64 b] 3)).kept hw5 hne1.out
              have hbl3 : Below w1.heap.size w1 w3 := Below.grown (hbl2.alloc hsz2 _) hw5 (by simp; omega) (fun r hr => HL1.out r hr)
              have hsz3 := hbl3.size
              clear hw5 hw6 hown2 hbl2 hsz2 hw1
              have hdone : Hid (rowL (insF f t b) (b + 1) = (rowL f b).take t ++ [(b : Int)] ++ (rowL f b).drop t) := rowL_ins f ht
              have hS2 : Hid (Srt (fun p => dist d cm m y p) (insF f t b) 0 (b + 1)) := insF_srt hsr.out hsm.out ht hp1.out hp2.out
              have hM2 : Hid (Same (fun p => p) (insF f t b) 0 (b + 1)) := insF_same hsm.out ht
              have l5 : ((rowL f b).take t ++ [(b : Int)]).length = t + 1 := by rw [List.length_append, lt1.out]; rfl
              have L5 := Lib.hid l5
              have l6 : ((rowL f b).drop t).length = b - t := by rw [List.length_drop, rowL_len]
              have L6 := Lib.hid l6
              clear l5 l6
              by_cases hto : t < ocap
              · obtain ⟨g', rfl⟩ := owns_some hown3 (by omega)
                have r3 := Rd.drop1 (f := Value.int .i64) (rd_of_owns hown3) t
                rw [Nat.zero_add] at r3
                have hto2 : ¬ (ocap = t) := by omega
                go_wp2_with (at_builtin; refine wpList_pushs (enc := encI) (k := 1) (bytes := 8) rfl (fun _ => rfl) (by decide) encI_one (base := w1.heap.size) Tryd.underlying29 info3 rfl (.tmp 74) (.tmp 77) rfl (.slice (some ⟨g5, 0, none⟩) (t + 1) cap5) ((rowL f b).take t ++ [(b : Int)]) (t + 1) L5.out.symm rfl hw4 (some ⟨g', t, none⟩) (b - t) (ocap - t) ((rowL f b).drop t) L6.out.symm rfl r3 (fun e => by cases e) (by omega) (by decide) hsz3 ?_; intro v6 w6 hw8 hw9 hw10)
                rw [← hdone.out, show t + 1 + (b - t) = b + 1 by omega] at hw8
                have hbl6 := Below.grown hbl3 hw9 hsz3 (fun r hr => (hw4.lt r hr).1)
                go_wp2_with fail
                go_roundw
                case rel => exact ⟨b + 1, _, by omega, by go_num, hw8, hS2, hM2, hbl6⟩
                case measure => simp [intOf]; omega
              · obtain rfl : t = b := by omega
                obtain rfl : ocap = t := by omega
                have L7 : Hid ((rowL f ocap).drop ocap = []) := by show _ = _; rw [List.drop_eq_nil_iff, rowL_len]; exact Nat.le_refl _
                go_wp2_with (at_builtin; refine wpList_pushs (enc := encI) (k := 1) (bytes := 8) rfl (fun _ => rfl) (by decide) encI_one (base := w1.heap.size) Tryd.underlying29 info3 rfl (.tmp 74) (.tmp 77) rfl (.slice (some ⟨g5, 0, none⟩) (ocap + 1) cap5) ((rowL f ocap).take ocap ++ [(ocap : Int)]) (ocap + 1) L5.out.symm rfl hw4 oa 0 0 [] rfl rfl (Rd.nil _ _) (fun _ => rfl) (by omega) (by decide) hsz3 ?_; intro v6 w6 hw8 hw9 hw10)
                have hd2 := hdone.out
                rw [L7.out] at hd2
                rw [← hd2, show ocap + 1 + 0 = ocap + 1 by omega] at hw8
                clear hd2
                have hbl6 := Below.grown hbl3 hw9 hsz3 (fun r hr => (hw4.lt r hr).1)
                go_wp2_with fail
                go_roundw
                case rel => exact ⟨ocap + 1, _, by omega, by go_num, hw8, hS2, hM2, hbl6⟩
                case measure => simp [intOf]; omega
          · have e : b = m := by omega
            subst e
            go_wp2_with fail
            go_ret2
            exact ⟨hb1.trans (hbl.mono hb1.size), .inr ⟨b, cm, y, _, f, rfl, rfl, hym, hm2, hs.out, rfl, owns_mono hown hb1.size, ⟨hsr.out, hsm.out⟩⟩⟩
end Go.Proofs.YtahgffjkkdbjeaaDoor
