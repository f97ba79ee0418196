/- glotto.steps with the closures of Tree and of Joined. -/
import Derived.Test.YtahgffjkkdbjeaaDoorZ1
import Derived.Test.YtahgffjkkdbjeaaDoorZ8
namespace Go.Proofs.YtahgffjkkdbjeaaDoor
open Go.RowKit
set_option maxRecDepth 100000 in
set_option maxHeartbeats 40000000 in
theorem steps_any (fid : FuncId) (hen : ∀ args w, (callFunc fid args).run Tryd.prog w = .ok (.enter fid args) w) (a : Option Addr) (n N c : Nat) (l : List Mg) (cv : Array Value) (w : World) (J : Nat → World → Prop) (hn1 : 1 ≤ n) (hn : n ≤ 24) (hl : l.length = N) (hN : N ≤ 1152921504606846976) 
    (hrd : ∀ k W, J k W → Rd W a (fl encMg l)) (hst : ∀ k W W', J k W → But w.heap.size W W' → J k W') (h0 : J 0 w)
    (hcall : ∀ k W, k < N → (∀ i, i < k + 1 → StepOk n l i) → J k W → w.heap.size < W.heap.size → N + 1 = n → Calls Tryd.prog fid (#[.pointer (some ⟨w.heap.size, 0, none⟩), .int .i64 k] ++ cv) W fun e W' => e = .returned (.tuple #[]) ∧ J (k + 1) W' ∧ ∀ b cs t, t = 42 ∨ t = 100 → Blk W b cs t → Blk W' b cs t) :
    Calls Tryd.prog 67 #[.int .i64 n, .slice a N c, .func (.func fid) #[] cv] w fun e w' => (StepsOk n l ∧ e = .returned (.bool true) ∧ J N w') ∨ (¬ StepsOk n l ∧ e = .returned (.bool false) ∧ ∃ k, J k w') := by
  have HL := Lib.hid hl
  have HJ := Lib.hid (And.intro hrd (And.intro hst hcall))
  have H0 := Lib.hid h0
  clear hrd hst hcall hl h0
  by_cases hlen : N + 1 = n
  · have hq : ((N : Int) != (n : Int) - 1) = false := by simp; omega
    have HNO : Hid (∀ k, k < N → ¬ StepOk n l k → ¬ StepsOk n l) := fun k hk h h2 => h (h2.2 k (by rw [HL.out]; exact hk))
    have HYES : Hid ((∀ k, k < N → StepOk n l k) → StepsOk n l) := fun h => ⟨by rw [HL.out]; exact hlen, fun k hk => h k (by rw [← HL.out]; exact hk)⟩
    have hlen2 : N ≤ 23 := by omega
    have HLEN := Lib.hid hlen
    clear hlen
    go_enter Tryd.func67, Tryd.ntmps67
    go_wp2_with fail
    refine (alone_any n _ hn).mono ?_
    rintro e w1 ⟨rfl, hcl, hb1⟩
    have hj1 := Lib.hid (HJ.out.2.1 0 w w1 H0.out (But.of_below hb1))
    clear hb1
    go_wp2_with fail
    go_loopw [19, 8, 9] (fun x _ _ wr => ∃ k : Nat, k ≤ N ∧ x = .int .i64 k ∧ Hid (∀ i, i < k → StepOk n l i) ∧ Cl wr w.heap.size (stS n l k) (fun _ => 0) ∧ Hid (J k wr)) (fun x _ _ _ => N - (intOf x).toNat)
    case atStart => exact ⟨0, by omega, rfl, fun i h => absurd h (by omega), hcl, hj1.out⟩
    case round =>
      obtain ⟨k, hk, rfl, hok, hc, hj⟩ := hrel
      clear hcl
      by_cases hlt : k < N
      · obtain ⟨b, o, rfl, _, hcm⟩ := rdMg (HJ.out.1 k wr hj.out) (by rw [HL.out]; omega)
        obtain ⟨g0, g1, g2, g3, g4⟩ := hcm k (by rw [HL.out]; omega)
        have HND : Hid (StepOk n l k ↔ 0 ≤ mA l k ∧ mA l k < mB l k ∧ mB l k < n ∧ stS n l k (mA l k).toNat ≠ 0 ∧ stS n l k (mB l k).toNat ≠ 0 ∧ mS l k = ((stS n l k (mA l k).toNat + stS n l k (mB l k).toNat : Nat) : Int) ∧ 1 ≤ mD l k ∧ 0 ≤ mN l k) := Iff.rfl
        have hno := Lib.hid (HNO.out k hlt)
        have HINV := Lib.hid (stS_inv k hok.out)
        have HNX : Hid (stS n l (k + 1) = joinS (stS n l k) (mA l k).toNat (mB l k).toNat) := rfl
        have hAl := Lib.hid (HJ.out.2.1 k wr _ hj.out (But.of_below (bl_alloc (Below.refl _ wr) (.cells #[.int .i64 (mA l k), .int .i64 (mB l k), .int .i64 (mN l k), .int .i64 (mD l k), .int .i64 (mS l k)] 42))))
        obtain ⟨s, hs⟩ : ∃ s, s = stS n l k := ⟨_, rfl⟩
        rw [← hs] at HND HINV HNX hc
        have hc1 := hc.alloc (.cells #[.int .i64 (mA l k), .int .i64 (mB l k), .int .i64 (mN l k), .int .i64 (mD l k), .int .i64 (mS l k)] 42)
        have hlB := hc.lt
        clear hcm hs
        generalize mA l k = A at *
        generalize mB l k = B at *
        generalize mN l k = Nn at *
        generalize mD l k = Dd at *
        generalize mS l k = Z at *
        by_cases q1 : A < 0
        · have d1 : decide (A < 0) = true := by simpa using q1
          have hx := Lib.hid (hno.out (fun h => by have := (HND.out.1 h).1; omega))
          go_wp2_with fail
          try simp only [List.append_eq, List.cons_append, List.nil_append]
          go_quiet (fail)
          go_wp2_with fail
          go_ret
          exact .inr ⟨hx.out, rfl, k, HJ.out.2.1 k _ _ hAl.out ((But.refl _ _).drewN nq)⟩
        · obtain ⟨A, rfl⟩ : ∃ A1 : Nat, A = A1 := ⟨A.toNat, by omega⟩
          have d1 : decide ((A : Int) < 0) = false := by simp
          clear q1
          by_cases q2 : B ≤ (A : Int)
          · have d2 : decide (B ≤ (A : Int)) = true := by simpa using q2
            have hx := Lib.hid (hno.out (fun h => by have := (HND.out.1 h).2.1; omega))
            go_wp2_with fail
            try simp only [List.append_eq, List.cons_append, List.nil_append]
            go_quiet (fail)
            go_wp2_with fail
            go_ret
            exact .inr ⟨hx.out, rfl, k, HJ.out.2.1 k _ _ hAl.out ((But.refl _ _).drewN nq)⟩
          · obtain ⟨B, rfl⟩ : ∃ B1 : Nat, B = B1 := ⟨B.toNat, by omega⟩
            have d2 : decide (B ≤ A) = false := by simp; omega
            have d2i : decide ((B : Int) ≤ (A : Int)) = false := by simp; omega
            have hAB : A < B := by omega
            clear q2
            by_cases q3 : n ≤ B
            · have d3 : decide (n ≤ B) = true := by simpa using q3
              have d3i : decide ((n : Int) ≤ (B : Int)) = true := by simp; omega
              have hx := Lib.hid (hno.out (fun h => by have := (HND.out.1 h).2.2.1; omega))
              go_wp2_with fail
              try simp only [List.append_eq, List.cons_append, List.nil_append]
              go_quiet (fail)
              go_wp2_with fail
              go_ret
              exact .inr ⟨hx.out, rfl, k, HJ.out.2.1 k _ _ hAl.out ((But.refl _ _).drewN nq)⟩
            · have d3 : decide (n ≤ B) = false := by simpa using q3
              have d3i : decide ((n : Int) ≤ (B : Int)) = false := by simp; omega
              have hA24 : A < 24 := by omega
              have hB24 : B < 24 := by omega
              have hBn : B < n := by omega
              clear q3
              simp only [Int.toNat_natCast] at HND HNX
              have sA := Cl.size hc1 A hA24
              have sB := Cl.size hc1 B hB24
              have lA := HINV.out.le A
              have lB := HINV.out.le B
              have lAB : s A + s B ≤ 24 := by have := sumN_two s hAB hBn; have := HINV.out.sum; omega
              have i1 : (0 : Int) ≤ A := by omega
              have i2 : (A : Int) < 24 := by omega
              have i3 : (0 : Int) ≤ B := by omega
              have i4 : (B : Int) < 24 := by omega
              obtain ⟨x, hx⟩ : ∃ x, x = s A := ⟨_, rfl⟩
              obtain ⟨y, hy⟩ : ∃ y, y = s B := ⟨_, rfl⟩
              rw [← hx, ← hy] at HND lAB
              rw [← hx] at sA lA
              rw [← hy] at sB lB
              have HXY := Lib.hid (And.intro hx hy)
              obtain ⟨z, hz⟩ : ∃ z, z = x + y := ⟨_, rfl⟩
              have wz := wrap_nat ((x : Int) + (y : Int)) z (by omega) (by omega)
              have HZ := Lib.hid hz
              clear hx hy hz
              by_cases q4 : x = 0
              · have e4 : ((x : Int) == 0) = true := by simp; omega
                have Q4 := Lib.hid q4
                clear q4
                have hx := Lib.hid (hno.out (fun h => (HND.out.1 h).2.2.2.1 Q4.out))
                go_wp2_with fail
                try simp only [List.append_eq, List.cons_append, List.nil_append]
                go_quiet (fail)
                go_wp2_with fail
                go_ret
                exact .inr ⟨hx.out, rfl, k, HJ.out.2.1 k _ _ hAl.out ((But.refl _ _).drewN nq)⟩
              · have e4 : ((x : Int) == 0) = false := by simp; omega
                have Q4 := Lib.hid q4
                clear q4
                by_cases q5 : y = 0
                · have e5 : ((y : Int) == 0) = true := by simp; omega
                  have Q5 := Lib.hid q5
                  clear q5
                  have hx := Lib.hid (hno.out (fun h => (HND.out.1 h).2.2.2.2.1 Q5.out))
                  go_wp2_with fail
                  try simp only [List.append_eq, List.cons_append, List.nil_append]
                  go_quiet (fail)
                  go_wp2_with fail
                  go_ret
                  exact .inr ⟨hx.out, rfl, k, HJ.out.2.1 k _ _ hAl.out ((But.refl _ _).drewN nq)⟩
                · have e5 : ((y : Int) == 0) = false := by simp; omega
                  have Q5 := Lib.hid q5
                  clear q5
                  by_cases q6 : Z = (z : Int)
                  · have e6 : (Z != (z : Int)) = false := by simp [q6]
                    have Q6 := Lib.hid q6
                    clear q6
                    by_cases q7 : Dd < 1
                    · have d7 : decide (Dd < 1) = true := by simpa using q7
                      have hx := Lib.hid (hno.out (fun h => by have := (HND.out.1 h).2.2.2.2.2.2.1; omega))
                      go_wp2_with fail
                      try simp only [List.append_eq, List.cons_append, List.nil_append]
                      go_quiet (fail)
                      go_wp2_with fail
                      go_ret
                      exact .inr ⟨hx.out, rfl, k, HJ.out.2.1 k _ _ hAl.out ((But.refl _ _).drewN nq)⟩
                    · have d7 : decide (Dd < 1) = false := by simpa using q7
                      by_cases q8 : Nn < 0
                      · have d8 : decide (Nn < 0) = true := by simpa using q8
                        have hx := Lib.hid (hno.out (fun h => by have := (HND.out.1 h).2.2.2.2.2.2.2; omega))
                        go_wp2_with fail
                        try simp only [List.append_eq, List.cons_append, List.nil_append]
                        go_quiet (fail)
                        go_wp2_with fail
                        go_ret
                        exact .inr ⟨hx.out, rfl, k, HJ.out.2.1 k _ _ hAl.out ((But.refl _ _).drewN nq)⟩
                      · have d8 : decide (Nn < 0) = false := by simpa using q8
                        have hok2 : Hid (∀ i, i < k + 1 → StepOk n l i) := fun i hi => by
                          by_cases e : i = k
                          · rw [e]; exact HND.out.2 ⟨by omega, by omega, by omega, Q4.out, Q5.out, by rw [Q6.out, HZ.out], by omega, by omega⟩
                          · exact hok.out i (by omega)
                        have hsum : Hid (s A + s B ≤ 24) := by show _ ≤ _; rw [← HXY.out.1, ← HXY.out.2]; exact lAB
                        have hbx := Blk.new wr #[.int .i64 A, .int .i64 B, .int .i64 Nn, .int .i64 Dd, .int .i64 Z] 42
                        go_wp2_with fail
                        try simp only [List.append_eq, List.cons_append, List.nil_append]
                        go_quiet (fail)
                        have hcl3 := Lib.hid (HJ.out.2.2 k _ hlt hok2.out (HJ.out.2.1 k _ _ hAl.out ((But.refl _ _).drewN nq)) (by simp; omega) HLEN.out)
                        have hbx := hbx.drewN nq
                        have hc1 := Blk.drewN hc1 nq
                        go_wp2_with fail
                        refine hcl3.out.mono ?_
                        rintro e w4 ⟨rfl, hj4, hB4⟩
                        have hc4 : Cl w4 w.heap.size s (fun _ => 0) := hB4 _ _ _ (.inr rfl) hc1
                        have hx4 := hB4 _ _ _ (.inl rfl) hbx
                        have y0 : w4.cell? ⟨wr.heap.size, 0, none⟩ = some (.int .i64 A) := hx4.cell 0
                        have y1 : w4.cell? ⟨wr.heap.size, 1, none⟩ = some (.int .i64 B) := hx4.cell 1
                        have HJ4 := Lib.hid hj4
                        clear hj4 hB4 hcl3 hx4 hbx
                        go_wp2_with fail
                        refine (join_any A B w.heap.size 0 s (fun _ => 0) _ (by omega) hB24 hsum.out (fun _ => Nat.le_refl _) (by omega) hc4).mono ?_
                        rintro e w5 ⟨rfl, hc5, hbt5⟩
                        rw [jw_zero, ← HNX.out] at hc5
                        have hj5 := Lib.hid (HJ.out.2.1 (k + 1) w4 w5 HJ4.out hbt5)
                        go_wp2_with fail
                        go_roundw
                        case rel => exact ⟨k + 1, by omega, by go_num, hok2, hc5, hj5.out⟩
                        case measure => simp [intOf]; omega
                  · have e6 : (Z != (z : Int)) = true := by simp [q6]
                    have Q6 := Lib.hid q6
                    clear q6
                    have hx := Lib.hid (hno.out (fun h => Q6.out (by have := (HND.out.1 h).2.2.2.2.2.1; rw [HZ.out]; omega)))
                    go_wp2_with fail
                    try simp only [List.append_eq, List.cons_append, List.nil_append]
                    go_quiet (fail)
                    go_wp2_with fail
                    go_ret
                    exact .inr ⟨hx.out, rfl, k, HJ.out.2.1 k _ _ hAl.out ((But.refl _ _).drewN nq)⟩
      · have e : k = N := by omega
        have hy := Lib.hid (HYES.out (by rw [← e]; exact hok.out))
        have HJN : Hid (J N wr) := by rw [← e]; exact hj.out
        clear e
        go_wp2_with fail
        go_ret
        exact .inl ⟨hy.out, rfl, HJN.out⟩
  · have hq : ((N : Int) != (n : Int) - 1) = true := by simp; omega
    have hno : ¬ StepsOk n l := fun h => hlen (by have := h.1; rw [HL.out] at this; exact this)
    have HNO := Lib.hid hno
    clear hno hlen
    go_enter Tryd.func67, Tryd.ntmps67
    go_wp2_with fail
    go_ret
    exact .inr ⟨HNO.out, rfl, 0, H0.out⟩
end Go.Proofs.YtahgffjkkdbjeaaDoor
