/- The document's find and Clustering. -/
import Derived.Test.YtahgffjkkdbjeaaDoorPJ
import Derived.Test.YtahgffjkkdbjeaaDoorZF
namespace Go.Proofs.YtahgffjkkdbjeaaDoor
open Go.RowKit
def hdIs (x : Int) (c : List Nat) : Bool := decide (((c.headD 0 : Nat) : Int) = x)
/-- The cluster with a least language. -/
def fI (C : List (List Nat)) (x : Int) : Int := idxF (hdIs x) C
theorem hdIs_at {C : List (List Nat)} {x : Int} {i : Nat} (hi : i < C.length) : hdIs x C[i] = decide ((hC C i : Int) = x) := by
  have e : hC C i = C[i].headD 0 := by unfold hC cC; rw [List.getD_eq_getElem?_getD, List.getElem?_eq_getElem hi]; rfl
  rw [e]; rfl
theorem fI_found {n : Nat} {C : List (List Nat)} {s : Nat → Nat} (h : ClS n C s) {x : Int} {i : Nat} (hi : i < C.length) (e : (hC C i : Int) = x) : fI C x = i := by
  refine NoneBefore.found (k := i) (fun j hj hji => ?_) hi ?_
  · rw [hdIs_at hj, decide_eq_false_iff_not]
    intro e2
    exact h.hne hj hi (by omega) (by omega)
  · rw [hdIs_at hi]; exact decide_eq_true e
theorem fI_none {C : List (List Nat)} {x : Int} (h : ∀ i, i < C.length → (hC C i : Int) ≠ x) : fI C x = -1 :=
  NoneBefore.none (k := C.length) (fun j hj _ => by rw [hdIs_at hj]; exact decide_eq_false (h j hj)) (Nat.le_refl _)
set_option maxRecDepth 100000 in
set_option maxHeartbeats 2000000 in
theorem find_any (a : Option Addr) (N c : Nat) (rs : List Rw) (C : List (List Nat)) (x : Int) (w : World) (hN : N ≤ 24) (hC : Cls w a N rs C) (hne : ∀ t, t < N → cC C t ≠ []) :
    Calls Tryd.prog 81 #[.slice a N c, .int .i64 x] w fun e w' => e = .returned (.int .i64 (fI C x)) ∧ w' = w := by
  have HC := Lib.hid hC
  have HN := Lib.hid hne
  clear hC hne
  go_enter Tryd.func81, Tryd.ntmps81
  go_wp2_with fail
  go_loopw [5] (fun s wr => ∃ k : Nat, k ≤ N ∧ s = .int .i64 k ∧ Hid (NoneBefore (hdIs x) C k) ∧ wr = w) (fun s _ => N - (intOf s).toNat)
  case atStart => exact ⟨0, by omega, rfl, NoneBefore.zero _ _, rfl⟩
  case round =>
    obtain ⟨k, hk, rfl, hnb, rfl⟩ := hrel
    by_cases hlt : k < N
    · obtain ⟨b, o, rfl, _, hc⟩ := rdR HC.out.rows.rd (by rw [HC.out.rlen]; omega)
      have G := hc k (by rw [HC.out.rlen]; exact hlt)
      obtain ⟨r1, n1⟩ := HC.out.row hlt
      have h0 : 0 < (cC C k).length := List.length_pos_iff.2 (HN.out k hlt)
      obtain ⟨b1, o1, h1a, h1b, hc1⟩ := rdI r1 (by rw [iL_len]; exact h0)
      have X := hc1 0 (by rw [iL_len]; exact h0)
      rw [iL_at, ← headD_getD, Nat.add_zero] at X
      have Y : wr.cell? ⟨b1, o1, none⟩ = some (.int .i64 (hC C k : Nat)) := X
      rw [h1a, n1] at G
      have hkl : k < C.length := by rw [HC.out.len]; exact hlt
      have HY : Hid ((hC C k : Int) = x → fI C x = k) := fun e => hnb.out.found hkl (by rw [hdIs_at hkl]; exact decide_eq_true e)
      have HNX : Hid (¬ (hC C k : Int) = x → NoneBefore (hdIs x) C (k + 1)) := fun e => hnb.out.next hkl (by rw [hdIs_at hkl]; exact decide_eq_false e)
      clear hc r1 n1 h1a hc1 X hkl
      generalize (cC C k).length = l1 at *
      generalize hC C k = z at *
      by_cases q : (z : Int) = x
      · have t : ((z : Int) == x) = true := by simp [q]
        have hy := Lib.hid (HY.out q)
        clear q
        go_wp2_with fail
        go_ret
        exact ⟨by rw [hy.out]; rfl, rfl⟩
      · have t : ((z : Int) == x) = false := by simp [q]
        have hy := Lib.hid (HNX.out q)
        clear q
        go_wp2_with fail
        go_roundw
        case rel => exact ⟨k + 1, by omega, by go_num, hy, by trivial⟩
        case measure => simp [intOf]; omega
    · have hy : Hid (fI C x = -1) := NoneBefore.none hnb.out (by rw [HC.out.len]; omega)
      go_wp2_with fail
      go_ret
      exact ⟨by rw [hy.out]; rfl, rfl⟩
theorem stepOk_no {n k : Nat} {l : List Mg} {C : List (List Nat)} (hs : ClS n C (stS n l k)) (h : (∀ i, i < C.length → (hC C i : Int) ≠ mA l k) ∨ (∀ i, i < C.length → (hC C i : Int) ≠ mB l k)) : ¬ StepOk n l k := fun hok => by
  obtain ⟨i, j, hij, hj, e1, e2⟩ := hok.idx hs
  obtain ⟨h1, h2, _⟩ := hok
  rcases h with h | h
  · exact h i (by omega) (by rw [e1, aN]; omega)
  · exact h j hj (by rw [e2, bN]; omega)
theorem stepOk_iff {n k i j : Nat} {l : List Mg} {C : List (List Nat)} (hs : ClS n C (stS n l k)) (hi : i < C.length) (hj : j < C.length) (e1 : (hC C i : Int) = mA l k) (e2 : (hC C j : Int) = mB l k) :
    StepOk n l k ↔ (mA l k < mB l k ∧ mS l k = (((cC C i).length + (cC C j).length : Nat) : Int) ∧ 1 ≤ mD l k ∧ 0 ≤ mN l k) := by
  have a1 : (mA l k).toNat = hC C i := by omega
  have a2 : (mB l k).toNat = hC C j := by omega
  unfold StepOk
  rw [a1, a2, hs.size i hi, hs.size j hj]
  have l1 := List.length_pos_iff.2 (hs.ne i hi)
  have l2 := List.length_pos_iff.2 (hs.ne j hj)
  have b1 := hs.hlt hj
  constructor
  · rintro ⟨_, h2, _, _, _, h6, h7, h8⟩; exact ⟨h2, h6, h7, h8⟩
  · rintro ⟨h2, h6, h7, h8⟩; exact ⟨by omega, h2, by omega, by omega, by omega, h6, h7, h8⟩
theorem fI_cases (C : List (List Nat)) (x : Int) : (∃ i, i < C.length ∧ (hC C i : Int) = x) ∨ ∀ i, i < C.length → (hC C i : Int) ≠ x := by
  rcases Classical.em (∃ i, i < C.length ∧ (hC C i : Int) = x) with h | h
  · exact .inl h
  · exact .inr fun i hi e => h ⟨i, hi, e⟩
set_option maxRecDepth 100000 in
set_option maxHeartbeats 4000000 in
theorem clustering_any (la : Option Addr) (n N c : Nat) (l : List Mg) (w : World) (hn1 : 1 ≤ n) (hn : n ≤ 24) (hl : l.length = N) (hN : N ≤ 1152921504606846976) (hA : Rd w la (fl encMg l)) :
    Calls Tryd.prog 74 #[.int .i64 n, .slice la N c] w fun e w' => e = .returned (.bool (decide (StepsOk n l))) ∧ Below w.heap.size w w' := by
  have HL := Lib.hid hl
  have HA := Lib.hid hA
  clear hl hA
  by_cases hlen : N + 1 = n
  · have hq : ((N : Int) != (n : Int) - 1) = false := by simp; omega
    have HNO : Hid (∀ k, k < N → ¬ StepOk n l k → decide (StepsOk n l) = false) := fun k hk h => decide_eq_false fun h2 => h (h2.2 k (by rw [HL.out]; exact hk))
    have HYES : Hid ((∀ k, k < N → StepOk n l k) → decide (StepsOk n l) = true) := fun h => decide_eq_true ⟨by rw [HL.out]; exact hlen, fun k hk => h k (by rw [← HL.out]; exact hk)⟩
    have hlen2 : N ≤ 23 := by omega
    go_enter Tryd.func74, Tryd.ntmps74
    go_wp2_with fail
    refine (ralone_any n _ hn).mono ?_
    rintro e w1 ⟨hb1, a0, c0, rs0, rfl, hcl0, _, _⟩
    have HC0 := Lib.hid hcl0
    have HB1 := Lib.hid hb1
    have HS0 : Hid (ClS n (aloneC n) (stS n l 0)) := ClS.start n
    clear hcl0 hb1
    go_wp2_with fail
    go_loopw [6, 5] (fun x v wr => ∃ (k q : Nat) (C : List (List Nat)) (rs : List Rw) (a : Option Addr) (c : Nat), k ≤ N ∧ k + q = n ∧ x = .int .i64 k ∧ v = .slice a q c ∧ Hid (Cls wr a q rs C) ∧ Hid (ClS n C (stS n l k)) ∧ Hid (∀ i, i < k → StepOk n l i) ∧ Below w.heap.size w wr) (fun x _ _ => N - (intOf x).toNat)
    case atStart => exact ⟨0, n, aloneC n, rs0, a0, c0, by omega, by omega, rfl, rfl, HC0, HS0, fun i h => absurd h (by omega), HB1.out⟩
    case round =>
      obtain ⟨k, q, C, rs, a1, c1, hk, hkq, rfl, rfl, hcl, hcs, hok, hbl⟩ := hrel
      have HLEN : Hid (C.length = q) := hcl.out.len
      have hq24 : q ≤ 24 := by omega
      by_cases hlt : k < N
      · obtain ⟨b, o, rfl, _, hcm⟩ := rdMg (HA.out.bl hbl) (by rw [HL.out]; omega)
        obtain ⟨G0, G1, G2, G3, G4⟩ := hcm k (by rw [HL.out]; exact hlt)
        have hno := Lib.hid (HNO.out k hlt)
        have HIFF := Lib.hid (fun i j hi hj e1 e2 => stepOk_iff (l := l) (k := k) (i := i) (j := j) hcs.out hi hj e1 e2)
        have HNS := Lib.hid (fun h => stepOk_no (l := l) (k := k) hcs.out h)
        have HNEX : Hid (∀ i j, i < q → j < q → (hC C i : Int) = mA l k → (hC C j : Int) = mB l k → stS n l (k + 1) = joinS (stS n l k) (hC C i) (hC C j)) := fun i j _ _ e1 e2 => by
          show joinS _ _ _ = _
          rw [show (mA l k).toNat = hC C i by omega, show (mB l k).toNat = hC C j by omega]
        have cA := Lib.hid (fI_cases C (mA l k))
        have cB := Lib.hid (fI_cases C (mB l k))
        have HFA := Lib.hid (fun i (hi : i < C.length) (e : (hC C i : Int) = mA l k) => fI_found hcs.out hi e)
        have HFB := Lib.hid (fun i (hi : i < C.length) (e : (hC C i : Int) = mB l k) => fI_found hcs.out hi e)
        have HFA0 := Lib.hid (fun (h : ∀ i, i < C.length → (hC C i : Int) ≠ mA l k) => fI_none h)
        have HFB0 := Lib.hid (fun (h : ∀ i, i < C.length → (hC C i : Int) ≠ mB l k) => fI_none h)
        have HOKN : Hid (StepOk n l k → ∀ i, i < k + 1 → StepOk n l i) := fun h i hi => by
          by_cases e : i = k
          · rw [e]; exact h
          · exact hok.out i (by omega)
        clear hcm
        generalize mA l k = A at *
        generalize mB l k = B at *
        generalize mN l k = Nn at *
        generalize mD l k = Dd at *
        generalize mS l k = Z at *
        go_upto_region 8 with fail
        have hX := Blk.new wr #[.int .i64 A, .int .i64 B, .int .i64 Nn, .int .i64 Dd, .int .i64 Z] 42
        have hb5 := bl_alloc (Below.refl wr.heap.size wr) (.cells #[.int .i64 A, .int .i64 B, .int .i64 Nn, .int .i64 Dd, .int .i64 Z] 42)
        obtain ⟨w5, hw5⟩ : ∃ w5, w5 = wr.alloc (.cells #[.int .i64 A, .int .i64 B, .int .i64 Nn, .int .i64 Dd, .int .i64 Z] 42) := ⟨_, rfl⟩
        obtain ⟨X, hXe⟩ : ∃ X, X = wr.heap.size := ⟨_, rfl⟩
        rw [← hw5] at hX hb5 ⊢
        rw [← hXe] at hX ⊢
        have HX := Lib.hid hX
        have HB5 := Lib.hid (bl_trans hbl hb5)
        have HCL5 := Lib.hid (hcl.out.bl hb5)
        have H81 : Hid (∀ x n1, Calls Tryd.prog 81 #[.slice a1 q c1, .int .i64 x] (w5.drewN n1) fun e w'' => e = .returned (.int .i64 (fI C x)) ∧ ∃ n2, w'' = w5.drewN n2) := fun x n1 =>
          (find_any a1 q c1 rs C x (w5.drewN n1) hq24 (HCL5.out.bl (bl_drewN (Below.refl _ _) _)) (fun t ht => hcs.out.ne t (by rw [HLEN.out]; exact ht))).mono fun e w' h => ⟨h.1, n1, h.2⟩
        have m0 : w5.cell? ⟨X, 0, none⟩ = some (.int .i64 A) := hX.cell 0
        have m1 : w5.cell? ⟨X, 1, none⟩ = some (.int .i64 B) := hX.cell 1
        have m2 : w5.cell? ⟨X, 2, none⟩ = some (.int .i64 Nn) := hX.cell 2
        have m3 : w5.cell? ⟨X, 3, none⟩ = some (.int .i64 Dd) := hX.cell 3
        have m4 : w5.cell? ⟨X, 4, none⟩ = some (.int .i64 Z) := hX.cell 4
        obtain ⟨ob, oo, rfl, hobl, hoc⟩ := rdR HCL5.out.rows.rd (by rw [HCL5.out.rlen]; omega)
        have HOC : Hid (∀ i, i < q → w5.cell? ⟨ob, oo + i, none⟩ = some (.slice (rA rs i) (cC C i).length (rC rs i))) := fun i hi => by rw [hoc i (by rw [HCL5.out.rlen]; exact hi), (HCL5.out.row hi).2]
        have HSM : Hid (∀ i, i < q → (cC C i).length ≤ 24) := fun i hi => HCL5.out.small i hi
        clear hw5 hXe hX hb5 hoc G0 G1 G2 G3 G4 hbl
        go_quiet ((go_at_call 81; exact H81.out _ _))
        generalize nq = nq0
        rcases cA.out with ⟨i, hi, ei⟩ | h
        · rcases cB.out with ⟨j, hj, ej⟩ | h
          · rw [HFA.out i hi ei, HFB.out j hj ej]
            have hi2 : i < q := by rw [← HLEN.out]; exact hi
            have hj2 : j < q := by rw [← HLEN.out]; exact hj
            have G5 := HOC.out i hi2
            have G6 := HOC.out j hj2
            have t5 := HSM.out i hi2
            have t6 := HSM.out j hj2
            have hiff := Lib.hid (HIFF.out i j hi hj ei ej)
            have hnex := Lib.hid (HNEX.out i j hi2 hj2 ei ej)
            have HIJ : Hid (A < B → i < j) := fun hab => by
              rcases Nat.lt_trichotomy i j with h | h | h
              · exact h
              · subst h; omega
              · have := hcs.out.inc j i h hi; omega
            have HJN : Hid (∀ hij : i < j, ∀ W, Cls W (some ⟨ob, oo, none⟩) q rs C → (cC C i).length + (cC C j).length ≤ 24 → Calls Tryd.prog 66 #[.slice (some ⟨ob, oo, none⟩) q c1, .int .i64 i, .int .i64 j] W fun e w' => Below W.heap.size W w' ∧ ∃ a' c' rs', e = .returned (.slice a' (q - 1) c') ∧ Cls w' a' (q - 1) rs' (rj C i j q)) := fun hij W h h24 =>
              (rjoin_any (some ⟨ob, oo, none⟩) q c1 i j rs C W hij hj2 hq24 h (fun t ht => hcs.out.ne t (by rw [HLEN.out]; exact ht)) h24).mono fun e w' ⟨h1, a', c', rs', h2, h3, _⟩ => ⟨h1, a', c', rs', h2, h3⟩
            have H24 : Hid (i < j → (cC C i).length + (cC C j).length ≤ 24) := fun hij => by
              rw [← hcs.out.size i hi, ← hcs.out.size j hj]
              have h1 := sumN_two (stS n l k) (hcs.out.inc i j hij hj) (n := n) (hcs.out.hlt hj)
              have h2 := (stS_inv k hok.out).sum
              omega
            obtain ⟨z, hz⟩ : ∃ z, (cC C i).length + (cC C j).length = z := ⟨_, rfl⟩
            have wz := wrap_nat (((cC C i).length : Int) + ((cC C j).length : Int)) z (by rw [← hz]; simp) (by omega)
            have HZ := Lib.hid hz
            have hiff2 : Hid (StepOk n l k ↔ A < B ∧ Z = (z : Int) ∧ 1 ≤ Dd ∧ 0 ≤ Nn) := by show _ ↔ _; rw [hiff.out, hz]
            clear hz hiff
            generalize (cC C i).length = li at *
            generalize (cC C j).length = lj at *
            generalize rA rs i = Ai at *
            generalize rA rs j = Aj at *
            generalize rC rs i = Ci at *
            generalize rC rs j = Cj at *
            have di : decide ((i : Int) < 0) = false := by simp
            have dj : decide ((j : Int) < 0) = false := by simp
            go_upto_region 9 with fail
            by_cases q1 : B ≤ A
            · have t1 : decide (B ≤ A) = true := by simpa using q1
              have hs := Lib.hid (hno.out (fun h => by have := hiff2.out.1 h; omega))
              clear q1
              go_quiet (fail)
              go_wp2_with fail
              go_ret
              exact ⟨by rw [hs.out]; rfl, bl_drewN (bl_drewN HB5.out _) _⟩
            · have t1 : decide (B ≤ A) = false := by simpa using q1
              by_cases q2 : Dd < 1
              · have t2 : decide (Dd < 1) = true := by simpa using q2
                have hs := Lib.hid (hno.out (fun h => by have := hiff2.out.1 h; omega))
                clear q1 q2
                go_quiet (fail)
                go_wp2_with fail
                go_ret
                exact ⟨by rw [hs.out]; rfl, bl_drewN (bl_drewN HB5.out _) _⟩
              · have t2 : decide (Dd < 1) = false := by simpa using q2
                by_cases q3 : Nn < 0
                · have t3 : decide (Nn < 0) = true := by simpa using q3
                  have hs := Lib.hid (hno.out (fun h => by have := hiff2.out.1 h; omega))
                  clear q1 q2 q3
                  go_quiet (fail)
                  go_wp2_with fail
                  go_ret
                  exact ⟨by rw [hs.out]; rfl, bl_drewN (bl_drewN HB5.out _) _⟩
                · have t3 : decide (Nn < 0) = false := by simpa using q3
                  by_cases q4 : Z = (z : Int)
                  · have t4 : (Z != (z : Int)) = false := by simp [q4]
                    have hyes := Lib.hid (hiff2.out.2 ⟨by omega, q4, by omega, by omega⟩)
                    have hij := HIJ.out (by omega)
                    have h24 := H24.out hij
                    have hok2 := Lib.hid (HOKN.out hyes.out)
                    have hcs2 : Hid (ClS n (rj C i j q) (stS n l (k + 1))) := by
                      show ClS _ _ _
                      rw [hnex.out]
                      have := hcs.out.next hij hj
                      rw [HLEN.out] at this
                      exact this
                    clear q1 q2 q3 q4
                    go_quiet (fail)
                    obtain ⟨w6, hw6⟩ : ∃ w6, w6 = (w5.drewN nq0).drewN nq := ⟨_, rfl⟩
                    have hcl6 : Cls w6 (some ⟨ob, oo, none⟩) q rs C := by rw [hw6]; exact HCL5.out.bl (bl_drewN (bl_drewN (Below.refl _ _) _) _)
                    have hb6 : Below w.heap.size w w6 := by rw [hw6]; exact bl_drewN (bl_drewN HB5.out _) _
                    rw [← hw6]
                    have HC6 := Lib.hid hcl6
                    have HB6 := Lib.hid hb6
                    clear hw6 hcl6 hb6 m0 m1 m2 m3 m4 G5 G6
                    go_wp2_with fail
                    refine (HJN.out hij w6 HC6.out (by rw [HZ.out]; rw [HZ.out] at h24; exact h24)).mono ?_
                    rintro e w7 ⟨hb7, a7, c7, rs7, rfl, hcl7⟩
                    have HC7 := Lib.hid hcl7
                    have hb8 := bl_trans HB6.out hb7
                    clear hcl7 hb7
                    go_wp2_with fail
                    go_roundw
                    case rel => exact ⟨k + 1, q - 1, _, rs7, a7, c7, by omega, by omega, by go_num, rfl, HC7, hcs2, hok2, hb8⟩
                    case measure => simp [intOf]; omega
                  · have t4 : (Z != (z : Int)) = true := by simp [q4]
                    have hs := Lib.hid (hno.out (fun h => q4 (hiff2.out.1 h).2.1))
                    clear q1 q2 q3 q4
                    go_quiet (fail)
                    go_wp2_with fail
                    go_ret
                    exact ⟨by rw [hs.out]; rfl, bl_drewN (bl_drewN HB5.out _) _⟩
          · rw [HFA.out i hi ei, HFB0.out h]
            have hs := Lib.hid (hno.out (HNS.out (.inr h)))
            have di : decide ((i : Int) < 0) = false := by simp
            go_upto_region 9 with fail
            go_quiet (fail)
            go_wp2_with fail
            go_ret
            exact ⟨by rw [hs.out]; rfl, bl_drewN (bl_drewN HB5.out _) _⟩
        · rw [HFA0.out h]
          have hs := Lib.hid (hno.out (HNS.out (.inl h)))
          go_upto_region 9 with fail
          go_quiet (fail)
          go_wp2_with fail
          go_ret
          exact ⟨by rw [hs.out]; rfl, bl_drewN (bl_drewN HB5.out _) _⟩
      · have hy := Lib.hid (HYES.out (fun i hi => hok.out i (by omega)))
        go_wp2_with fail
        go_ret
        exact ⟨by rw [hy.out]; rfl, hbl⟩
  · have hq : ((N : Int) != (n : Int) - 1) = true := by simp; omega
    have hs : Hid (decide (StepsOk n l) = false) := decide_eq_false fun h => hlen (by rw [← HL.out]; exact h.1)
    go_enter Tryd.func74, Tryd.ntmps74
    go_wp2_with fail
    go_ret
    exact ⟨by rw [hs.out]; rfl, Below.refl _ _⟩
end Go.Proofs.YtahgffjkkdbjeaaDoor
