/- The document's clusters: each language alone, the sum between two clusters, two made one. The document's Merges at every input. -/
import Derived.Test.YtahgffjkkdbjeaaDoorZ1
import Derived.Test.YtahgffjkkdbjeaaDoorZE
import Derived.Deep.RegionHeld3
import Derived.Deep.RegionWith
import Derived.Test.YtahgffjkkdbjeaaDoorZ3
import Derived.Test.YtahgffjkkdbjeaaDoorZ9
import Derived.Test.YtahgffjkkdbjeaaDoorZ7
namespace Go.Proofs.YtahgffjkkdbjeaaDoor
open Go.RowKit
/-- Clusters as rows of numbers. -/
def iL (l : List Nat) : List Int := l.map fun (x : Nat) => (x : Int)
def iC (C : List (List Nat)) : List (List Int) := C.map iL
theorem iL_len (l : List Nat) : (iL l).length = l.length := by simp [iL]
theorem iL_app (l m : List Nat) : iL (l ++ m) = iL l ++ iL m := by simp [iL]
theorem iL_at (l : List Nat) (i : Nat) : iA (iL l) i = (l.getD i 0 : Nat) := by
  simp only [iA, iL, List.getD_eq_getElem?_getD, List.getElem?_map]
  cases l[i]? <;> rfl
theorem iC_len (C : List (List Nat)) : (iC C).length = C.length := by simp [iC]
theorem iC_row (C : List (List Nat)) (i : Nat) : rwk (iC C) i = iL (cC C i) := by
  simp only [rwk, iC, cC, List.getD_eq_getElem?_getD, List.getElem?_map]
  cases C[i]? <;> rfl
theorem CR.congr {w : World} {v : Value} {k : Nat} {rk : List Rw} {L L' : List (List Int)} (h : CR w v k rk L) (e : ∀ i, i < k → rwk L i = rwk L' i) : CR w v k rk L' := by
  refine ⟨h.1, fun i hi => ?_⟩
  rw [← e i hi]
  exact h.2 i hi
/-- Clusters in memory. -/
structure Cls (w : World) (a : Option Addr) (N : Nat) (rs : List Rw) (C : List (List Nat)) : Prop where
  len : C.length = N
  rows : Rows w a rs (iC C)
  small : ∀ i, i < N → (cC C i).length ≤ 24
theorem Cls.bl {w w' : World} {a : Option Addr} {N : Nat} {rs : List Rw} {C : List (List Nat)} (h : Cls w a N rs C) (hb : Below w.heap.size w w') : Cls w' a N rs C := ⟨h.len, h.rows.bl hb, h.small⟩
theorem Cls.rlen {w : World} {a : Option Addr} {N : Nat} {rs : List Rw} {C : List (List Nat)} (h : Cls w a N rs C) : rs.length = N := by rw [h.rows.len, iC_len, h.len]
theorem Cls.row {w : World} {a : Option Addr} {N : Nat} {rs : List Rw} {C : List (List Nat)} (h : Cls w a N rs C) {i : Nat} (hi : i < N) : Rd w (rA rs i) (fl encI (iL (cC C i))) ∧ rN rs i = (cC C i).length := by
  obtain ⟨h1, h2, _⟩ := h.rows.row i (by rw [iC_len, h.len]; exact hi)
  rw [iC_row] at h1 h2
  rw [iL_len] at h2
  exact ⟨h1, h2⟩
theorem rd_none {w : World} {l : List Nat} {a : Option Addr} (h : Rd w a (fl encI (iL l))) (e : a = none) : l.length = 0 := by
  rcases Nat.eq_zero_or_pos l.length with h0 | h0
  · exact h0
  · obtain ⟨b, o, e2, _⟩ := h (by rw [encI_fl, iL_len]; exact h0)
    rw [e] at e2; cases e2
theorem rd_blk {w : World} {l : List Nat} {a : Option Addr} (h : Rd w a (fl encI (iL l))) (h0 : 0 < l.length) {b off : Nat} (e : a = some ⟨b, off, none⟩) : b < w.heap.size := by
  obtain ⟨b', o', e2, hb, _⟩ := h (by rw [encI_fl, iL_len]; exact h0)
  rw [e] at e2
  simp at e2
  omega
theorem rj_row {C : List (List Nat)} {i k N t : Nat} (hik : i < k) (hN : C.length = N) (hk : k < N) (ht : t < N - 1) : rwk (iC (rj C i k N)) t = iL (if t = i then cC C i ++ cC C k else cC C (rjI k t)) := by
  rw [iC_row, rj_get C hik N t (by rw [rj_len C hik, if_pos hk]; exact ht)]
theorem rA_lt {rk : List Rw} {y : Rw} {t : Nat} (h : t < rk.length) : rA (rk ++ [y]) t = rA rk t := by simp [rA, List.getD_eq_getElem?_getD, List.getElem?_append_left h]
theorem rA_eq (rk : List Rw) (y : Rw) : rA (rk ++ [y]) rk.length = y.1 := by simp [rA]
/-- None of the rows lies in block r. -/
def OffR (rs : List Rw) (k r : Nat) : Prop := ∀ t, t < k → ∀ b off, rA rs t = some ⟨b, off, none⟩ → b ≠ r
theorem OffR.zero (rs : List Rw) (r : Nat) : OffR rs 0 r := fun t h => absurd h (by omega)
theorem OffR.push {rk : List Rw} {q r : Nat} {y : Rw} (h : OffR rk q r) (hl : rk.length = q) (hy : ∀ b off, y.1 = some ⟨b, off, none⟩ → b ≠ r) : OffR (rk ++ [y]) (q + 1) r := by
  intro t ht b off e
  by_cases e1 : t < q
  · rw [rA_lt (by omega)] at e; exact h t e1 b off e
  · obtain rfl : t = q := by omega
    rw [← hl, rA_eq] at e; exact hy b off e
theorem rd_of_blk {w : World} {B : Nat} {cs : Array Value} {t : TypeId} {l : List Value} (h : Blk w B cs t) (e : cs.toList = l) : Rd w (some ⟨B, 0, none⟩) l := fun _ => ⟨B, 0, rfl, h.lt, fun i hi => by
  rw [Nat.zero_add, h.cell, ← Array.getElem?_toList, e, List.getD_eq_getElem?_getD, List.getElem?_eq_getElem hi]; rfl⟩
set_option maxRecDepth 100000 in
set_option maxHeartbeats 4000000 in
theorem ralone_any (n : Nat) (w : World) (hn : n ≤ 24) :
    Calls Tryd.prog 63 #[.int .i64 n] w fun e w' => Below w.heap.size w w' ∧ ∃ a' c' rs', e = .returned (.slice a' n c') ∧ Cls w' a' n rs' (aloneC n) ∧ (∀ b off, 0 < n → a' = some ⟨b, off, none⟩ → w.heap.size ≤ b) ∧ ∀ r, r < w.heap.size → OffR rs' n r := by
  have hrow : Hid (∀ t, t < n → rwk (iC (aloneC n)) t = [(t : Int)]) := fun t ht => by rw [iC_row, aloneC_at ht]; rfl
  go_enter Tryd.func63, Tryd.ntmps63
  go_wp2_with fail
  go_loopw [4, 3] (fun x v wr => ∃ (q : Nat) (rk : List Rw), q ≤ n ∧ x = .int .i64 q ∧ wr.ownsRow w.heap.size 29 1 v q (fl encR rk) ∧ CR wr v q rk (iC (aloneC n)) ∧ Below w.heap.size w wr ∧ Hid (∀ r, r < w.heap.size → OffR rk q r)) (fun x _ _ => n - (intOf x).toNat)
  case atStart => exact ⟨0, [], by omega, rfl, World.ownsRow_nil _ _ _ _, CR.zero _ _ _, Below.refl _ _, fun r _ => OffR.zero _ r⟩
  case round =>
    obtain ⟨q, rk, hq, rfl, hown, hcr, hbl, hoff⟩ := hrel
    have HCR := Lib.hid hcr
    clear hcr
    by_cases hlt : q < n
    · have hb1 := bl_alloc hbl (.cells #[.int .i64 q] 3)
      have hb2 := bl_alloc hb1 (.cells #[.slice (some ⟨wr.heap.size, 0, none⟩) 1 1] 29)
      go_wp2_with (at_builtin; refine push_R rfl (.tmp 10) (.tmp 13) rfl w.heap.size u3 rk q HCR.out.1.symm rfl ((hown.alloc _).alloc _) (wr.heap.size + 1) 1 (some ⟨wr.heap.size, 0, none⟩, 1, 1) rfl (by first | exact Blk.new2 _ _ _ _ | (rw [World.size_alloc]; exact Blk.new2 _ _ _ _)) (by omega) hb2.size ?_; intro g5 cap5 w3 hw4 hw5 hw6 hw7)
      have hv : ∀ r, u3.ownBlock = some r → w.heap.size ≤ r ∧ r < wr.heap.size := hown.lt
      have hB1 := ((Blk.new wr #[.int .i64 q] 3).alloc (.cells #[.slice (some ⟨wr.heap.size, 0, none⟩) 1 1] 29))
      have hC2 := CR.push (w' := w3) (y := (some ⟨wr.heap.size, 0, none⟩, 1, 1)) (v' := .slice (some ⟨g5, 0, none⟩) (q + 1) cap5) ((HCR.out.bl (bl_alloc (Below.refl _ _) (.cells #[.int .i64 q] 3))).bl (bl_alloc (Below.refl _ _) (.cells #[.slice (some ⟨wr.heap.size, 0, none⟩) 1 1] 29))) (by rw [hrow.out q hlt]; exact rd_of_blk hB1 (by simp [fl, encI])) (by rw [hrow.out q hlt]; rfl) (fun _ b off e e2 => by
        simp at e
        have := (hv b e2.symm).2; omega) hw5 rfl hw6
      have hO2 : Hid (∀ r, r < w.heap.size → OffR (rk ++ [(some ⟨wr.heap.size, 0, none⟩, 1, 1)]) (q + 1) r) := fun r hr => (hoff.out r hr).push HCR.out.1 (fun b off e => by simp at e; have := hbl.size; omega)
      have hb3 := Below.grown hb2 hw5 hb2.size (fun r hr => (hv r hr).1)
      go_wp2_with fail
      go_roundw
      case rel => exact ⟨q + 1, _, by omega, by go_num, hw4, hC2, hb3, hO2⟩
      case measure => simp [intOf]; omega
    · obtain rfl : q = n := by omega
      obtain ⟨a', c', rfl, hac⟩ := owns_slice hown
      go_wp2_with fail
      go_ret
      refine ⟨hbl, a', c', rk, rfl, ⟨aloneC_len _, HCR.out.rows hown (by rw [iC_len, aloneC_len]) (fun i hi => by rw [hrow.out i hi]; simp), fun i hi => by rw [aloneC_at hi]; simp⟩, fun b off h0 e => ?_, hoff.out⟩
      rcases hac with h1 | ⟨g, h1, _, h3⟩
      · omega
      · rw [h3] at e; simp at e; omega
set_option maxRecDepth 100000 in
set_option maxHeartbeats 4000000 in
theorem rbetween_any (g o n M kc na ca nb cb : Nat) (aa ab : Option Addr) (D : Nat → Nat → Nat) (A B : List Nat) (w : World) (hM : n * n = M) (hn : n ≤ 24) (hcell : ∀ i j, i < n → j < n → w.cell? ⟨g, o + (i * n + j), none⟩ = some (.int .i64 (D i j)) ∧ D i j ≤ 1073741824)
    (hna : A.length = na) (hnb : B.length = nb) (ha : na ≤ 24) (hb : nb ≤ 24) (hA : ∀ p ∈ A, p < n) (hB : ∀ p ∈ B, p < n) (hRA : Rd w aa (fl encI (iL A))) (hRB : Rd w ab (fl encI (iL B))) :
    Calls Tryd.prog 64 #[.slice (some ⟨g, o, none⟩) M kc, .int .i64 n, .slice aa na ca, .slice ab nb cb] w fun e w' => e = .returned (.int .i64 (btw D A B : Nat)) ∧ ∃ nq, w' = w.drewN nq := by
  have hMb : M ≤ 576 := by rw [← hM]; exact Nat.mul_le_mul hn hn
  have HC := Lib.hid hcell
  have HA := Lib.hid hA
  have HB := Lib.hid hB
  have HM := Lib.hid hM
  have HNA := Lib.hid hna
  have HNB := Lib.hid hnb
  have hD1 : ∀ p ∈ A, sumF (D p) B ≤ nb * 1073741824 := fun p hp => by rw [← hnb]; exact sumF_le fun q hq => (hcell p q (hA p hp) (hB q hq)).2
  have hS1 : Hid (∀ i, i ≤ na → sumF (fun p => sumF (D p) B) (A.take i) ≤ 24 * (24 * 1073741824)) := fun i hi => by
    have h1 := sumF_le (f := fun p => sumF (D p) B) (A := A.take i) (M := nb * 1073741824) fun p hp => hD1 p (List.mem_of_mem_take hp)
    have h2 : (A.take i).length ≤ 24 := by rw [List.length_take]; omega
    exact Nat.le_trans h1 (Nat.mul_le_mul h2 (Nat.mul_le_mul_right _ hb))
  have hS2 : Hid (∀ p, p < n → ∀ j, j ≤ nb → sumF (D p) (B.take j) ≤ 24 * 1073741824) := fun p hp j hj => by
    have h1 := sumF_le (f := D p) (A := B.take j) (M := 1073741824) fun q hq => (hcell p q hp (hB q (List.mem_of_mem_take hq))).2
    have h2 : (B.take j).length ≤ 24 := by rw [List.length_take]; omega
    exact Nat.le_trans h1 (Nat.mul_le_mul_right _ h2)
  clear hcell hA hB hM hna hnb hD1
  go_enter Tryd.func64, Tryd.ntmps64
  go_wp2_with fail
  go_loopw [10, 9, 11] (fun x s _ wr => ∃ i : Nat, i ≤ na ∧ x = .int .i64 i ∧ s = .int .i64 (sumF (fun p => sumF (D p) B) (A.take i) : Nat) ∧ ∃ nq, wr = w.drewN nq) (fun x _ _ _ => na - (intOf x).toNat)
  case atStart => exact ⟨0, by omega, rfl, rfl, 0, rfl⟩
  case round =>
    obtain ⟨i, hi, rfl, rfl, nq0, rfl⟩ := hrel
    by_cases hlt : i < na
    · obtain ⟨p, hp⟩ : ∃ p, A.getD i 0 = p := ⟨_, rfl⟩
      have hpA : p ∈ A := by rw [← hp, List.getD_eq_getElem?_getD, List.getElem?_eq_getElem (by rw [HNA.out]; exact hlt)]; exact List.getElem_mem _
      have hpn := HA.out p hpA
      have hnx := Lib.hid (sumF_take (fun p => sumF (D p) B) A (by rw [HNA.out]; exact hlt))
      obtain ⟨b1, o1, rfl, _, hc1⟩ := rdI hRA (by rw [iL_len, HNA.out]; omega)
      have X1 := hc1 i (by rw [iL_len, HNA.out]; exact hlt)
      have hs1 := hS1.out i (by omega)
      have hs1' := hS1.out (i + 1) (by omega)
      rw [iL_at, hp] at X1
      obtain ⟨S, hS⟩ : ∃ S, sumF (fun p => sumF (D p) B) (A.take i) = S := ⟨_, rfl⟩
      rw [hS] at hs1 ⊢
      have HNX : Hid (sumF (fun p => sumF (D p) B) (A.take (i + 1)) = S + sumF (D p) B) := by show _ = _; rw [hnx.out, hS, hp]
      rw [HNX.out] at hs1'
      clear hc1 hp hpA hnx hS
      go_wp2_with fail
      go_loopw [11, 9] (fun x s wr => ∃ j : Nat, j ≤ nb ∧ x = .int .i64 j ∧ s = .int .i64 (S + sumF (D p) (B.take j) : Nat) ∧ ∃ nq, wr = w.drewN nq) (fun x _ _ => nb - (intOf x).toNat)
      case atStart => exact ⟨0, by omega, rfl, by simp [sumF], nq0, rfl⟩
      case round =>
        obtain ⟨j, hj, rfl, rfl, nq1, rfl⟩ := hrel
        by_cases hlt2 : j < nb
        · obtain ⟨q, hq⟩ : ∃ q, B.getD j 0 = q := ⟨_, rfl⟩
          have hqB : q ∈ B := by rw [← hq, List.getD_eq_getElem?_getD, List.getElem?_eq_getElem (by rw [HNB.out]; exact hlt2)]; exact List.getElem_mem _
          have hqn := HB.out q hqB
          have hnx := Lib.hid (sumF_take (D p) B (by rw [HNB.out]; exact hlt2))
          obtain ⟨b2, o2, rfl, _, hc2⟩ := rdI hRB (by rw [iL_len, HNB.out]; omega)
          have X2 := hc2 j (by rw [iL_len, HNB.out]; exact hlt2)
          have hs2 := hS2.out p hpn j (by omega)
          have hs2' := hS2.out p hpn (j + 1) (by omega)
          rw [iL_at, hq] at X2
          have e1 := (HC.out p q hpn hqn).1
          obtain ⟨T, hT⟩ : ∃ T, sumF (D p) (B.take j) = T := ⟨_, rfl⟩
          obtain ⟨d, hd⟩ : ∃ d, D p q = d := ⟨_, rfl⟩
          rw [hT] at hs2 ⊢
          rw [hd] at e1
          have HNX2 : Hid (sumF (D p) (B.take (j + 1)) = T + d) := by show _ = _; rw [hnx.out, hT, hq, hd]
          rw [HNX2.out] at hs2'
          obtain ⟨m1, m2, k1, _, hm1', hm2', hk1, _, c1', _⟩ := idx_two (n := n) (N := M) (a := p) (b := q) HM.out (by omega) (by omega) (by omega)
          rw [hm1', hk1] at e1
          have w1' := wrap_nat ((p : Int) * (n : Int)) m1 (by rw [← hm1']; simp) (by omega)
          have w3 := wrap_nat ((m1 : Int) + (q : Int)) k1 (by omega) (by omega)
          have w4 := wrap_nat (((S + T : Nat) : Int) + (d : Int)) (S + T + d) (by omega) (by omega)
          clear hc2 hq hqB hnx hT hd hm1' hm2' hk1
          go_wp2_with fail
          go_quiet (fail)
          go_wp2_with fail
          go_roundw
          case rel => exact ⟨j + 1, by omega, by go_num, by rw [HNX2.out, ← Nat.add_assoc]; first | rfl | go_num, nq1 + nq, by simp⟩
          case measure => simp [intOf]; omega
        · obtain rfl : j = nb := by omega
          have e : Hid (S + sumF (D p) (B.take j) = sumF (fun p => sumF (D p) B) (A.take (i + 1))) := by show _ = _; rw [HNX.out, List.take_of_length_le (by rw [HNB.out]; exact Nat.le_refl _)]
          rw [e.out]
          go_wp2_with fail
          go_roundw
          case rel => exact ⟨i + 1, by omega, by go_num, rfl, nq1, rfl⟩
          case measure => simp [intOf]; omega
    · obtain rfl : i = na := by omega
      rw [List.take_of_length_le (by rw [HNA.out]; exact Nat.le_refl _)]
      go_wp2_with fail
      go_ret
      exact ⟨rfl, nq0, rfl⟩
def rjQ (k m : Nat) : Nat := if k < m then m - 1 else m
set_option maxRecDepth 100000 in
set_option maxHeartbeats 4000000 in
theorem rjoin_any (a : Option Addr) (N c i k : Nat) (rs : List Rw) (C : List (List Nat)) (w : World) (hik : i < k) (hk : k < N) (hN : N ≤ 24) (hC : Cls w a N rs C) (hne : ∀ t, t < N → cC C t ≠ []) (h24 : (cC C i).length + (cC C k).length ≤ 24) :
    Calls Tryd.prog 66 #[.slice a N c, .int .i64 i, .int .i64 k] w fun e w' => Below w.heap.size w w' ∧ ∃ a' c' rs', e = .returned (.slice a' (N - 1) c') ∧ Cls w' a' (N - 1) rs' (rj C i k N) ∧ (∀ b off, a' = some ⟨b, off, none⟩ → w.heap.size ≤ b) ∧ ∀ r, r < w.heap.size → OffR rs N r → OffR rs' (N - 1) r := by
  have HC := Lib.hid hC
  have hne0 := Lib.hid hne
  have hsm : Hid (∀ t, t < N - 1 → (if t = i then cC C i ++ cC C k else cC C (rjI k t)).length ≤ 24) := fun t ht => by
    split
    · rw [List.length_append]; exact h24
    · exact hC.small _ (by unfold rjI; split <;> omega)
  clear hC hne h24
  have hR : Hid (∀ t, t < N - 1 → rwk (iC (rj C i k N)) t = iL (if t = i then cC C i ++ cC C k else cC C (rjI k t))) := fun t ht => rj_row hik HC.out.len hk ht
  go_enter Tryd.func66, Tryd.ntmps66
  go_wp2_with fail
  go_loopw [8, 7, 9] (fun x v _ wr => ∃ (m q : Nat) (rk : List Rw), m ≤ N ∧ x = .int .i64 m ∧ rjQ k m = q ∧ wr.ownsRow w.heap.size 29 1 v q (fl encR rk) ∧ CR wr v q rk (iC (rj C i k N)) ∧ Below w.heap.size w wr ∧ Hid (∀ r, r < w.heap.size → OffR rs N r → OffR rk q r)) (fun x _ _ _ => N - (intOf x).toNat)
  case atStart => exact ⟨0, 0, [], by omega, rfl, by unfold rjQ; rw [if_neg (by omega)], World.ownsRow_nil _ _ _ _, CR.zero _ _ _, Below.refl _ _, fun r _ _ => OffR.zero _ r⟩
  case round =>
    obtain ⟨m, q, rk, hm, rfl, hq, hown, hcr, hbl, hoff⟩ := hrel
    by_cases hlt : m < N
    · obtain ⟨b, o, rfl, hbw, hc⟩ := rdR (HC.out.rows.rd.bl hbl) (by rw [HC.out.rlen]; omega)
      have hcl := Lib.hid (HC.out.bl hbl)
      have hqb : q ≤ m := by rw [← hq]; unfold rjQ; split <;> omega
      have HCR := Lib.hid hcr
      clear hcr
      by_cases hmi : m = i
      · subst hmi
        have hqm : q = m := by rw [← hq]; unfold rjQ; rw [if_neg (by omega)]
        subst hqm
        have G1 := hc q (by rw [HC.out.rlen]; omega)
        have G2 := hc k (by rw [HC.out.rlen]; omega)
        obtain ⟨r1, n1⟩ := hcl.out.row hlt
        obtain ⟨r2, n2⟩ := hcl.out.row hk
        have s1 := HC.out.small q hlt
        have s2 := HC.out.small k hk
        rw [n1] at G1
        rw [n2] at G2
        have R1 := Lib.hid r1
        have R2 := Lib.hid r2
        have HRQ := Lib.hid (hR.out q (by omega))
        rw [if_pos rfl] at HRQ
        have hX0 := Lib.hid (hne0.out q hlt)
        clear hc r1 r2 n1 n2 hR hq
        generalize rA rs q = A1 at *
        generalize rA rs k = A2 at *
        generalize rC rs q = C1 at *
        generalize rC rs k = C2 at *
        generalize cC C q = X at *
        generalize cC C k = Y at *
        have hq2 : ((q : Int) == (q : Int)) = true := by simp
        go_upto_region 7 with fail
        go_upto_region 8 with (at_builtin; refine wpList_pushs (enc := encI) (k := 1) (bytes := 8) rfl (fun _ => rfl) (by decide) encI_one2 (base := wr.heap.size) Tryd.underlying29 info_I rfl (.tmp 19) (.tmp 23) rfl (.slice none 0 0) ([] : List Int) 0 rfl rfl (World.ownsRow_nil _ _ _ _) A1 X.length C1 (iL X) (iL_len X).symm rfl R1.out (fun e => rd_none R1.out e) (by omega) (by decide) (Nat.le_refl _) ?_; intro v1 w2 hw1 hw2 hw3)
        rw [Nat.zero_add, List.nil_append] at hw1
        have hb12 := Below.grown (Below.refl wr.heap.size wr) hw2 (Nat.le_refl _) (fun r hr => by simp [Value.ownBlock] at hr)
        have G2' := (hb12.cell (p := ⟨b, o + k, none⟩) hbw).trans G2
        have hv := hown.lt
        have hown2 := owns_below hown hb12
        have R2' := R2.out.bl hb12
        have hsz := hb12.size
        clear G1 G2
        go_wp2_with (first
          | (at_builtin; refine wpList_pushs (enc := encI) (k := 1) (bytes := 8) rfl (fun _ => rfl) (by decide) encI_one2 (base := wr.heap.size) Tryd.underlying29 info_I rfl (.tmp 26) (.tmp 30) rfl v1 (iL X) X.length (iL_len X).symm rfl hw1 A2 Y.length C2 (iL Y) (iL_len Y).symm rfl R2' (fun e => rd_none R2.out e) (by omega) (by decide) hsz ?_; intro v2 w3 hw4 hw5 hw6; obtain ⟨a2, c2, rfl, hac⟩ := owns_slice hw4; have hb13 := hb12.grown hw5 hsz (fun r hr => (hw1.lt r hr).1); have HOWN3 := Lib.hid (owns_below hown hb13); have HB3 := Lib.hid (bl_trans hbl hb13); have HR4 := Lib.hid (rd_of_owns hw4); have HB13 := Lib.hid hb13; clear hb13)
          | (at_builtin; refine push_R rfl (.tmp 25) (.tmp 32) rfl w.heap.size u7 rk q HCR.out.1.symm rfl (HOWN3.out.alloc _) w3.heap.size 1 (a2, X.length + Y.length, c2) rfl (Blk.new _ _ _) (by omega) (by have := HB3.out.size; simp; omega) ?_; intro g7 c7 w4 hw7 hw8 hw9 hw10))
        have hhv : ∀ b off, a2 = some ⟨b, off, none⟩ → X.length + Y.length = 0 ∨ wr.heap.size ≤ b := fun b off e => by
          rcases hac with h | ⟨g0, h1, _, h3⟩
          · exact .inl h
          · right; rw [h3] at e; simp at e; omega
        have hcr2 := CR.push (w' := w4) (y := (a2, X.length + Y.length, c2)) (v' := .slice (some ⟨g7, 0, none⟩) (q + 1) c7) ((HCR.out.bl HB13.out).bl (bl_alloc (Below.refl _ _) (.cells #[.slice a2 (X.length + Y.length) c2] 29))) (by rw [HRQ.out, iL_app]; exact HR4.out.bl (bl_alloc (Below.refl _ _) _)) (by rw [HRQ.out, iL_len, List.length_append]) (fun h0 b' off e e2 => by
          rw [HRQ.out, iL_len, List.length_append] at h0
          have h1 := (hv b' e2.symm).2
          rcases hhv b' off e with h2 | h2 <;> omega) hw8 rfl hw9
        have hoff2 : Hid (∀ r, r < w.heap.size → OffR rs N r → OffR (rk ++ [(a2, X.length + Y.length, c2)]) (q + 1) r) := fun r hr h0 => (hoff.out r hr h0).push HCR.out.1 (fun b' off e => by
          have h1 := hbl.size
          rcases hhv b' off e with h2 | h2
          · have : 0 < X.length := List.length_pos_iff.2 hX0.out
            omega
          · omega)
        have hbl4 := Below.grown (bl_alloc HB3.out (.cells #[.slice a2 (X.length + Y.length) c2] 29)) hw8 (bl_alloc HB3.out (.cells #[.slice a2 (X.length + Y.length) c2] 29)).size (fun r hr => (hv r hr).1)
        go_roundw
        case rel => exact ⟨q + 1, q + 1, _, by omega, by go_num, by unfold rjQ; rw [if_neg (by omega)], hw7, hcr2, hbl4, hoff2⟩
        case measure => simp [intOf]; omega
      · by_cases hmk : m = k
        · subst hmk
          have hqm : q = m := by rw [← hq]; unfold rjQ; rw [if_neg (by omega)]
          subst hqm
          have hq1 : ((q : Int) == (i : Int)) = false := by simp; omega
          have hq2 : ((q : Int) != (q : Int)) = false := by simp
          clear hc
          go_wp2_with fail
          go_roundw
          case rel => exact ⟨q + 1, q, _, by omega, by go_num, by unfold rjQ; rw [if_pos (by omega)]; omega, hown, HCR.out, hbl, hoff⟩
          case measure => simp [intOf]; omega
        · have G1 := hc m (by rw [HC.out.rlen]; omega)
          obtain ⟨r1, n1⟩ := hcl.out.row hlt
          have s1 := HC.out.small m hlt
          rw [n1] at G1
          have R1 := Lib.hid r1
          have hqi : Hid (q ≠ i) := fun e => by rw [← hq] at e; unfold rjQ at e; split at e <;> omega
          have hqI : Hid (rjI k q = m) := by show _ = _; rw [← hq]; unfold rjI rjQ; split <;> split <;> omega
          have HRQ := Lib.hid (hR.out q (by rw [← hq]; unfold rjQ; split <;> omega))
          rw [if_neg hqi.out, hqI.out] at HRQ
          have hoa : Hid (∀ r, OffR rs N r → ∀ b' off, rA rs m = some ⟨b', off, none⟩ → b' ≠ r) := fun r h0 b' off e => h0 m hlt b' off e
          have hold : Hid (0 < (cC C m).length → ∀ b' off, rA rs m = some ⟨b', off, none⟩ → b' < w.heap.size) := fun h0 b' off e => rd_blk (HC.out.row hlt).1 h0 e
          have hqn : Hid (rjQ k (m + 1) = q + 1) := by show _ = _; rw [← hq]; unfold rjQ; split <;> split <;> omega
          have hq1 : ((m : Int) == (i : Int)) = false := by simp; omega
          have hq2 : ((m : Int) != (k : Int)) = true := by simp; omega
          have hv := hown.lt
          have hb3 := bl_alloc hbl (.cells #[.slice (rA rs m) (cC C m).length (rC rs m)] 29)
          clear hc r1 n1 hR hq
          generalize rA rs m = A1 at *
          generalize rC rs m = C1 at *
          generalize cC C m = X at *
          go_wp2_with (at_builtin; refine push_R rfl (.tmp 37) (.tmp 42) rfl w.heap.size u7 rk q HCR.out.1.symm rfl (hown.alloc _) wr.heap.size 1 (A1, X.length, C1) rfl (Blk.new _ _ _) (by omega) hb3.size ?_; intro g7 c7 w4 hw7 hw8 hw9 hw10)
          have hcr2 := CR.push (w' := w4) (y := (A1, X.length, C1)) (v' := .slice (some ⟨g7, 0, none⟩) (q + 1) c7) (HCR.out.bl (bl_alloc (Below.refl _ _) (.cells #[.slice A1 X.length C1] 29))) (by rw [HRQ.out]; exact R1.out.bl (bl_alloc (Below.refl _ _) _)) (by rw [HRQ.out, iL_len]) (fun h0 b' off e e2 => by
            rw [HRQ.out, iL_len] at h0
            have h1 := (hv b' e2.symm).1
            have := hold.out h0 b' off e
            omega) hw8 rfl hw9
          have hoff2 : Hid (∀ r, r < w.heap.size → OffR rs N r → OffR (rk ++ [(A1, X.length, C1)]) (q + 1) r) := fun r hr h0 => (hoff.out r hr h0).push HCR.out.1 (hoa.out r h0)
          have hbl4 := Below.grown hb3 hw8 hb3.size (fun r hr => (hv r hr).1)
          go_roundw
          case rel => exact ⟨m + 1, q + 1, _, by omega, by go_num, hqn.out, hw7, hcr2, hbl4, hoff2⟩
          case measure => simp [intOf]; omega
    · obtain rfl : m = N := by omega
      have hqN : q = m - 1 := by rw [← hq]; unfold rjQ; rw [if_pos (by omega)]
      subst hqN
      obtain ⟨a', c', rfl, hac⟩ := owns_slice hown
      go_wp2_with fail
      go_ret
      refine ⟨hbl, a', c', rk, rfl, ⟨by rw [rj_len C hik, if_pos hk], hcr.rows hown (by rw [iC_len, rj_len C hik, if_pos hk]) (fun t ht => by rw [hR.out t ht, iL_len]; exact Nat.le_trans (hsm.out t ht) (by omega)), fun t ht => ?_⟩, fun b off e => ?_, hoff.out⟩
      · have := hR.out t ht
        rw [iC_row] at this
        have h2 := congrArg List.length this
        rw [iL_len, iL_len] at h2
        rw [h2]
        exact hsm.out t ht
      · rcases hac with h1 | ⟨g, h1, _, h3⟩
        · omega
        · rw [h3] at e; simp at e; omega
end Go.Proofs.YtahgffjkkdbjeaaDoor
namespace Go.Proofs.YtahgffjkkdbjeaaDoor
open Go.RowKit
/-- The scaled distances as a table. -/
def gD (d : List Fr) (c m : Nat) : Nat → Nat := fun t => if t / 24 < m ∧ t % 24 < m then dist d c m (t / 24) (t % 24) else 0
theorem gD_at {d : List Fr} {c m i j : Nat} (hm : m ≤ 24) (hi : i < m) (hj : j < m) : gD d c m (i * 24 + j) = dist d c m i j := by
  have e1 : (i * 24 + j) / 24 = i := by omega
  have e2 : (i * 24 + j) % 24 = j := by omega
  rw [gD, e1, e2, if_pos ⟨hi, hj⟩]
theorem gD_le {d : List Fr} {c m : Nat} (h : scaledS m d = .ok c) (hf : FitFr d) (t : Nat) : gD d c m t ≤ 1073741824 := by
  unfold gD
  split
  · rename_i h1; exact dist_le h hf h1.1 h1.2
  · omega
/-- The least average so far: its two clusters, its sum, its pairs. -/
def BS (C : List (List Nat)) (s f : Nat → Nat) (o : Option (Nat × Nat)) (x y : Int) (su pr : Nat) : Prop := match o with
  | none => x = -1 ∧ y = -1 ∧ su = 0 ∧ pr = 0
  | some p => ∃ i j : Nat, i < j ∧ j < C.length ∧ x = i ∧ y = j ∧ hC C i = p.1 ∧ hC C j = p.2 ∧ su = f (p.1 * 24 + p.2) ∧ pr = cnt s p.1 p.2
/-- Neither the slice nor one of its rows lies in the block. -/
def OffC (a : Option Addr) (rs : List Rw) (N : Nat) (row : Option Nat) : Prop := ∀ r, row = some r → (∀ b off, a = some ⟨b, off, none⟩ → b ≠ r) ∧ OffR rs N r
theorem Cls.grown {w w' : World} {a : Option Addr} {N : Nat} {rs : List Rw} {C : List (List Nat)} {row : Option Nat} (h : Cls w a N rs C) (hg : w.grownBy w' row) (ho : OffC a rs N row) : Cls w' a N rs C := by
  refine ⟨h.len, ⟨h.rows.rd.grown hg fun _ b off e e2 => (ho b e2.symm).1 b off e rfl, h.rows.len, fun i hi => ?_⟩, h.small⟩
  obtain ⟨h1, h2⟩ := h.rows.row i hi
  exact ⟨h1.grown hg fun _ b off e e2 => (ho b e2.symm).2 i (by rw [iC_len, h.len] at hi; exact hi) b off e rfl, h2⟩
theorem Cls.fresh {w : World} {a : Option Addr} {N : Nat} {rs : List Rw} {C : List (List Nat)} (h : Cls w a N rs C) (hne : ∀ t, t < N → cC C t ≠ []) (h0 : 0 < N) {g : Nat} (hg : w.heap.size ≤ g) : (∀ b off, a = some ⟨b, off, none⟩ → b ≠ g) ∧ OffR rs N g := by
  refine ⟨fun b off e => ?_, fun t ht b off e => ?_⟩
  · obtain ⟨b', o', e2, hb, _⟩ := rdR h.rows.rd (by rw [h.rlen]; exact h0)
    rw [e] at e2; simp at e2; omega
  · have := rd_blk (h.row ht).1 (List.length_pos_iff.2 (hne t ht)) e
    omega
theorem headD_getD (l : List Nat) : l.headD 0 = l.getD 0 0 := by cases l <;> rfl
theorem keepC {w5 w7 : World} {o : Obj} {row : Option Nat} {b off : Nat} {v : Value} (h2 : (w5.alloc o).grownBy w7 row) (hb : b < w5.heap.size) (hne : ∀ r, row = some r → b ≠ r) (hc : w5.cell? ⟨b, off, none⟩ = some v) : w7.cell? ⟨b, off, none⟩ = some v :=
  h2.cell (((Below.alloc (Below.refl w5.heap.size w5) (Nat.le_refl _) o).cell (p := ⟨b, off, none⟩) hb).trans hc) (fun e => hne b e.symm rfl)
/-- What the loops over the pairs know of a pair. -/
structure PrF (C : List (List Nat)) (s f : Nat → Nat) (D : Nat → Nat → Nat) (i j S P : Nat) : Prop where
  sum : S = btw D (cC C i) (cC C j)
  sumf : S = f (hC C i * 24 + hC C j)
  prs : P = (cC C i).length * (cC C j).length
  cnt : P = cnt s (hC C i) (hC C j)
theorem ClR.pair {n : Nat} {D : Nat → Nat → Nat} {C : List (List Nat)} {s f : Nat → Nat} (h : ClR n D C s f) {i j : Nat} (hij : i < j) (hj : j < C.length) : PrF C s f D i j (btw D (cC C i) (cC C j)) ((cC C i).length * (cC C j).length) :=
  ⟨rfl, (h.tab i j (by omega) hj (by omega)).symm, rfl, by rw [cnt, h.size i (by omega), h.size j hj]⟩
theorem BS.yes {C : List (List Nat)} {s f : Nat → Nat} {D : Nat → Nat → Nat} {o : Option (Nat × Nat)} {i j S P : Nat} (hp : PrF C s f D i j S P) (hij : i < j) (hj : j < C.length) (h : stepB s f o (hC C i, hC C j) = some (hC C i, hC C j)) : BS C s f (stepB s f o (hC C i, hC C j)) i j S P := by
  rw [h]
  exact ⟨i, j, hij, hj, rfl, rfl, rfl, rfl, hp.sumf, hp.cnt⟩
set_option maxRecDepth 100000 in
set_option maxHeartbeats 8000000 in
theorem rmerges_any (a : Option Addr) (n : Int) (N c : Nat) (d : List Fr) (w : World) (hn1 : -9223372036854775808 ≤ n) (hn2 : n ≤ 9223372036854775807) (hd : d.length = N) (hN : N ≤ 1152921504606846976) (hA : Rd w a (fl encFr d)) (hok : FitFr d) :
    Calls Tryd.prog 29 #[.int .i64 n, .slice a N c] w (MgPost w n d) := by
  have HD := Lib.hid hd
  have HK := Lib.hid hok
  clear hd hok
  go_enter Tryd.func29, Tryd.ntmps29
  go_wp2_with fail
  refine (rscaled_any a n N c d _ hn1 hn2 HD.out hN hA HK.out).mono ?_
  rintro e w1 ⟨hb1, ⟨k, hk, rfl⟩ | ⟨m, cm, v, rfl, hm1, hm2, hl, hs, rfl, hown⟩⟩
  · have hs := Lib.hid hk
    have hk0 := scaled_err_ne hk
    clear hk
    go_wp2_with fail
    go_ret2
    exact ⟨hb1, .inl ⟨k, hs.out, rfl⟩⟩
  · have HS := Lib.hid hs
    obtain ⟨ga, gcap, rfl, _⟩ := owns_slice hown
    obtain ⟨g, o, rfl, hgl, hcell⟩ := scK_cells hown hm1
    have hle : Hid (∀ i j, i < m → j < m → w1.cell? ⟨g, o + (i * m + j), none⟩ = some (.int .i64 (dist d cm m i j)) ∧ dist d cm m i j ≤ 1073741824) := fun i j hi hj => ⟨hcell _ (idx_lt rfl hi hj), dist_le hs HK.out hi hj⟩
    have hcmb : cm ≤ 1073741824 ∧ 0 < cm := by
      obtain ⟨_, _, _, hb3, _, hc3, _⟩ := scaled_ok_parts hs
      have := cmA_some (fun i hi => (q_bounds hb3 HK.out i hi).2.1) (Nat.le_refl _) hc3
      exact ⟨this.2.1, this.1⟩
    obtain ⟨hcm1, hcm0⟩ := hcmb
    have HSY : Hid (∀ i j, i < m → j < m → dist d cm m i j = dist d cm m j i) := fun i j hi hj => dist_sym (scaled_ok_parts hs).2.2.2.2.1 hi hj
    obtain ⟨D, hD⟩ : ∃ D, D = dist d cm m := ⟨_, rfl⟩
    have HLE : Hid (∀ i j, i < m → j < m → w1.cell? ⟨g, o + (i * m + j), none⟩ = some (.int .i64 (D i j)) ∧ D i j ≤ 1073741824) := by rw [hD]; exact hle
    obtain ⟨G, hG⟩ : ∃ G, G = gD d cm m := ⟨_, rfl⟩
    have HG1 : Hid (∀ i j, i < m → j < m → G (i * 24 + j) = dist d cm m i j) := fun i j hi hj => by rw [hG]; exact gD_at hm2 hi hj
    have HG2 : Hid (∀ t, G t ≤ 1073741824) := fun t => by rw [hG]; exact gD_le hs HK.out t
    have HSTA : Hid (ClR m D (aloneC m) (aloneS m) G) := ClR.start (fun i j hi hj => by rw [HG1.out i j hi hj, hD]) (fun i j hi hj => by rw [hD]; exact HSY.out i j hi hj)
    have HMS : Hid (m * m = m * m) := rfl
    obtain ⟨M, hM⟩ : ∃ M, M = m * m := ⟨_, rfl⟩
    rw [← hM] at HMS ⊢
    have HM := Lib.hid hM.symm
    clear hcell hs hl hown hle hD hG hM HMS
    go_wp2_with fail
    refine (ralone_any m _ hm2).mono ?_
    rintro e w2 ⟨hb2, a0, c0, rs0, rfl, hcl0, hao, hof⟩
    have HC0 := Lib.hid hcl0
    have HBL2 := Lib.hid hb2
    clear hcl0 hao hof hb2
    go_wp2_with fail
    go_loopw [9, 10] (fun x v wr => ∃ (k q : Nat) (C : List (List Nat)) (rs : List Rw) (a : Option Addr) (c : Nat) (s f : Nat → Nat) (L : List Mg), k < m ∧ k + q = m ∧ x = .slice a q c ∧ Hid (Cls wr a q rs C) ∧ Hid (ClR m D C s f) ∧ Hid (mRun m cm G k = ⟨s, f, L⟩) ∧ wr.ownsRow w1.heap.size 42 5 v k (fl encMg L) ∧ Hid (OffC a rs q v.ownBlock) ∧ Below w1.heap.size w1 wr) (fun x _ _ => (match x with | .slice _ q _ => q | _ => 0))
    case atStart => exact ⟨0, m, aloneC m, rs0, a0, c0, aloneS m, G, [], by omega, by omega, rfl, HC0, HSTA, rfl, World.ownsRow_nil _ _ _ _, (by intro r e; simp [Value.ownBlock] at e), HBL2.out⟩
    case round =>
      obtain ⟨k, q, C, rs, a1, c1, s, f, L, hk, hkq, rfl, hcl, hclr, hrun, hown, hoff, hbl⟩ := hrel
      have HLEN : Hid (C.length = q) := hcl.out.len
      by_cases hq1 : 1 < q
      · have hqd : decide (1 < (q : Int)) = true := by simp; omega
        have hINV := mRun_inv (c := cm) (g := G) hm2 HG2.out k hk
        rw [hrun.out] at hINV
        have HBND := Lib.hid (hINV.bound (by omega))
        have HINV := Lib.hid hINV
        have HPK := Lib.hid (mRun_pick (n := m) (c := cm) (g := G) (k := k) (by rw [hrun.out]; exact hINV) (by omega))
        clear hINV
        obtain ⟨ob, oo, rfl, hobl, hoc⟩ := rdR hcl.out.rows.rd (by rw [hcl.out.rlen]; omega)
        have HOC : Hid (∀ i, i < q → wr.cell? ⟨ob, oo + i, none⟩ = some (.slice (rA rs i) (cC C i).length (rC rs i))) := fun i hi => by rw [hoc i (by rw [hcl.out.rlen]; exact hi), (hcl.out.row hi).2]
        have HKC : Hid (∀ i j, i < m → j < m → wr.cell? ⟨g, o + (i * m + j), none⟩ = some (.int .i64 (D i j)) ∧ D i j ≤ 1073741824) := fun i j hi hj => ⟨(hbl.cell (p := ⟨g, o + (i * m + j), none⟩) hgl).trans (HLE.out i j hi hj).1, (HLE.out i j hi hj).2⟩
        have HTOT : Hid (∀ i, i < q → (cC C i).length ≤ 24) := fun i hi => hcl.out.small i hi
        have HOWN := Lib.hid hown
        have HBL := Lib.hid hbl
        clear hoc hown hbl
        obtain ⟨wo, rfl⟩ : ∃ wo : World, wo = wr := ⟨_, rfl⟩
        have HST0 : Hid (BS C s f (bestP s f (prs s m (hX C m 0))) (-1) (-1) 0 0) := by show BS _ _ _ _ _ _ _ _; rw [hclr.out.pre_zero]; exact ⟨rfl, rfl, rfl, rfl⟩
        go_wp2_with fail
        go_loopw [15, 11, 12, 13, 14] (fun x sx sy ss sp wr => ∃ (i : Nat) (X Y : Int) (su pr : Nat), i ≤ q ∧ x = .int .i64 i ∧ sx = .int .i64 X ∧ sy = .int .i64 Y ∧ ss = .int .i64 su ∧ sp = .int .i64 pr ∧ Hid (BS C s f (bestP s f (prs s m (hX C m i))) X Y su pr) ∧ ∃ nq, wr = wo.drewN nq) (fun x _ _ _ _ _ => q - (intOf x).toNat)
        case atStart => exact ⟨0, -1, -1, 0, 0, by omega, rfl, rfl, rfl, rfl, rfl, HST0, 0, rfl⟩
        case round =>
          obtain ⟨i, X, Y, su, pr, hi, rfl, rfl, rfl, rfl, rfl, hbs, nq0, rfl⟩ := hrel
          by_cases hlt : i < q
          · have hbs1 : Hid (BS C s f (bestP s f (preP s C m i (i + 1))) X Y su pr) := by show BS _ _ _ _ _ _ _ _; rw [hclr.out.pre_first (by rw [HLEN.out]; exact hlt)]; exact hbs.out
            clear hbs
            go_wp2_with fail
            go_loopw [16, 11, 12, 13, 14] (fun x sx sy ss sp wr => ∃ (j : Nat) (X Y : Int) (su pr : Nat), i < j ∧ j ≤ q ∧ x = .int .i64 j ∧ sx = .int .i64 X ∧ sy = .int .i64 Y ∧ ss = .int .i64 su ∧ sp = .int .i64 pr ∧ Hid (BS C s f (bestP s f (preP s C m i j)) X Y su pr) ∧ ∃ nq, wr = wo.drewN nq) (fun x _ _ _ _ _ => q - (intOf x).toNat)
            case atStart => exact ⟨i + 1, X, Y, su, pr, by omega, by omega, by go_num, rfl, rfl, rfl, rfl, hbs1, nq0, rfl⟩
            case round =>
              clear hbs1
              obtain ⟨j, X, Y, su, pr, hij, hj, rfl, rfl, rfl, rfl, rfl, hbs, nq1, rfl⟩ := hrel
              by_cases hjq : j < q
              · have G1 := HOC.out i hlt
                have G2 := HOC.out j hjq
                obtain ⟨r1, _⟩ := hcl.out.row hlt
                obtain ⟨r2, _⟩ := hcl.out.row hjq
                have t1 := HTOT.out i hlt
                have t2 := HTOT.out j hjq
                have HPF := Lib.hid (hclr.out.pair hij (by rw [HLEN.out]; exact hjq))
                have H64 : Hid (∀ n1 n2, Calls Tryd.prog 64 #[.slice (some ⟨g, o, none⟩) M gcap, .int .i64 m, .slice (rA rs i) (cC C i).length (rC rs i), .slice (rA rs j) (cC C j).length (rC rs j)] (wo.drewN (n1 + n2)) fun e w' => e = .returned (.int .i64 (btw D (cC C i) (cC C j) : Nat)) ∧ ∃ n, w' = wo.drewN (n1 + n)) := fun n1 n2 =>
                  (rbetween_any g o m M gcap _ _ _ _ _ _ D (cC C i) (cC C j) (wo.drewN (n1 + n2)) HM.out hm2 (fun i j hi hj => HKC.out i j hi hj) rfl rfl t1 t2 (fun p hp => hclr.out.lt i (by rw [HLEN.out]; exact hlt) p hp) (fun p hp => hclr.out.lt j (by rw [HLEN.out]; exact hjq) p hp) (r1.drewN _) (r2.drewN _)).mono fun e w' ⟨h1, n3, h2⟩ => ⟨h1, n2 + n3, by rw [h2]; simp [Nat.add_assoc]⟩
                have HNX := Lib.hid (hclr.out.pre_next hij (by rw [HLEN.out]; exact hjq))
                have b1 := HBND.out (hC C i * 24 + hC C j)
                rw [← HPF.out.sumf] at b1
                have b2 : (cC C i).length * (cC C j).length ≤ 576 := Nat.mul_le_mul t1 t2
                obtain ⟨S, hS⟩ : ∃ S, btw D (cC C i) (cC C j) = S := ⟨_, rfl⟩
                obtain ⟨Pn, hPn⟩ : ∃ P, (cC C i).length * (cC C j).length = P := ⟨_, rfl⟩
                rw [hS, hPn] at HPF
                rw [hS] at H64 b1
                have w1' := wrap_nat (((cC C i).length : Int) * ((cC C j).length : Int)) Pn (by rw [← hPn]; simp) (by omega)
                rw [hPn] at b2
                have HII := Lib.hid (show i < j ∧ j < C.length from ⟨hij, by rw [HLEN.out]; exact hjq⟩)
                clear r1 r2 hS hPn
                generalize (cC C i).length = l1 at *
                generalize (cC C j).length = l2 at *
                generalize rA rs i = A1 at *
                generalize rA rs j = A2 at *
                generalize rC rs i = C1 at *
                generalize rC rs j = C2 at *
                go_upto_region 15 with fail
                go_quiet ((go_at_call 64; exact H64.out _ _))
                rcases ho : bestP s f (preP s C m i j) with _ | p
                · have hbs2 := hbs.out
                  rw [ho] at hbs2
                  obtain ⟨rfl, rfl, rfl, rfl⟩ := hbs2
                  have hbs3 : Hid (BS C s f (bestP s f (preP s C m i (j + 1))) i j S Pn) := by
                    show BS _ _ _ _ _ _ _ _
                    rw [HNX.out, bestP_snoc, ho]
                    exact BS.yes HPF.out HII.out.1 HII.out.2 rfl
                  clear ho hbs
                  go_wp2_with fail
                  go_roundw
                  case rel => exact ⟨j + 1, i, j, S, Pn, by omega, by omega, by go_num, rfl, rfl, rfl, rfl, hbs3, nq1 + nq, by simp⟩
                  case measure => simp [intOf]; omega
                · have hbs2 := hbs.out
                  rw [ho] at hbs2
                  obtain ⟨i1, j1, e1, e2, rfl, rfl, e3, e4, e5, e6⟩ := hbs2
                  have b3 : su ≤ 9007199254740992 := by rw [e5]; exact HBND.out _
                  have b4 : pr ≤ 576 := by rw [e6]; exact cnt_le (fun k => Nat.le_trans (HINV.out.le k) hm2) _ _
                  have b5 : S * pr ≤ 9007199254740992 * 576 := Nat.mul_le_mul b1 b4
                  have b6 : su * Pn ≤ 9007199254740992 * 576 := Nat.mul_le_mul b3 b2
                  have hnb : Hid (nearB s f (hC C i) (hC C j) p.1 p.2 = decide (S * pr < su * Pn)) := by
                    show _ = _
                    rw [nearB, ← HPF.out.sumf, ← HPF.out.cnt, ← e5, ← e6]
                  obtain ⟨V1, hV1⟩ : ∃ V, S * pr = V := ⟨_, rfl⟩
                  obtain ⟨V2, hV2⟩ : ∃ V, su * Pn = V := ⟨_, rfl⟩
                  have w2' := wrap_nat ((S : Int) * (pr : Int)) V1 (by rw [← hV1]; simp) (by omega)
                  have w3' := wrap_nat ((su : Int) * (Pn : Int)) V2 (by rw [← hV2]; simp) (by omega)
                  rw [hV1, hV2] at hnb
                  have hsb : Hid (bestP s f (preP s C m i (j + 1)) = if nearB s f (hC C i) (hC C j) p.1 p.2 = true then some (hC C i, hC C j) else some p) := by
                    show _ = _
                    rw [HNX.out, bestP_snoc, ho]; rfl
                  have hbo : Hid (BS C s f (some p) i1 j1 su pr) := ⟨i1, j1, e1, e2, rfl, rfl, e3, e4, e5, e6⟩
                  have hi0 : decide ((i1 : Int) < 0) = false := by simp
                  clear ho hbs e1 e2 e3 e4 e5 e6 b3 b4 b5 b6 hV1 hV2
                  by_cases hc : V1 < V2
                  · have hbs3 : Hid (BS C s f (bestP s f (preP s C m i (j + 1))) i j S Pn) := by
                      show BS _ _ _ _ _ _ _ _
                      rw [hsb.out, hnb.out, decide_eq_true hc, if_pos rfl]
                      exact ⟨i, j, HII.out.1, HII.out.2, rfl, rfl, rfl, rfl, HPF.out.sumf, HPF.out.cnt⟩
                    go_wp2_with fail
                    go_roundw
                    case rel => exact ⟨j + 1, i, j, S, Pn, by omega, by omega, by go_num, rfl, rfl, rfl, rfl, hbs3, nq1 + nq, by simp⟩
                    case measure => simp [intOf]; omega
                  · have hbs3 : Hid (BS C s f (bestP s f (preP s C m i (j + 1))) i1 j1 su pr) := by
                      show BS _ _ _ _ _ _ _ _
                      rw [hsb.out, hnb.out, decide_eq_false hc, if_neg (by decide)]
                      exact hbo.out
                    go_wp2_with fail
                    go_roundw
                    case rel => exact ⟨j + 1, i1, j1, su, pr, by omega, by omega, by go_num, rfl, rfl, rfl, rfl, hbs3, nq1 + nq, by simp⟩
                    case measure => simp [intOf]; omega
              · have hjq2 : j = q := by omega
                have hbs2 : Hid (BS C s f (bestP s f (prs s m (hX C m (i + 1)))) X Y su pr) := by
                  show BS _ _ _ _ _ _ _ _
                  have := hclr.out.pre_last (i := i) (by rw [HLEN.out]; exact hlt)
                  rw [HLEN.out, ← hjq2] at this
                  rw [← this]; exact hbs.out
                clear hbs
                go_wp2_with fail
                go_roundw
                case rel => exact ⟨i + 1, X, Y, su, pr, by omega, by go_num, rfl, rfl, rfl, rfl, hbs2, nq1, rfl⟩
                case measure => simp [intOf]; omega
          · obtain rfl : i = q := by omega
            have hbs2 := hbs.out
            have hpa : prs s m (hX C m i) = prs s m m := by rw [← HLEN.out]; exact pre_all
            obtain ⟨hp1, hp2⟩ := HPK.out
            rw [hrun.out] at hp1 hp2
            simp only at hp1 hp2
            rw [hpa, hp1] at hbs2
            obtain ⟨i1, j1, e1, e2, rfl, rfl, e3, e4, e5, e6⟩ := hbs2
            rw [HLEN.out] at e2
            have HRN : Hid (mRun m cm G (k + 1) = ⟨joinS s (hC C i1) (hC C j1), jw f (hC C i1) (hC C j1) 24, L ++ [mgOf cm s f (hC C i1, hC C j1)]⟩) := by
              show _ = _
              rw [mRun, hrun.out]
              simp only
              rw [e3, e4]
            rw [← e3, ← e4] at e5 e6
            have hii : i1 < i := by omega
            have hne := hclr.out.ne
            rw [HLEN.out] at hne
            have z1 := hclr.out.size i1 (by rw [HLEN.out]; exact hii)
            have z2 := hclr.out.size j1 (by rw [HLEN.out]; exact e2)
            have h24 : (cC C i1).length + (cC C j1).length ≤ 24 := by
              rw [← z1, ← z2]
              have h1 := sumN_two s (hclr.out.inc i1 j1 e1 (by rw [HLEN.out]; exact e2)) (n := m) (hclr.out.hlt (by rw [HLEN.out]; exact e2))
              have h2 := HINV.out.sum
              omega
            obtain ⟨w3, hw3⟩ : ∃ w3, w3 = wo.drewN nq0 := ⟨_, rfl⟩
            have hcl3 : Cls w3 (some ⟨ob, oo, none⟩) i rs C := by rw [hw3]; exact hcl.out.bl (bl_drewN (Below.refl _ _) _)
            have HB3 : Hid (Below w1.heap.size w1 w3) := by rw [hw3]; exact bl_drewN HBL.out _
            have HOW3 : Hid (w3.ownsRow w1.heap.size 42 5 u10 k (fl encMg L)) := by rw [hw3]; exact HOWN.out
            have G1 : w3.cell? ⟨ob, oo + i1, none⟩ = some (.slice (rA rs i1) (cC C i1).length (rC rs i1)) := by rw [hw3]; exact HOC.out i1 hii
            have G2 : w3.cell? ⟨ob, oo + j1, none⟩ = some (.slice (rA rs j1) (cC C j1).length (rC rs j1)) := by rw [hw3]; exact HOC.out j1 e2
            have hob3 : ob < w3.heap.size := by rw [hw3]; exact hobl
            rw [← hw3]
            obtain ⟨b1, o1, h1a, h1b, hc1⟩ := rdI (hcl3.row hii).1 (by rw [iL_len]; exact List.length_pos_iff.2 (hne i1 hii))
            obtain ⟨b2, o2, h2a, h2b, hc2⟩ := rdI (hcl3.row e2).1 (by rw [iL_len]; exact List.length_pos_iff.2 (hne j1 e2))
            have X1 := hc1 0 (by rw [iL_len]; exact List.length_pos_iff.2 (hne i1 hii))
            have X2 := hc2 0 (by rw [iL_len]; exact List.length_pos_iff.2 (hne j1 e2))
            rw [iL_at, ← headD_getD, Nat.add_zero] at X1 X2
            have f0 : ∀ r, u10.ownBlock = some r → ob ≠ r ∧ b1 ≠ r ∧ b2 ≠ r := fun r hr => ⟨(hoff.out r hr).1 ob oo rfl, (hoff.out r hr).2 i1 hii b1 o1 h1a, (hoff.out r hr).2 j1 e2 b2 o2 h2a⟩
            rw [h1a] at G1
            rw [h2a] at G2
            have hclr8 := hclr.out.next hm2 e1 (by rw [HLEN.out]; exact e2)
            rw [HLEN.out] at hclr8
            have b3 : su ≤ 9007199254740992 := by rw [e5]; exact HBND.out _
            have b4 : pr ≤ 576 := by rw [e6]; exact cnt_le (fun k => Nat.le_trans (HINV.out.le k) hm2) _ _
            have b5 : 0 < pr := by rw [e6]; exact Nat.mul_pos (hclr.out.pos (by rw [HLEN.out]; exact hii)) (hclr.out.pos (by rw [HLEN.out]; exact e2))
            have b6 : pr * cm ≤ 576 * 1073741824 := Nat.mul_le_mul b4 hcm1
            have b7 : 0 < pr * cm := Nat.mul_pos b5 hcm0
            obtain ⟨PC, hPC⟩ : ∃ P, pr * cm = P := ⟨_, rfl⟩
            have wP := wrap_nat ((pr : Int) * (cm : Int)) PC (by rw [← hPC]; simp) (by omega)
            obtain ⟨z, hz⟩ : ∃ z, (cC C i1).length + (cC C j1).length = z := ⟨_, rfl⟩
            have wZ := wrap_nat (((cC C i1).length : Int) + ((cC C j1).length : Int)) z (by rw [← hz]; simp) (by omega)
            obtain ⟨ln, hln⟩ : ∃ x, x = su / Nat.gcd su PC := ⟨_, rfl⟩
            obtain ⟨ld, hld⟩ : ∃ x, x = PC / Nat.gcd su PC := ⟨_, rfl⟩
            have HMG : Hid (mgOf cm s f (hC C i1, hC C j1) = (((hC C i1 : Int), (hC C j1 : Int)), ((ln : Int), (ld : Int)), (z : Int))) := by
              show _ = _
              rw [mgOf]
              simp only
              rw [← e5, ← e6, z1, z2, hz, hPC, hln, hld]
              simp [lowF, lowN, lowD]
            rw [hPC] at b6 b7
            have H65 : Hid (∀ W, Calls Tryd.prog 65 #[.int .i64 su, .int .i64 PC] W fun e w' => e = .returned (.agg #[.int .i64 ln, .int .i64 ld]) ∧ Below W.heap.size W w') := fun W => rlow_q hln hld (by omega) (by omega) b7
            have HK4 : Hid (∀ W, Below w3.heap.size w3 W → W.cell? ⟨ob, oo + i1, none⟩ = some (.slice (some ⟨b1, o1, none⟩) (cC C i1).length (rC rs i1)) ∧ W.cell? ⟨ob, oo + j1, none⟩ = some (.slice (some ⟨b2, o2, none⟩) (cC C j1).length (rC rs j1)) ∧ W.cell? ⟨b1, o1, none⟩ = some (.int .i64 (hC C i1 : Nat)) ∧ W.cell? ⟨b2, o2, none⟩ = some (.int .i64 (hC C j1 : Nat)) ∧ w3.heap.size ≤ W.heap.size) := fun W hW =>
              ⟨(hW.cell (p := ⟨ob, oo + i1, none⟩) hob3).trans G1, (hW.cell (p := ⟨ob, oo + j1, none⟩) hob3).trans G2, (hW.cell (p := ⟨b1, o1, none⟩) h1b).trans X1, (hW.cell (p := ⟨b2, o2, none⟩) h2b).trans X2, hW.size⟩
            have Y1 : w3.cell? ⟨b1, o1, none⟩ = some (.int .i64 (hC C i1 : Nat)) := X1
            have Y2 : w3.cell? ⟨b2, o2, none⟩ = some (.int .i64 (hC C j1 : Nat)) := X2
            clear X1 X2
            have HLL : Hid (mRun_len m cm G k = mRun_len m cm G k) := rfl
            have HLK : Hid (k = L.length) := by
              have := mRun_len m cm G k
              rw [hrun.out] at this
              exact this.symm
            have HF0 := Lib.hid f0
            have HCL3 := Lib.hid hcl3
            have HNE := Lib.hid hne
            have HJ : Hid (∀ W, Cls W (some ⟨ob, oo, none⟩) i rs C → Calls Tryd.prog 66 #[.slice (some ⟨ob, oo, none⟩) i c1, .int .i64 i1, .int .i64 j1] W fun e w' => Below W.heap.size W w' ∧ ∃ a' c' rs', e = .returned (.slice a' (i - 1) c') ∧ Cls w' a' (i - 1) rs' (rj C i1 j1 i) ∧ (∀ b off, a' = some ⟨b, off, none⟩ → W.heap.size ≤ b) ∧ ∀ r, r < W.heap.size → OffR rs i r → OffR rs' (i - 1) r) := fun W h => rjoin_any (some ⟨ob, oo, none⟩) i c1 i1 j1 rs C W e1 e2 (by omega) h hne h24
            have HCLR8 := Lib.hid hclr8
            have hL1 : 0 < (cC C i1).length := List.length_pos_iff.2 (hne i1 hii)
            have hL2 : 0 < (cC C j1).length := List.length_pos_iff.2 (hne j1 e2)
            clear hbs hpa hp1 hp2 e3 e4 e5 e6 z1 z2 hw3 hc1 hc2 h1a h2a hne hcl3 hclr8 hPC hz hln hld h24 f0 HLL hrun
            generalize hA1 : hC C i1 = VA at *
            generalize hB1 : hC C j1 = VB at *
            generalize hl1 : (cC C i1).length = l1 at *
            generalize hl2 : (cC C j1).length = l2 at *
            generalize rC rs i1 = cc1 at *
            generalize rC rs j1 = cc2 at *
            clear hA1 hB1 hl1 hl2
            go_upto_region 18 with fail
            go_region_held3 (fun w' => w'.cell? ⟨ob, oo + i1, none⟩ = some (.slice (some ⟨b1, o1, none⟩) l1 cc1) ∧ w'.cell? ⟨ob, oo + j1, none⟩ = some (.slice (some ⟨b2, o2, none⟩) l2 cc2) ∧ w'.cell? ⟨b1, o1, none⟩ = some (.int .i64 VA) ∧ w'.cell? ⟨b2, o2, none⟩ = some (.int .i64 VB)) (go_keep) ((first
              | (go_at_call 65; refine (H65.out _).mono ?_; rintro e w5 ⟨rfl, hb5⟩; have hB5 := bl_trans (a := w3) (by exact bl_drewN (Below.refl _ _) 1) hb5; obtain ⟨k0, k1, k2, k3, k4⟩ := HK4.out _ hB5; have HB5 := Lib.hid hB5; clear hb5 hB5)
              | (refine spush_Mg (by rfl) (.tmp 85) (.tmp 115) (by rfl) w1.heap.size u10 L k HLK.out (by rfl) (by exact (owns_below HOW3.out HB5.out).alloc _) w5.heap.size 1 (((VA : Int), (VB : Int)), ((ln : Int), (ld : Int)), (z : Int)) (by rfl) (by exact Blk.new w5 _ _) (by omega) (by have := HB3.out.size; have := HB5.out.size; simp; omega) ?_; intro g7 c7 w7 h1 h2 h3 h4; have m0 := keepC h2 (by omega) (fun r hr => (HF0.out r hr).1) k0; have m1 := keepC h2 (by omega) (fun r hr => (HF0.out r hr).1) k1; have m2 := keepC h2 (by omega) (fun r hr => (HF0.out r hr).2.1) k2; have m3 := keepC h2 (by omega) (fun r hr => (HF0.out r hr).2.2) k3)))
            have hba := HB5.out.alloc HB5.out.size (.cells #[.int .i64 VA, .int .i64 VB, .int .i64 ln, .int .i64 ld, .int .i64 z] 42)
            have hcl7 : Cls w7 (some ⟨ob, oo, none⟩) i rs C := (HCL3.out.bl hba).grown h2 hoff.out
            have hof7 : OffC (some ⟨ob, oo, none⟩) rs i (some g7) := by
              rcases h3 with e | e
              · rw [← e]; exact hoff.out
              · intro r hr
                obtain rfl := Option.some.inj hr
                exact (HCL3.out.bl hba).fresh HNE.out (by omega) (by rw [e]; exact Nat.le_refl _)
            have hb7 : Below w1.heap.size w1 w7 := ((HB3.out.trans (hba.mono HB3.out.size))).grown h2 (Nat.le_trans HB3.out.size hba.size) (fun r hr => (HOW3.out.lt r hr).1)
            have H7 := Lib.hid h1
            have H7G := Lib.hid h4
            have HOF7 := Lib.hid hof7
            have HCL7 := Lib.hid hcl7
            have HB7 := Lib.hid hb7
            clear h1 h2 h3 h4 m0 m1 m2 m3 hba hcl7 hof7 hb7 k0 k1 k2 k3 k4
            go_wp2_with fail
            refine (HJ.out w7 HCL7.out).mono ?_
            rintro e w8 ⟨hb8, a8, c8, rs8, rfl, hcl8, ha8, ho8⟩
            have hof8 : Hid (OffC a8 rs8 (i - 1) (some g7)) := fun r hr => by
              obtain rfl := Option.some.inj hr
              exact ⟨fun b off e => by have := ha8 b off e; have := H7G.out; omega, ho8 g7 H7G.out (HOF7.out g7 rfl).2⟩
            have hb9 := HB7.out.trans (hb8.mono HB7.out.size)
            have hown8 := owns_below H7.out hb8
            rw [← HMG.out] at hown8
            have HCL8 := Lib.hid hcl8
            clear hb8 ha8 ho8 hcl8
            go_wp2_with fail
            go_roundw
            case rel => exact ⟨k + 1, i - 1, _, rs8, a8, c8, _, _, _, by omega, by omega, rfl, HCL8, HCLR8, HRN, hown8, hof8, hb9⟩
            case measure => simp; omega
      · have hqd : decide (1 < (q : Int)) = false := by simp; omega
        have e : k = m - 1 := by omega
        have HE := Lib.hid e
        have hb := hb1.trans (hbl.mono hb1.size)
        clear e
        rw [HE.out] at hown
        have hrr := hrun.out
        rw [HE.out] at hrr
        have HRR := Lib.hid (show (mRun m cm G (m - 1)).l = L by rw [hrr])
        clear hrr
        rw [← HRR.out] at hown
        have HOWN := Lib.hid (owns_mono hown hb1.size)
        clear hown
        go_wp2_with fail
        go_ret2
        exact ⟨hb, .inr ⟨m, cm, _, G, rfl, hm1, hm2, HS.out, rfl, HOWN.out, HG1.out, HG2.out⟩⟩
end Go.Proofs.YtahgffjkkdbjeaaDoor
