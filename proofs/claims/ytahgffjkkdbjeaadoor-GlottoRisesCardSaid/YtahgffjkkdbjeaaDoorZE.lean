/- The document's Shares at every input. The body of the statement GlottoShares. The statement GlottoShares' walk. The statement GlottoShares' walk at up to 300 rows. -/
import Derived.Test.YtahgffjkkdbjeaaDoorZ8
import Derived.Test.YtahgffjkkdbjeaaDoorZ1
import Derived.Test.YtahgffjkkdbjeaaDoorZC
namespace Go.Proofs.YtahgffjkkdbjeaaDoor
open Go.RowKit
/-- The shares of the first m pairs. -/
def shN (L : List (List Int)) (n m : Nat) : List Fr := (List.range m).map fun k => shareF L (k / n) (k % n)
theorem shN_len (L : List (List Int)) (n m : Nat) : (shN L n m).length = m := by simp [shN]
theorem shN_next (L : List (List Int)) {n a b : Nat} (hb : b < n) : shN L n (a * n + b) ++ [shareF L a b] = shN L n (a * n + (b + 1)) := by
  have d1 : (a * n + b) / n = a := by rw [Nat.mul_comm, Nat.mul_add_div (by omega), Nat.div_eq_of_lt (by omega), Nat.add_zero]
  have d2 : (a * n + b) % n = b := by rw [Nat.mul_comm, Nat.mul_add_mod, Nat.mod_eq_of_lt (by omega)]
  rw [← Nat.add_assoc, shN, shN, List.range_succ, List.map_append]
  simp [d1, d2]
theorem under_get {l : List Int} {k : Nat} (hk : k < l.length) (h : iA l k < -1) : l.any under = true := by
  rw [List.any_eq_true]
  refine ⟨l[k], List.getElem_mem hk, ?_⟩
  have : iA l k = l[k] := by simp [iA, hk]
  rw [this] at h
  simpa [under] using h
theorem under_none {l : List Int} (h : ∀ k, k < l.length → ¬ iA l k < -1) : l.any under = false := by
  rw [List.any_eq_false]
  intro x hx
  obtain ⟨k, hk, rfl⟩ := List.getElem_of_mem hx
  have h1 := h k hk
  have : iA l k = l[k] := by simp [iA, hk]
  rw [this] at h1
  simpa [under] using h1
theorem _root_.Go.World.ownsRow.drewNo {w : World} {base e k : Nat} {v : Value} {n : Nat} {cs : List Value} (h : w.ownsRow base e k v n cs) (m : Nat) : (w.drewN m).ownsRow base e k v n cs := h
set_option maxRecDepth 100000 in
set_option maxHeartbeats 4000000 in
theorem rshares_any (a : Option Addr) (N c : Nat) (rs : List Rw) (L : List (List Int)) (w : World) (hn : L.length = N) (hN : N ≤ 1152921504606846976) (hR : Rows w a rs L) :
    Calls Tryd.prog 36 #[.slice a N c] w (ShPost w L) := by
  have HR := Lib.hid hR
  have HN := Lib.hid hn
  have hlr := hR.len
  have hA := hR.rd
  rw [hn] at hlr
  have HLR := Lib.hid hlr
  have HLN : Hid (∀ i, i < N → rN rs i = (rwk L i).length) := fun i hi => (hR.row i (by rw [hn]; exact hi)).2.1
  have HB0 : Hid (∀ i, i < N → rN rs i ≤ 1152921504606846976) := fun i hi => (hR.row i (by rw [hn]; exact hi)).2.2
  clear hR hn hlr
  by_cases h1 : 256 < N
  · have hs := Lib.hid (show sharesE L = .error 12 by rw [sharesE, if_pos (.inl (by rw [HN.out]; exact h1))])
    have hd1 : decide (256 < (N : Int)) = true := by simp; omega
    go_enter Tryd.func36, Tryd.ntmps36
    go_wp2_with fail
    go_ret2
    exact ⟨Below.refl _ _, .inl ⟨12, hs.out, rfl⟩⟩
  · have hd1 : decide (256 < (N : Int)) = false := by simp; omega
    have h1' : N ≤ 256 := by omega
    have HLong : Hid (∀ i, i < N → 24 < rN rs i → sharesE L = .error 12) := fun i hi h => by
      have hi2 : i < L.length := by rw [HN.out]; exact hi
      have hany : L.any longL = true := by
        rw [List.any_eq_true]
        refine ⟨L[i], List.getElem_mem hi2, ?_⟩
        have : rwk L i = L[i] := by simp [rwk, hi2]
        rw [HLN.out i hi, this] at h
        simpa [longL] using h
      rw [sharesE, if_pos (.inr hany)]
    have HShort : Hid ((∀ i, i < N → ¬ 24 < rN rs i) → L.any longL = false) := fun h => by
      rw [List.any_eq_false]
      intro x hx
      obtain ⟨i, hi, rfl⟩ := List.getElem_of_mem hx
      have h2 := h i (by rw [← HN.out]; exact hi)
      have : rwk L i = L[i] := by simp [rwk, hi]
      rw [HLN.out i (by rw [← HN.out]; exact hi), this] at h2
      simpa [longL] using h2
    go_enter Tryd.func36, Tryd.ntmps36
    go_wp2_with fail
    go_loopw [4] (fun x wr => ∃ k : Nat, k ≤ N ∧ x = .int .i64 k ∧ Hid (∀ i, i < k → ¬ 24 < rN rs i) ∧ wr = w) (fun x _ => N - (intOf x).toNat)
    case atStart => exact ⟨0, by omega, rfl, fun i h => absurd h (by omega), rfl⟩
    case round =>
      obtain ⟨k, hk, rfl, hsh, rfl⟩ := hrel
      by_cases hlt : k < N
      · obtain ⟨b, o, rfl, _, hc⟩ := rdR hA (by rw [HLR.out]; omega)
        have G := hc k (by rw [HLR.out]; omega)
        have hlo := Lib.hid (HLong.out k hlt)
        have hb0 := HB0.out k hlt
        have hnx : Hid (¬ 24 < rN rs k → ∀ i, i < k + 1 → ¬ 24 < rN rs i) := fun h i hi => by
          by_cases e : i = k
          · rw [e]; exact h
          · exact hsh.out i (by omega)
        clear hc
        generalize rN rs k = n1 at *
        by_cases hl : 24 < n1
        · have hd : decide (24 < (n1 : Int)) = true := by simp; omega
          have hx := Lib.hid (hlo.out hl)
          go_wp2_with fail
          go_ret2
          exact ⟨Below.refl _ _, .inl ⟨12, hx.out, rfl⟩⟩
        · have hd : decide (24 < (n1 : Int)) = false := by simp; omega
          have hnx2 := Lib.hid (hnx.out hl)
          go_wp2_with fail
          go_roundw
          case rel => exact ⟨k + 1, by omega, by go_num, hnx2, by trivial⟩
          case measure => simp [intOf]; omega
      · have hnl := Lib.hid (HShort.out (fun i hi => hsh.out i (by omega)))
        have HE2 : Hid (∀ k, k < N → ¬ RowOk L k → sharesE L = .error 2) := fun k hk h => by
          rw [sharesE, if_neg (by rw [HN.out, hnl.out]; rintro (h | h); exact h1 h; cases h), if_pos (fun h3 => h (h3 k (by rw [HN.out]; exact hk)))]
        have HEO : Hid ((∀ i, i < N → RowOk L i) → sharesE L = .ok (rwk L 0).length) := fun h => by
          rw [sharesE, if_neg (by rw [HN.out, hnl.out]; rintro (h | h); exact h1 h; cases h), if_neg (fun h3 => h3 fun i hi => h i (by rw [← HN.out]; exact hi))]
        have H24 : Hid (∀ i, i < N → rN rs i ≤ 24) := fun i hi => by have := hsh.out i (by omega); omega
        clear hsh
        have hw0 : ∃ nq, wr = wr.drewN nq := ⟨0, rfl⟩
        obtain ⟨w, rfl⟩ : ∃ w : World, w = wr := ⟨_, rfl⟩
        go_wp2_with fail
        go_loopw [5, 6] (fun x _ wr => ∃ k : Nat, k ≤ N ∧ x = .int .i64 k ∧ Hid (∀ i, i < k → RowOk L i) ∧ ∃ nq, wr = w.drewN nq) (fun x _ _ => N - (intOf x).toNat)
        case atStart => exact ⟨0, by omega, rfl, fun i h => absurd h (by omega), 0, rfl⟩
        case round =>
          obtain ⟨k2, hk2, rfl, hok, nq0, rfl⟩ := hrel
          clear hw0
          by_cases hlt2 : k2 < N
          · obtain ⟨b, o, rfl, _, hc⟩ := rdR hA (by rw [HLR.out]; omega)
            have G := hc k2 (by rw [HLR.out]; omega)
            have G0 := hc 0 (by rw [HLR.out]; omega)
            rw [Nat.add_zero] at G0
            have hr1 := Lib.hid ((HR.out.row k2 (by rw [HN.out]; exact hlt2)).1)
            have hl1 := Lib.hid (HLN.out k2 hlt2)
            have HRO : Hid (RowOk L k2 ↔ rN rs k2 = rN rs 0 ∧ (rwk L k2).any under = false) := by show _ ↔ _; rw [HLN.out k2 hlt2, HLN.out 0 (by omega)]; rfl
            have HE := Lib.hid (HE2.out k2 hlt2)
            have HNX : Hid (RowOk L k2 → ∀ i, i < k2 + 1 → RowOk L i) := fun h i hi => by
              by_cases e : i = k2
              · rw [e]; exact h
              · exact hok.out i (by omega)
            have q1 := H24.out k2 hlt2
            have q0 := H24.out 0 (by omega)
            clear hc
            generalize rN rs k2 = n1 at *
            generalize rN rs 0 = n0 at *
            generalize rC rs k2 = cc1 at *
            generalize rC rs 0 = cc0 at *
            by_cases e : n1 = n0
            · have hq : ((n1 : Int) != (n0 : Int)) = false := by simp; omega
              have EN := Lib.hid e
              clear e
              go_wp2_with fail
              go_quiet (fail)
              go_wp2_with fail
              obtain ⟨wo, hwo⟩ : ∃ wo : World, wo = (w.drewN nq0).drewN nq := ⟨_, rfl⟩
              have hwd : Hid (∃ nq, wo = w.drewN nq) := ⟨nq0 + nq, by rw [hwo]; simp⟩
              have hr2 : Rd wo (rA rs k2) (fl encI (rwk L k2)) := by rw [hwo]; exact (hr1.out.drewN nq0).drewN nq
              have G2 : wo.cell? ⟨b, o + k2, none⟩ = some (.slice (rA rs k2) n1 cc1) := by rw [hwo]; exact G
              rw [← hwo]
              have HR2 := Lib.hid hr2
              clear hwo hr2 G G0
              go_loopw [6] (fun x wr => ∃ j : Nat, j ≤ n1 ∧ x = .int .i64 j ∧ Hid (∀ i, i < j → ¬ iA (rwk L k2) i < -1) ∧ wr = wo) (fun x _ => n1 - (intOf x).toNat)
              case atStart => exact ⟨0, by omega, rfl, fun i h => absurd h (by omega), rfl⟩
              case round =>
                obtain ⟨j, hj, rfl, hnu, rfl⟩ := hrel
                by_cases hjt : j < n1
                · obtain ⟨rb, ro, hra, _, hrc⟩ := rdI HR2.out (by rw [← hl1.out]; omega)
                  have X := hrc j (by rw [← hl1.out]; exact hjt)
                  rw [hra] at G2
                  have hun := Lib.hid (fun h => under_get (l := rwk L k2) (k := j) (by rw [← hl1.out]; exact hjt) h)
                  have hnx3 : Hid (¬ iA (rwk L k2) j < -1 → ∀ i, i < j + 1 → ¬ iA (rwk L k2) i < -1) := fun h i hi => by
                    by_cases e : i = j
                    · rw [e]; exact h
                    · exact hnu.out i (by omega)
                  clear hra hrc
                  generalize iA (rwk L k2) j = z at *
                  by_cases hz : z < -1
                  · have hd : decide (z < -1) = true := by simpa using hz
                    have hs := Lib.hid (HE.out (fun h => by have h5 := (HRO.out.1 h).2; rw [hun.out hz] at h5; cases h5))
                    have hbw := bl_of_drewN w hwd.out
                    go_wp2_with fail
                    go_ret2
                    exact ⟨hbw, .inl ⟨2, hs.out, rfl⟩⟩
                  · have hd : decide (z < -1) = false := by simpa using hz
                    have hnx4 := Lib.hid (hnx3.out hz)
                    go_wp2_with fail
                    go_roundw
                    case rel => exact ⟨j + 1, by omega, by go_num, hnx4, by trivial⟩
                    case measure => simp [intOf]; omega
                · have hro : RowOk L k2 := HRO.out.2 ⟨EN.out, under_none (fun i hi => hnu.out i (by rw [← hl1.out] at hi; omega))⟩
                  have hnx5 := Lib.hid (HNX.out hro)
                  clear hro
                  go_wp2_with fail
                  go_roundw
                  case rel => exact ⟨k2 + 1, by omega, by go_num, hnx5, hwd.out⟩
                  case measure => simp [intOf]; omega
            · have hq : ((n1 : Int) != (n0 : Int)) = true := by simp; omega
              have hs := Lib.hid (HE.out (fun h => e (HRO.out.1 h).1))
              clear e
              go_wp2_with fail
              go_quiet (fail)
              go_wp2_with fail
              go_ret2
              exact ⟨bl_drewN (bl_drewN (Below.refl _ _) _) _, .inl ⟨2, hs.out, rfl⟩⟩
          · have hs := Lib.hid (HEO.out (fun i hi => hok.out i (by omega)))
            have hlen : Hid (∀ i, i < N → rN rs i = rN rs 0) := fun i hi => by
              rw [HLN.out i hi, HLN.out 0 (by omega)]; exact (hok.out i (by omega)).1
            clear hok
            by_cases hN0 : N = 0
            · have hL0 : L = [] := List.eq_nil_of_length_eq_zero (by rw [HN.out]; exact hN0)
              have hq : ((N : Int) == 0) = true := by simp; omega
              have HL0 := Lib.hid hL0
              have HN0 := Lib.hid hN0
              clear hL0 hN0
              go_wp2_with fail
              go_ret2
              exact ⟨bl_drewN (Below.refl _ _) _, .inr ⟨0, _, by rw [hs.out, HL0.out]; rfl, by omega, rfl, fun _ => ⟨rfl, rfl⟩, World.ownsRow_nil _ _ _ _⟩⟩
            · have hq : ((N : Int) == 0) = false := by simp; omega
              obtain ⟨b, o, rfl, hbw, hc⟩ := rdR hA (by rw [HLR.out]; omega)
              obtain ⟨n, hn⟩ : ∃ n, n = rN rs 0 := ⟨_, rfl⟩
              have hn24 := H24.out 0 (by omega)
              rw [← hn] at hn24
              have hlen2 : Hid (∀ i, i < N → rN rs i = n) := fun i hi => by rw [hlen.out i hi, hn]
              have hsn : Hid (sharesE L = .ok n) := by show _ = _; rw [hs.out, hn, HLN.out 0 (by omega)]
              have hcr : Hid (∀ wr, Below w.heap.size w wr → ∀ i, i < N → wr.cell? ⟨b, o + i, none⟩ = some (.slice (rA rs i) n (rC rs i))) := fun wr h i hi => by
                have := (h.cell (p := ⟨b, o + i, none⟩) hbw).trans (hc i (by rw [HLR.out]; exact hi))
                rw [this, hlen2.out i hi]
              have hb0 : Below w.heap.size w (w.drewN nq0) := bl_drewN (Below.refl _ _) _
              have hN1 : 0 < N := by omega
              have hNne : Hid (¬ N = 0) := hN0
              clear hn hc hN0
              go_wp2_with fail
              have hown0 : (w.drewN nq0).ownsRow w.heap.size 40 2 (.slice none 0 0) (0 * n) (fl encFr (shN L n (0 * n))) := by
                rw [Nat.zero_mul]; exact World.ownsRow_nil _ _ _ _
              obtain ⟨bb, hbb⟩ : ∃ bb, bb = b := ⟨_, rfl⟩
              rw [← hbb] at hcr hbw ⊢
              clear hbb
              go_loopw [8, 9, 10, 11, 12, 7] (fun x _ _ _ _ v wr => ∃ a : Nat, a ≤ n ∧ x = .int .i64 a ∧ wr.ownsRow w.heap.size 40 2 v (a * n) (fl encFr (shN L n (a * n))) ∧ Below w.heap.size w wr) (fun x _ _ _ _ _ _ => n - (intOf x).toNat)
              case atStart => exact ⟨0, by omega, rfl, hown0, hb0⟩
              case round =>
                obtain ⟨a, ha, rfl, hown, hbl⟩ := hrel
                clear hown0 hb0
                have G0 := hcr.out _ hbl 0 (by omega)
                rw [Nat.add_zero] at G0
                by_cases hlt3 : a < n
                · obtain ⟨wo, rfl⟩ : ∃ wo : World, wo = wr := ⟨_, rfl⟩
                  go_wp2_with fail
                  have hown1 : wo.ownsRow w.heap.size 40 2 u7 (a * n + 0) (fl encFr (shN L n (a * n + 0))) := by rw [Nat.add_zero]; exact hown
                  clear G0 hown
                  go_loopw [9, 10, 11, 12, 7] (fun x _ _ _ v wr => ∃ b : Nat, b ≤ n ∧ x = .int .i64 b ∧ wr.ownsRow w.heap.size 40 2 v (a * n + b) (fl encFr (shN L n (a * n + b))) ∧ Below w.heap.size w wr) (fun x _ _ _ _ _ => n - (intOf x).toNat)
                  case atStart => exact ⟨0, by omega, rfl, hown1, hbl⟩
                  case round =>
                    obtain ⟨b2, hb2, rfl, hown2, hbl2⟩ := hrel
                    clear hown1 hbl
                    have G0 := hcr.out _ hbl2 0 (by omega)
                    rw [Nat.add_zero] at G0
                    by_cases hlt4 : b2 < n
                    · obtain ⟨wo2, rfl⟩ : ∃ wo : World, wo = wr := ⟨_, rfl⟩
                      go_wp2_with fail
                      clear G0
                      go_loopw [12, 10, 11] (fun x s2 s1 wr => ∃ k : Nat, k ≤ N ∧ x = .int .i64 k ∧ s1 = .int .i64 (sameK L a b2 k) ∧ s2 = .int .i64 (bothK L a b2 k) ∧ ∃ nq, wr = wo2.drewN nq) (fun x _ _ _ => N - (intOf x).toNat)
                      case atStart => exact ⟨0, by omega, rfl, rfl, rfl, 0, rfl⟩
                      case round =>
                        obtain ⟨k3, hk3, rfl, rfl, rfl, nq3, rfl⟩ := hrel
                        by_cases hkt : k3 < N
                        · have G := hcr.out _ hbl2 k3 hkt
                          obtain ⟨r1, r2, _⟩ := HR.out.row k3 (by rw [HN.out]; exact hkt)
                          rw [hlen2.out k3 hkt] at r2
                          obtain ⟨rb, ro, hra, hrb, hrc⟩ := rdI r1 (by omega)
                          have X1 := hbl2.cell (p := ⟨rb, ro + a, none⟩) hrb |>.trans (hrc a (by omega))
                          have X2 := hbl2.cell (p := ⟨rb, ro + b2, none⟩) hrb |>.trans (hrc b2 (by omega))
                          rw [hra] at G
                          have b1 := bothK_le L a b2 k3
                          have b2' := sameK_le L a b2 k3
                          have HB : Hid (bothK L a b2 (k3 + 1) = bothK L a b2 k3 + if bothR L a b2 k3 then 1 else 0) := rfl
                          have HS : Hid (sameK L a b2 (k3 + 1) = sameK L a b2 k3 + if bothR L a b2 k3 ∧ iA (rwk L k3) a = iA (rwk L k3) b2 then 1 else 0) := rfl
                          have HBR : Hid (bothR L a b2 k3 ↔ 0 ≤ iA (rwk L k3) a ∧ 0 ≤ iA (rwk L k3) b2) := Iff.rfl
                          clear r1 r2 hra hrb hrc
                          generalize iA (rwk L k3) a = x at *
                          generalize iA (rwk L k3) b2 = y at *
                          by_cases hx : 0 ≤ x
                          · have hxd : decide (0 ≤ x) = true := by simpa using hx
                            by_cases hy : 0 ≤ y
                            · have hyd : decide (0 ≤ y) = true := by simpa using hy
                              have hbr : Hid (bothR L a b2 k3) := HBR.out.2 ⟨hx, hy⟩
                              have e1 := Lib.hid (show bothK L a b2 (k3 + 1) = bothK L a b2 k3 + 1 by rw [HB.out, if_pos hbr.out])
                              by_cases hxy : x = y
                              · have hq2 : (x == y) = true := by simp [hxy]
                                have e2 := Lib.hid (show sameK L a b2 (k3 + 1) = sameK L a b2 k3 + 1 by rw [HS.out, if_pos ⟨hbr.out, hxy⟩])
                                clear hxy
                                go_wp2_with fail
                                go_quiet (fail)
                                go_wp2_with fail
                                go_roundw
                                case rel => exact ⟨k3 + 1, by omega, by go_num, by rw [e2.out]; go_num, by rw [e1.out]; go_num, nq3 + nq, by simp⟩
                                case measure => simp [intOf]; omega
                              · have hq2 : (x == y) = false := by simp [hxy]
                                have e2 := Lib.hid (show sameK L a b2 (k3 + 1) = sameK L a b2 k3 by rw [HS.out, if_neg (fun h => hxy h.2)]; rfl)
                                clear hxy
                                go_wp2_with fail
                                go_quiet (fail)
                                go_wp2_with fail
                                go_roundw
                                case rel => exact ⟨k3 + 1, by omega, by go_num, by rw [e2.out], by rw [e1.out]; go_num, nq3 + nq, by simp⟩
                                case measure => simp [intOf]; omega
                            · have hyd : decide (0 ≤ y) = false := by simpa using hy
                              have hbr : Hid (¬ bothR L a b2 k3) := fun h => hy (HBR.out.1 h).2
                              have e1 := Lib.hid (show bothK L a b2 (k3 + 1) = bothK L a b2 k3 by rw [HB.out, if_neg hbr.out]; rfl)
                              have e2 := Lib.hid (show sameK L a b2 (k3 + 1) = sameK L a b2 k3 by rw [HS.out, if_neg (fun h => hbr.out h.1)]; rfl)
                              go_wp2_with fail
                              go_roundw
                              case rel => exact ⟨k3 + 1, by omega, by go_num, by rw [e2.out], by rw [e1.out], nq3, rfl⟩
                              case measure => simp [intOf]; omega
                          · have hxd : decide (0 ≤ x) = false := by simpa using hx
                            have hbr : Hid (¬ bothR L a b2 k3) := fun h => hx (HBR.out.1 h).1
                            have e1 := Lib.hid (show bothK L a b2 (k3 + 1) = bothK L a b2 k3 by rw [HB.out, if_neg hbr.out]; rfl)
                            have e2 := Lib.hid (show sameK L a b2 (k3 + 1) = sameK L a b2 k3 by rw [HS.out, if_neg (fun h => hbr.out h.1)]; rfl)
                            go_wp2_with fail
                            go_roundw
                            case rel => exact ⟨k3 + 1, by omega, by go_num, by rw [e2.out], by rw [e1.out], nq3, rfl⟩
                            case measure => simp [intOf]; omega
                        · have eN : k3 = N := by omega
                          have b1 := bothK_le L a b2 N
                          have b2' := sameK_le L a b2 N
                          rw [eN]
                          obtain ⟨sm, hsm⟩ : ∃ x, x = sameK L a b2 N := ⟨_, rfl⟩
                          obtain ⟨bo, hbo⟩ : ∃ x, x = bothK L a b2 N := ⟨_, rfl⟩
                          obtain ⟨mx, hmx⟩ : ∃ x, x = max bo 1 := ⟨_, rfl⟩
                          obtain ⟨ln, hln⟩ : ∃ x, x = sm / Nat.gcd sm mx := ⟨_, rfl⟩
                          obtain ⟨ld, hld⟩ : ∃ x, x = mx / Nat.gcd sm mx := ⟨_, rfl⟩
                          have HF : Hid (shareF L a b2 = ((ln : Int), (ld : Int))) := by
                            show _ = _
                            unfold shareF
                            rw [HN.out, ← hsm, ← hbo, ← hmx, hln, hld]
                            simp [lowF, lowN, lowD]
                          rw [← hsm] at b2' ⊢
                          rw [← hbo] at b1 b2' ⊢
                          have H65 : Hid (∀ W3 (z : Int), z = mx → Calls Tryd.prog 65 #[.int .i64 sm, .int .i64 z] W3 fun e w' => e = .returned (.agg #[.int .i64 ln, .int .i64 ld]) ∧ Below W3.heap.size W3 w') := fun W3 z hz => by
                            rw [hz, hln, hld]; exact rlow_any sm mx W3 (by omega) (by omega) (by omega)
                          have HMX : Hid (mx = max bo 1) := hmx
                          have hown3 := Lib.hid (hown2.drewNo nq3)
                          have hbl3 := Lib.hid (bl_drewN hbl2 nq3)
                          have HSN := Lib.hid (shN_next L (n := n) (a := a) (b := b2) hlt4)
                          clear hsm hbo hmx hln hld hown2 hbl2 eN
                          have hlow : bo < 1 ∨ 1 ≤ bo := by omega
                          rcases hlow with hb1 | hb1
                          all_goals
                            go_wp2_with fail
                            refine (H65.out _ _ (by have := HMX.out; omega)).mono ?_
                            rintro e w7 ⟨rfl, hb7⟩
                            have hown8 := Lib.hid (World.ownsRow.alloc (owns_below hown3.out hb7) (.cells #[.int .i64 ln, .int .i64 ld] 40))
                            have hbl8 := Lib.hid (bl_alloc (bl_trans hbl3.out hb7) (.cells #[.int .i64 ln, .int .i64 ld] 40))
                            have hmn : a * n + b2 ≤ 24 * 24 + 24 := by
                              have : a * n ≤ 24 * 24 := Nat.mul_le_mul (by omega) (by omega)
                              omega
                            clear hb7
                            go_wp2_with (refine push_Fr rfl (.tmp 123) (.tmp 128) rfl w.heap.size u7 (shN L n (a * n + b2)) (a * n + b2) (by rw [shN_len]) rfl hown8.out w7.heap.size 1 ((ln : Int), (ld : Int)) rfl (Blk.new w7 _ _) (by omega) hbl8.out.size ?_; intro g9 cap9 w9 h9 hg9 h9c h9d)
                            rw [← HF.out, HSN.out] at h9
                            have hbl9 := Below.grown hbl8.out hg9 (by have := hbl8.out.size; omega) (fun r hr => (hown8.out.lt r hr).1)
                            clear hg9 h9c h9d
                            go_roundw
                            case rel => exact ⟨b2 + 1, by omega, by go_num, h9, hbl9⟩
                            case measure => simp [intOf]; omega
                    · have e : b2 = n := by omega
                      have hown3 : wr.ownsRow w.heap.size 40 2 u7 ((a + 1) * n) (fl encFr (shN L n ((a + 1) * n))) := by
                        rw [Nat.succ_mul]; rw [e] at hown2; exact hown2
                      clear hown2 e
                      go_wp2_with fail
                      go_roundw
                      case rel => exact ⟨a + 1, by omega, by go_num, hown3, hbl2⟩
                      case measure => simp [intOf]; omega
                · have e : a = n := by omega
                  have hown3 : wr.ownsRow w.heap.size 40 2 u7 (n * n) (fl encFr (shL L n)) := by rw [e] at hown; exact hown
                  clear hown e
                  go_wp2_with fail
                  go_ret2
                  exact ⟨hbl, .inr ⟨n, u7, hsn.out, hn24, rfl, fun h => absurd (by rw [← HN.out, h]; rfl) hNne.out, hown3⟩⟩
end Go.Proofs.YtahgffjkkdbjeaaDoor
namespace Go.Proofs.YtahgffjkkdbjeaaDoor
open Go.RowKit
theorem encI_one2 : ∀ x : Int, ∀ u ∈ encI x, u.oneCell' = true := by
  intro x u hu
  simp [encI] at hu
  subst hu; rfl
set_option maxRecDepth 100000 in
set_option maxHeartbeats 1000000 in
/-- slices.Clone of numbers. -/
theorem clone_any (a : Option Addr) (n c : Nat) (row : List Int) (w : World) (hn : row.length = n) (hn2 : n < 1048576) (hA : Rd w a (fl encI row)) (h0 : a = none → n = 0 ∧ c = 0) :
    Calls Tryd.prog 35 #[.slice a n c] w fun e w' => ∃ a' c', e = .returned (.slice a' n c') ∧ Rd w' a' (fl encI row) ∧ (a' = none → n = 0 ∧ c' = 0) ∧ (0 < n → ∃ b, a' = some ⟨b, 0, none⟩ ∧ w.heap.size ≤ b) ∧ Below w.heap.size w w' := by
  have HN := Lib.hid hn
  clear hn
  have q29 : ∀ (w : World) (a : Option Addr) (n c n' c' : Nat), (binOp .eql 29 (.slice a n c) (.slice none n' c')).run Tryd.prog w = .ok (.bool a.isNone) w := fun w a n c n' c' => Lib.run_eql_slice_nil w _ _ a n c n' c' Tryd.underlying29
  rcases a with _ | ad
  · obtain ⟨rfl, rfl⟩ := h0 rfl
    have q0 := fun w n c n' c' => q29 w none n c n' c'
    simp only [Option.isNone] at q0
    go_enter Tryd.func35, Tryd.ntmps35
    go_wp2_with fail
    go_ret
    refine ⟨none, 0, rfl, hA, ?_⟩
    simp
    exact Below.refl _ _
  · have hown0 : (w.alloc (.cells #[] 3)).ownsRow w.heap.size 3 1 (.slice (some ⟨w.heap.size, 0, none⟩) 0 0) 0 (fl encI []) := by
      have := owns_made (w := w) (base := w.heap.size) (e := 3) (k := 1) (n := 0) (cs := #[]) (Nat.le_refl _) (by simp) (by omega)
      exact this
    have hA1 := hA.bl (bl_alloc (Below.refl _ w) (.cells #[] 3))
    have hb1 := bl_alloc (Below.refl w.heap.size w) (.cells #[] 3)
    have q0 := fun w n c n' c' => q29 w (some ad) n c n' c'
    simp only [Option.isNone] at q0
    go_enter Tryd.func35, Tryd.ntmps35
    go_wp2_with (at_builtin; refine wpList_pushs (enc := encI) (k := 1) (bytes := 8) rfl (fun _ => rfl) (by decide) encI_one2 (base := w.heap.size) Tryd.underlying29 info_I rfl (.tmp 5) (.tmp 6) rfl (.slice (some ⟨w.heap.size, 0, none⟩) 0 0) ([] : List Int) 0 rfl rfl hown0 (some ad) n c row HN.out.symm rfl hA1 (fun e => by cases e) (by omega) (by decide) hb1.size ?_; intro v1 w2 hw1 hw2 hw3)
    go_ways
    rw [Nat.zero_add, List.nil_append] at hw1
    obtain ⟨a', c', rfl, hc2⟩ := owns_slice hw1
    have hrd := rd_of_owns hw1
    go_ret
    refine ⟨a', c', rfl, hrd, ?_, ?_, hb1.grown hw2 (by simp) (by intro k hk; simp [Value.ownBlock] at hk; omega)⟩
    · intro e; subst e
      rcases hw1.2 with h | ⟨g, cap, cur, h, _⟩
      · simp at h; exact ⟨h.2, h.1.2⟩
      · cases h
    · intro h0
      rcases hc2 with h | ⟨g, hg1, _, rfl⟩
      · omega
      · exact ⟨g, rfl, hg1⟩
set_option maxHeartbeats 400000 in
/-- GlottoShares' comparison of two rows. -/
theorem eqCl_any (a1 a2 : Option Addr) (n1 n2 c1 c2 : Nat) (l : List Int) (w : World) (hn1 : l.length = n1) (hn2 : l.length = n2) (hm1 : n1 ≤ 1152921504606846976) (hA : Rd w a1 (fl encI l)) (hB : Rd w a2 (fl encI l)) :
    Calls Tryd.prog 38 #[.slice a1 n1 c1, .slice a2 n2 c2] w fun e w' => e = .returned (.bool true) ∧ Below w.heap.size w w' := by
  have hq : ∀ w1, w1 = w → Calls Tryd.prog 21 #[.slice a1 n1 c1, .slice a2 n2 c2] w1 fun e w' => e = .returned (.bool true) ∧ ∃ n, w' = w1.drewN n := fun w1 e => by
    subst e
    have := eqI_any a1 a2 n1 n2 c1 c2 l l w1 hn1 hn2 hm1 (by omega) hA hB
    simpa using this
  have HQ := Lib.hid hq
  clear hq hA hB hn1 hn2
  go_enter Tryd.func38, Tryd.ntmps38
  go_wp2_with (go_at_call 21; refine (HQ.out _ rfl).mono ?_; rintro e w1 ⟨rfl, n1, rfl⟩)
  go_ret
  exact ⟨rfl, bl_drewN (Below.refl _ _) n1⟩
set_option maxHeartbeats 400000 in
/-- slices.EqualFunc of two slices that read as the same rows. -/
theorem eqRows_any (a1 a2 : Option Addr) (N c1 c2 : Nat) (rs1 rs2 : List Rw) (L : List (List Int)) (w : World) (hn : L.length = N) (hN : N ≤ 1152921504606846976) (hA : Rows w a1 rs1 L) (hB : Rows w a2 rs2 L) :
    Calls Tryd.prog 37 #[.slice a1 N c1, .slice a2 N c2, .func (.func 38) #[] #[]] w fun e w' => e = .returned (.bool true) ∧ Below w.heap.size w w' := by
  have HN := Lib.hid hn; clear hn
  have HA := Lib.hid hA
  have HB := Lib.hid hB
  clear hA hB
  go_enter Tryd.func37, Tryd.ntmps37
  go_wp2_with fail
  go_loopw [17, 7, 8, 9] (fun x _ _ _ wr => ∃ k : Nat, k ≤ N ∧ x = .int .i64 k ∧ Below w.heap.size w wr) (fun x _ _ _ _ => N - (intOf x).toNat)
  case atStart => exact ⟨0, by omega, rfl, Below.refl _ _⟩
  case round =>
    obtain ⟨k, hk, rfl, hbl⟩ := hrel
    by_cases hlt : k < N
    · obtain ⟨b1, o1, rfl, _, hc1⟩ := rdR (HA.out.rd.bl hbl) (by rw [HA.out.len, HN.out]; omega)
      obtain ⟨b2, o2, rfl, _, hc2⟩ := rdR (HB.out.rd.bl hbl) (by rw [HB.out.len, HN.out]; omega)
      have G1 := hc1 k (by rw [HA.out.len, HN.out]; omega)
      have G2 := hc2 k (by rw [HB.out.len, HN.out]; omega)
      have HC := Lib.hid (eqCl_any (rA rs1 k) (rA rs2 k) (rN rs1 k) (rN rs2 k) (rC rs1 k) (rC rs2 k) (rwk L k) wr (HA.out.row k (by rw [HN.out]; exact hlt)).2.1.symm (HB.out.row k (by rw [HN.out]; exact hlt)).2.1.symm (HA.out.row k (by rw [HN.out]; exact hlt)).2.2 ((HA.out.row k (by rw [HN.out]; exact hlt)).1.bl hbl) ((HB.out.row k (by rw [HN.out]; exact hlt)).1.bl hbl))
      clear hc1 hc2
      generalize rA rs1 k = A1 at *
      generalize rA rs2 k = A2 at *
      generalize rN rs1 k = N1 at *
      generalize rN rs2 k = N2 at *
      generalize rC rs1 k = C1 at *
      generalize rC rs2 k = C2 at *
      go_wp2_with fail
      refine HC.out.mono ?_
      rintro e w' ⟨rfl, hb2⟩
      go_wp2
      go_roundw
      case rel => exact ⟨k + 1, by omega, by go_num, bl_trans hbl hb2⟩
      case measure => simp [intOf]; omega
    · go_wp2
      go_ret
      exact ⟨rfl, hbl⟩
end Go.Proofs.YtahgffjkkdbjeaaDoor
namespace Go.Proofs.YtahgffjkkdbjeaaDoor
open Go.RowKit
def sumL (L : List (List Int)) : Nat → Nat
  | 0 => 0
  | k + 1 => sumL L k + (rwk L k).length
theorem sumL_le (L : List (List Int)) {N : Nat} (h : ∀ i, i < N → (rwk L i).length ≤ 17592186043904) : ∀ k, k ≤ N → sumL L k ≤ k * 17592186043904
  | 0, _ => by simp [sumL]
  | k + 1, hk => by
    have h1 := sumL_le L h k (by omega)
    have h2 := h k (by omega)
    simp only [sumL]; omega
theorem sumL_row (L : List (List Int)) : ∀ k i, i < k → (rwk L i).length ≤ sumL L k
  | k + 1, i, h => by
    by_cases e : i = k
    · subst e; simp only [sumL]; omega
    · have := sumL_row L k i (by omega)
      simp only [sumL]; omega
set_option maxRecDepth 100000 in
set_option maxHeartbeats 1000000 in
/-- The law at more than 300 rows. -/
theorem shlaw_long (a : Option Addr) (N c : Nat) (rs : List Rw) (L : List (List Int)) (w : World) (hn : L.length = N) (hN : N ≤ 5864062014634) (hR : Rows w a rs L) (h300 : 300 < N) :
    Calls Tryd.prog 9 #[.slice a N c] w fun e w' => e = .returned (.bool true) ∧ Below w.heap.size w w' := by
  have HN := Lib.hid hn; clear hn
  have HR := Lib.hid hR; clear hR
  have hbr := Below.refl w.heap.size w
  go_enter Tryd.func9, Tryd.ntmps9
  go_wp2_with fail
  go_loopw [15, 5, 3] (fun x _ y wr => ∃ (k : Nat) (s : Int), k ≤ N ∧ x = .int .i64 k ∧ y = .int .i64 s ∧ Below w.heap.size w wr) (fun x _ _ _ => N - (intOf x).toNat)
  case atStart => exact ⟨0, 0, by omega, rfl, rfl, Below.refl _ _⟩
  case round =>
    obtain ⟨k, s, hk, rfl, rfl, hbl⟩ := hrel
    by_cases hlt : k < N
    · obtain ⟨b1, o1, rfl, _, hc1⟩ := rdR (HR.out.rd.bl hbl) (by rw [HR.out.len, HN.out]; omega)
      have G1 := hc1 k (by rw [HR.out.len, HN.out]; omega)
      clear hc1
      generalize rA rs k = A1 at *
      generalize rN rs k = N1 at *
      generalize rC rs k = C1 at *
      go_wp2_with fail
      go_roundw
      case rel => exact ⟨k + 1, _, by omega, by go_num, rfl, hbl⟩
      case measure => simp [intOf]; omega
    · go_wp2_with fail
      refine (works_any _).mono ?_
      rintro e w12 ⟨rfl, hb12⟩
      have HB12 := Lib.hid (bl_trans hbl hb12)
      clear hb12 hbl
      go_wp2_with fail
      go_ret
      exact ⟨rfl, HB12.out⟩
theorem Rd.grown {w w' : World} {a : Option Addr} {cs : List Value} {row : Option Nat} (h : Rd w a cs) (hg : w.grownBy w' row) (hne : 0 < cs.length → ∀ b off, a = some ⟨b, off, none⟩ → some b ≠ row) : Rd w' a cs := fun h0 => by
  obtain ⟨b, off, e, hb, hc⟩ := h h0
  exact ⟨b, off, e, Nat.lt_of_lt_of_le hb hg.size, fun i hi => hg.cell (hc i hi) (hne h0 b off e)⟩
/-- k rows that the call made: each reads as L's; none lies in the block of the slice that holds them. -/
def CR (w : World) (v : Value) (k : Nat) (rk : List Rw) (L : List (List Int)) : Prop :=
  rk.length = k ∧ ∀ i, i < k → Rd w (rA rk i) (fl encI (rwk L i)) ∧ rN rk i = (rwk L i).length ∧ (0 < (rwk L i).length → ∀ b off, rA rk i = some ⟨b, off, none⟩ → some b ≠ v.ownBlock)
theorem CR.zero (w : World) (v : Value) (L : List (List Int)) : CR w v 0 [] L := ⟨rfl, fun i h => absurd h (by omega)⟩
theorem CR.bl {w w' : World} {v : Value} {k : Nat} {rk : List Rw} {L : List (List Int)} (h : CR w v k rk L) (hb : Below w.heap.size w w') : CR w' v k rk L :=
  ⟨h.1, fun i hi => ⟨(h.2 i hi).1.bl hb, (h.2 i hi).2⟩⟩
theorem encI_fl (l : List Int) : (fl encI l).length = l.length := by rw [fl_length (k := 1) (fun _ => rfl)]; omega
theorem CR.push {w w' : World} {v v' : Value} {g n c k : Nat} {rk : List Rw} {L : List (List Int)} {y : Rw} (h : CR w v k rk L) (hy : Rd w y.1 (fl encI (rwk L k))) (hn : y.2.1 = (rwk L k).length)
    (hne : 0 < (rwk L k).length → ∀ b off, y.1 = some ⟨b, off, none⟩ → some b ≠ v.ownBlock) (hg : w.grownBy w' v.ownBlock) (hv : v' = .slice (some ⟨g, 0, none⟩) n c) (hv2 : v.ownBlock = some g ∨ g = w.heap.size) : CR w' v' (k + 1) (rk ++ [y]) L := by
  subst hv
  refine ⟨by simp [h.1], fun i hi => ?_⟩
  have key : ∀ a : Option Addr, Rd w a (fl encI (rwk L i)) → (0 < (rwk L i).length → ∀ b off, a = some ⟨b, off, none⟩ → some b ≠ v.ownBlock) → Rd w' a (fl encI (rwk L i)) ∧ (0 < (rwk L i).length → ∀ b off, a = some ⟨b, off, none⟩ → some b ≠ some g) := by
    intro a h1 h2
    refine ⟨h1.grown hg (fun h0 => h2 (by rw [← encI_fl]; exact h0)), fun h0 b off e hb => ?_⟩
    rcases hv2 with e2 | e2
    · exact h2 h0 b off e (by rw [e2]; exact hb)
    · obtain ⟨b', off', e', hb', _⟩ := h1 (by rw [encI_fl]; exact h0)
      rw [e] at e'
      simp at e' hb
      omega
  by_cases e : i < k
  · obtain ⟨h1, h2, h3⟩ := h.2 i e
    have ea : rA (rk ++ [y]) i = rA rk i := by simp [rA, List.getD_eq_getElem?_getD, List.getElem?_append_left (show i < rk.length by rw [h.1]; exact e)]
    have en : rN (rk ++ [y]) i = rN rk i := by simp [rN, List.getD_eq_getElem?_getD, List.getElem?_append_left (show i < rk.length by rw [h.1]; exact e)]
    rw [ea, en]
    exact ⟨(key _ h1 h3).1, h2, (key _ h1 h3).2⟩
  · obtain rfl : i = k := by omega
    have ea : rA (rk ++ [y]) i = y.1 := by simp [rA, List.getD_eq_getElem?_getD, ← h.1]
    have en : rN (rk ++ [y]) i = y.2.1 := by simp [rN, List.getD_eq_getElem?_getD, ← h.1]
    rw [ea, en]
    exact ⟨(key _ hy hne).1, hn, (key _ hy hne).2⟩
theorem CR.rows {w : World} {base N c : Nat} {a : Option Addr} {rk : List Rw} {L : List (List Int)} (h : CR w (.slice a N c) N rk L) (ho : w.ownsRow base 29 1 (.slice a N c) N (fl encR rk)) (hL : L.length = N) (hb : ∀ i, i < N → (rwk L i).length ≤ 1152921504606846976) : Rows w a rk L :=
  ⟨rd_of_owns ho, by rw [h.1, hL], fun i hi => by
    rw [hL] at hi
    obtain ⟨h1, h2, _⟩ := h.2 i hi
    exact ⟨h1, h2, by rw [h2]; exact hb i hi⟩⟩
theorem sh_ans (L : List (List Int)) : ∃ (k : Int) (l : List Fr) (n : Nat), Hid (l.length = n) ∧ n ≤ 576 ∧ ∀ w e w', ShPost w L e w' → ∃ a' c', e = .returned (.tuple #[.slice a' n c', .int .i64 k]) ∧ Rd w' a' (fl encFr l) ∧ Below w.heap.size w w' := by
  rcases hs : sharesE L with k | n
  · refine ⟨k, [], 0, rfl, by omega, fun w e w' h => ?_⟩
    obtain ⟨hb, ⟨k', h1, rfl⟩ | ⟨n, v, h1, _⟩⟩ := h
    · rw [hs] at h1; cases h1
      exact ⟨none, 0, rfl, Rd.nil _ _, hb⟩
    · rw [hs] at h1; cases h1
  · by_cases hn : n ≤ 24
    · refine ⟨0, shL L n, n * n, ?_, Nat.mul_le_mul hn hn, fun w e w' h => ?_⟩
      · simp [Hid, shL]
      · obtain ⟨hb, ⟨k', h1, rfl⟩ | ⟨n', v, h1, h2, rfl, h4, h5⟩⟩ := h
        · rw [hs] at h1; cases h1
        · rw [hs] at h1; cases h1
          obtain ⟨a', c', rfl, _⟩ := owns_slice h5
          exact ⟨a', c', rfl, rd_of_owns h5, hb⟩
    · refine ⟨0, [], 0, rfl, by omega, fun w e w' h => ?_⟩
      obtain ⟨hb, ⟨k', h1, rfl⟩ | ⟨n', v, h1, h2, _⟩⟩ := h
      · rw [hs] at h1; cases h1
      · rw [hs] at h1; cases h1; exact absurd h2 hn
end Go.Proofs.YtahgffjkkdbjeaaDoor
namespace Go.Proofs.YtahgffjkkdbjeaaDoor
open Go.RowKit
set_option maxRecDepth 100000 in
set_option maxHeartbeats 2000000 in
/-- The law. -/
theorem shlaw_any (a : Option Addr) (N c : Nat) (rs : List Rw) (L : List (List Int)) (w : World) (hn : L.length = N) (hN : N ≤ 5864062014634) (hR : Rows w a rs L) (hlen : ∀ i, i < N → (rwk L i).length ≤ 17592186043904) (hnil : ∀ i, i < N → rA rs i = none → rN rs i = 0 ∧ rC rs i = 0) :
    Calls Tryd.prog 9 #[.slice a N c] w fun e w' => e = .returned (.bool true) ∧ Below w.heap.size w w' := by
  by_cases h300 : 300 < N
  · exact shlaw_long a N c rs L w hn hN hR h300
  have hs0 := sumL_le L hlen
  have HN := Lib.hid hn; clear hn
  have HR := Lib.hid hR; clear hR
  have HNIL := Lib.hid hnil; clear hnil
  have HLEN := Lib.hid hlen; clear hlen
  have HS0 := Lib.hid hs0; clear hs0
  obtain ⟨kE, lF, nF, HLF, hnF, hans⟩ := sh_ans L
  have HANS := Lib.hid hans
  clear hans
  have hbr := Below.refl w.heap.size w
  go_enter Tryd.func9, Tryd.ntmps9
  go_wp2_with fail
  go_loopw [15, 5, 3] (fun x _ y wr => ∃ (k : Nat), k ≤ N ∧ x = .int .i64 k ∧ y = .int .i64 (sumL L k : Nat) ∧ Below w.heap.size w wr) (fun x _ _ _ => N - (intOf x).toNat)
  case atStart => exact ⟨0, by omega, rfl, rfl, Below.refl _ _⟩
  case round =>
    obtain ⟨k, hk, rfl, rfl, hbl⟩ := hrel
    by_cases hlt : k < N
    · obtain ⟨b1, o1, rfl, _, hc1⟩ := rdR (HR.out.rd.bl hbl) (by rw [HR.out.len, HN.out]; omega)
      have G1 := hc1 k (by rw [HR.out.len, HN.out]; omega)
      have hrl := (HR.out.row k (by rw [HN.out]; exact hlt)).2.1
      have hs1 := HS0.out (k + 1) (by omega)
      have HSUM : Hid (sumL L (k + 1) = sumL L k + (rwk L k).length) := rfl
      rw [HSUM.out] at hs1
      clear hc1
      generalize sumL L k = S0 at *
      generalize rA rs k = A1 at *
      generalize rN rs k = N1 at *
      generalize rC rs k = C1 at *
      subst hrl
      have hw1 := wrap_nat ((S0 : Int) + ((rwk L k).length : Int)) (S0 + (rwk L k).length) (by simp) (by omega)
      go_wp2_with fail
      go_roundw
      case rel => exact ⟨k + 1, by omega, by go_num, by rw [HSUM.out]; simp, hbl⟩
      case measure => simp [intOf]; omega
    · obtain rfl : N = k := by omega
      have HSR := Lib.hid (fun i => sumL_row L N i)
      generalize sumL L N = S0 at *
      by_cases h8 : 8000 < S0
      · go_wp2_with fail
        refine (works_any _).mono ?_
        rintro e w12 ⟨rfl, hb12⟩
        have HB12 := Lib.hid (bl_trans hbl hb12)
        clear hb12 hbl
        go_wp2_with fail
        go_ret
        exact ⟨rfl, HB12.out⟩
      · go_wp2_with fail
        go_loopw [34, 8, 6] (fun x _ y wr => ∃ (k : Nat) (rk : List Rw), k ≤ N ∧ x = .int .i64 k ∧ wr.ownsRow w.heap.size 29 1 y k (fl encR rk) ∧ CR wr y k rk L ∧ Below w.heap.size w wr) (fun x _ _ _ => N - (intOf x).toNat)
        case atStart => exact ⟨0, [], by omega, rfl, World.ownsRow_nil _ _ _ _, CR.zero _ _ _, hbl⟩
        case round =>
          clear hbl
          obtain ⟨k, rk, hk, rfl, hown, hcr, hbl⟩ := hrel
          have HCR := Lib.hid hcr
          have HO := Lib.hid hown
          clear hcr hown
          by_cases hlt : k < N
          · obtain ⟨b1, o1, rfl, _, hc1⟩ := rdR (HR.out.rd.bl hbl) (by rw [HR.out.len, HN.out]; omega)
            have G1 := hc1 k (by rw [HR.out.len, HN.out]; omega)
            obtain ⟨hr1, hr2, _⟩ := HR.out.row k (by rw [HN.out]; exact hlt)
            have hr3 := HSR.out k hlt
            have HC := Lib.hid (clone_any (rA rs k) (rN rs k) (rC rs k) (rwk L k) wr hr2.symm (by omega) (hr1.bl hbl) (HNIL.out k hlt))
            have HR2 := Lib.hid hr2
            have HLN := Lib.hid hr2
            clear hc1 hr1 hr2 hr3
            generalize rA rs k = A1 at *
            generalize rN rs k = N1 at *
            generalize rC rs k = C1 at *
            go_wp2_with (first
              | (go_at_call 35; refine HC.out.mono ?_; rintro e w2 ⟨a', c', rfl, hrd, hz, hnew, hb2⟩)
              | (at_builtin; refine push_R rfl (.tmp 38) (.tmp 41) rfl w.heap.size _ rk k HCR.out.1.symm rfl (owns_below (owns_below HO.out hb2) (bl_alloc (Below.refl _ _) _)) _ _ (a', N1, c') rfl (Blk.new _ _ _) (by omega) (Nat.le_trans hbl.size (Nat.le_trans hb2.size (bl_alloc (Below.refl _ _) _).size)) ?_; intro g cap w3 hw1 hw2 hw3 hw4))
            go_roundw
            case rel =>
              refine ⟨k + 1, rk ++ [(a', N1, c')], by omega, by go_num, hw1, CR.push ((HCR.out.bl hb2).bl (bl_alloc (Below.refl _ _) _)) (y := (a', N1, c')) (hrd.bl (bl_alloc (Below.refl _ _) _)) HLN.out ?_ hw2 rfl hw3, (bl_alloc (bl_trans hbl hb2) _).grown hw2 (Nat.le_trans hbl.size (Nat.le_trans hb2.size (bl_alloc (Below.refl _ _) _).size)) (fun j hj => (HO.out.lt j hj).1)⟩
              intro h0 b off e1 e2
              obtain ⟨b', e3, hb'⟩ := hnew (by rw [HLN.out]; exact h0)
              have h5 := (HO.out.lt b e2.symm).2
              have e1 : a' = some ⟨b, off, none⟩ := e1
              rw [e1] at e3
              simp at e3
            case measure => simp [intOf]; omega
          · obtain rfl : N = k := by omega
            obtain ⟨wa, ca, rfl, _⟩ := owns_slice HO.out
            have HRW := Lib.hid (HCR.out.rows HO.out HN.out (fun i hi => by have := HLEN.out i hi; omega))
            clear HO HCR
            go_wp2_with fail
            refine (shares_any a N c rs L _ HN.out (by omega) (HR.out.bl hbl)).mono ?_
            intro e1 w1 hp1
            obtain ⟨a1, c1, rfl, hr1, hb1⟩ := HANS.out _ _ _ hp1
            have HR1 := Lib.hid hr1
            have HB1 := Lib.hid (bl_trans hbl hb1)
            have HRW1 := Lib.hid (HRW.out.bl hb1)
            clear hp1 hr1 hb1 hbl HRW
            go_wp2_with fail
            refine (rshares_any wa N ca rk L _ HN.out (by omega) HRW1.out).mono ?_
            intro e2 w2 hp2
            obtain ⟨a2, c2, rfl, hr2, hb2⟩ := HANS.out _ _ _ hp2
            have HB2 := Lib.hid (bl_trans HB1.out hb2)
            have HRW2 := Lib.hid (HRW1.out.bl hb2)
            have HE := Lib.hid ((eqFr_any a1 a2 nF nF c1 c2 lF lF w2 HLF.out HLF.out (by omega) (by omega) (HR1.out.bl hb2) hr2).mono fun e w' (h : e = .returned (.bool (decide (lF = lF))) ∧ ∃ n, w' = w2.drewN n) => (⟨by rw [h.1, decide_eq_true rfl], h.2⟩ : e = .returned (.bool true) ∧ ∃ n, w' = w2.drewN n))
            clear hp2 hr2 hb2 HR1 HB1 HRW1
            go_wp2_with (first
              | (go_at_call 27; refine HE.out.mono ?_; rintro e w3 ⟨rfl, n3, rfl⟩)
              | (go_at_call 37; refine (eqRows_any a wa N c ca rs rk L _ HN.out (by omega) (HR.out.bl (bl_drewN HB2.out n3)) (HRW2.out.bl (bl_drewN (Below.refl _ _) n3))).mono ?_; rintro e w4 ⟨rfl, hb4⟩)
              | (go_at_call 14; refine (works_any _).mono ?_; rintro e w5 ⟨rfl, hb5⟩))
            go_ret
            exact ⟨rfl, bl_trans (bl_trans (bl_drewN HB2.out n3) hb4) hb5⟩
end Go.Proofs.YtahgffjkkdbjeaaDoor
