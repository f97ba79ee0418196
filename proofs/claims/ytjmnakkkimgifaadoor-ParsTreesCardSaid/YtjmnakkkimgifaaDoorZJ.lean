/- The document's tree: children. The document's tree: Leaves, node. ParsReturns, the plain part: a neighbour's leaves are its last nodes, with the names of the tree's; a neighbour's neighbours hold the tree. ParsReturns: the walk of the statement. ParsTrees, the plain part: what all trees of the list are; the order of two lists of parents. The statements' order of trees by their parents. ParsTrees: the walk of the statement. -/
import Derived.Test.YtjmnakkkimgifaaDoorZA
import Derived.Test.YtjmnakkkimgifaaDoorZI
import Derived.Deep.QuietTactic
import Derived.BigQuiet
import Derived.Test.YtjmnakkkimgifaaDoorZC
import Derived.Test.YtjmnakkkimgifaaDoorZF
import Derived.Test.YtjmnakkkimgifaaDoorZG
namespace Go.Proofs.YtjmnakkkimgifaaDoor
open Go Go.RowKit Go.Shelf
set_option maxRecDepth 100000 in
set_option maxHeartbeats 2000000 in
theorem rkids_any (v : Nat) (a : Option Addr) (n c : Nat) (t : List Nd) (w : World) (hn : t.length = n) (hN : n ≤ 1000) (hA : Rd w a (fl encNd t)) (h0 : nP t 0 < 0) :
    Calls Tryd.prog 47 #[.slice a n c, .int .i64 v] w fun e w' => ∃ x, e = .returned x ∧ w'.ownsRow w.heap.size 3 1 x (famL t n v).length (fl encI (iN (famL t n v))) ∧ Below w.heap.size w w' := by
  have HN := Lib.hid hn
  have HA := Lib.hid hA
  have H0 := Lib.hid h0
  clear hn hA h0
  go_enter Tryd.func47, Tryd.ntmps47
  go_wp2_with fail
  go_loopw [6, 5] (fun x u wr => ∃ k q : Nat, k ≤ n ∧ x = .int .i64 k ∧ q = (famL t k v).length ∧ Hid (wr.ownsRow w.heap.size 3 1 u q (fl encI (iN (famL t k v)))) ∧ Hid (Below w.heap.size w wr)) (fun x _ _ => n - (intOf x).toNat)
  case atStart => exact ⟨0, 0, by omega, rfl, rfl, World.ownsRow_nil _ _ _ _, Below.refl _ _⟩
  case round =>
    obtain ⟨k, q, hk, rfl, hq, how, hbl⟩ := hrel
    obtain ⟨Au, cu, rfl, _⟩ := owns_slice how.out
    have HQ := Lib.hid hq
    by_cases hlt : k < n
    · obtain ⟨b, o, rfl, hb, hc⟩ := rdNd (HA.out.bl hbl.out) (by rw [HN.out]; omega)
      obtain ⟨G1, G2⟩ := hc k (by rw [HN.out]; exact hlt)
      have hql : q ≤ k := by rw [hq]; exact famL_le t k v
      have HST := Lib.hid (famL_snoc t k v)
      have HKB : Hid (kidB t v k = decide (nP t k = (v : Int))) := by
        show _ = _
        unfold kidB
        by_cases e : 0 < k
        · simp [e]
        · obtain rfl : k = 0 := by omega
          have := H0.out
          rw [decide_eq_false (show ¬ nP t 0 = (v : Int) by omega)]; simp
      rw [HKB.out] at HST
      have hsz := hbl.out.size
      clear hc HKB hq
      generalize nP t k = p at *
      by_cases e : p = (v : Int)
      · have d1 : (p == (v : Int)) = true := by simp [e]
        rw [decide_eq_true e, if_pos rfl] at HST
        have hb1 : w.heap.size ≤ (wr.alloc (.cells #[.int .i64 k] 3)).heap.size := (bl_alloc hbl.out _).size
        clear e
        go_wp2_with (at_builtin; refine push_I rfl (.tmp 20) (.tmp 22) rfl w.heap.size (.slice Au q cu) (iN (famL t k v)) q (by rw [iN_len]; exact HQ.out) rfl (how.out.alloc _) _ _ (k : Int) rfl (Blk.new _ _ _) (by omega) hb1 ?_; intro g c6 w6 h1 h2 h3 h4; have H61 := Lib.hid h1; have H62 := Lib.hid h2; clear h1 h2 h3 h4)
        have H7 : Hid (w6.ownsRow w.heap.size 3 1 (.slice (some ⟨g, 0, none⟩) (q + 1) c6) (q + 1) (fl encI (iN (famL t (k + 1) v)))) := by
          rw [HST.out, iN_snoc]; exact H61.out
        have H8 := Lib.hid (bl_grown (bl_alloc hbl.out (.cells #[.int .i64 k] 3)) H62.out (fun r e => (how.out.lt r e).1))
        go_roundw
        case rel => exact ⟨k + 1, q + 1, by omega, by go_num, by rw [HST.out, List.length_append, ← HQ.out]; rfl, H7, H8⟩
        case measure => simp [intOf]; omega
      · have d1 : (p == (v : Int)) = false := by simp [e]
        have d2 : decide (p = (v : Int)) = false := by simp [e]
        rw [d2, if_neg (by simp), List.append_nil] at HST
        clear e
        go_wp2_with fail
        go_roundw
        case rel => exact ⟨k + 1, q, by omega, by go_num, by rw [HST.out]; exact HQ.out, by rw [HST.out]; exact how, hbl⟩
        case measure => simp [intOf]; omega
    · obtain rfl : k = n := by omega
      have HO := Lib.hid how.out
      clear how
      go_wp2_with fail
      go_ret
      exact ⟨_, rfl, by rw [← HQ.out]; exact HO.out, hbl.out⟩
end Go.Proofs.YtjmnakkkimgifaaDoor
namespace Go.Proofs.YtjmnakkkimgifaaDoor
open Go Go.RowKit Go.Shelf
set_option maxRecDepth 100000 in
set_option maxHeartbeats 2000000 in
theorem rLeaves_any (a : Option Addr) (n c : Nat) (t : List Nd) (w : World) (hn : t.length = n) (hN : n ≤ 1152921504606846976) (hA : Rd w a (fl encNd t)) (hS : ∀ v, v < n → (nS t v).size ≤ 9223372036854775807) :
    Calls Tryd.prog 19 #[.slice a n c] w fun e w' => ∃ v, e = .returned (.tuple #[v, .int .i64 (chkE t)]) ∧ w'.ownsRow w.heap.size 3 1 v (lvT t).length (fl encI (iN (lvT t))) ∧ Below w.heap.size w w' := by
  have HC := Lib.hid (rcheck_any a n c t w hn hN hA hS)
  have HN := Lib.hid hn
  have HA := Lib.hid hA
  clear hn hA hS
  go_enter Tryd.func19, Tryd.ntmps19
  go_wp2_with fail
  refine HC.out.mono ?_
  rintro e w1 ⟨rfl, m, rfl⟩
  by_cases hok : TreeOk t
  · have HCE := Lib.hid (chkE_good hok)
    have HLV : Hid (lvT t = lvsL t n) := by show _ = _; unfold lvT; rw [if_pos HCE.out, HN.out]
    have h63 : n ≤ 63 := by have := hok.2.1; have := HN.out; omega
    have HP0 : Hid (nP t 0 < 0) := by have := (hok.2.2 0 (by have := hok.1; omega)).1; exact this
    have HLF : Hid (∀ k, leafB t k = decide ((famL t n k).length = 0)) := fun k => by
      unfold leafB; rw [HN.out, Bool.eq_iff_iff]; simp
    rw [HCE.out]
    clear hok
    go_wp2_with fail
    go_loopw [6, 5] (fun x u wr => ∃ k q : Nat, k ≤ n ∧ x = .int .i64 k ∧ q = (lvsL t k).length ∧ Hid (wr.ownsRow w.heap.size 3 1 u q (fl encI (iN (lvsL t k)))) ∧ Hid (Below w.heap.size w wr)) (fun x _ _ => n - (intOf x).toNat)
    case atStart => exact ⟨0, 0, by omega, rfl, rfl, World.ownsRow_nil _ _ _ _, bl_drewN (Below.refl _ _) m⟩
    case round =>
      obtain ⟨k, q, hk, rfl, hq, how, hbl⟩ := hrel
      obtain ⟨Au, cu, rfl, _⟩ := owns_slice how.out
      have HQ := Lib.hid hq
      by_cases hlt : k < n
      · have hql : q ≤ k := by rw [hq]; exact lvsL_le t k
        have HST := Lib.hid (lvsL_snoc t k)
        rw [HLF.out k] at HST
        have HK := Lib.hid (rkids_any k a n c t wr HN.out (by omega) (HA.out.bl hbl.out) HP0.out)
        clear hq
        go_wp2_with fail
        refine HK.out.mono ?_
        rintro e w3 ⟨x3, rfl, ho3, hb3⟩
        obtain ⟨z, hz⟩ : ∃ z, (famL t n k).length = z := ⟨_, rfl⟩
        rw [hz] at ho3 HST
        obtain ⟨A3, c3, rfl, _⟩ := owns_slice ho3
        have HB3 := Lib.hid (bl_trans hbl.out hb3)
        have HO3 := Lib.hid (owns_below how.out hb3)
        clear ho3 hb3 hz how hbl HK
        by_cases e : z = 0
        · have d1 : ((z : Int) == 0) = true := by simp [e]
          rw [decide_eq_true e, if_pos rfl] at HST
          have hb1 : w.heap.size ≤ (w3.alloc (.cells #[.int .i64 k] 3)).heap.size := (bl_alloc HB3.out _).size
          subst e
          clear d1
          go_wp2_with (at_builtin; refine push_I rfl (.tmp 23) (.tmp 25) rfl w.heap.size (.slice Au q cu) (iN (lvsL t k)) q (by rw [iN_len]; exact HQ.out) rfl (HO3.out.alloc _) _ _ (k : Int) rfl (Blk.new _ _ _) (by omega) hb1 ?_; intro g c6 w6 h1 h2 h3 h4; have H61 := Lib.hid h1; have H62 := Lib.hid h2; clear h1 h2 h3 h4)
          have H7 : Hid (w6.ownsRow w.heap.size 3 1 (.slice (some ⟨g, 0, none⟩) (q + 1) c6) (q + 1) (fl encI (iN (lvsL t (k + 1))))) := by
            rw [HST.out, iN_snoc]; exact H61.out
          have H8 := Lib.hid (bl_grown (bl_alloc HB3.out (.cells #[.int .i64 k] 3)) H62.out (fun r e => (HO3.out.lt r e).1))
          go_roundw
          case rel => exact ⟨k + 1, q + 1, by omega, by go_num, by rw [HST.out, List.length_append, ← HQ.out]; rfl, H7, H8⟩
          case measure => simp [intOf]; omega
        · have d1 : ((z : Int) == 0) = false := by simp [e]
          have d3 : decide (z = 0) = false := by simp [e]
          rw [d3, if_neg (by simp), List.append_nil] at HST
          clear e
          go_wp2_with fail
          go_roundw
          case rel => exact ⟨k + 1, q, by omega, by go_num, by rw [HST.out]; exact HQ.out, by rw [HST.out]; exact HO3, HB3⟩
          case measure => simp [intOf]; omega
      · obtain rfl : k = n := by omega
        have HO := Lib.hid how.out
        clear how
        go_wp2_with fail
        exact bodyPost_ret (v := .tuple #[.slice Au q cu, .int .i64 0]) (by simp [results, Tryd.results19, go_sem]) rfl ⟨_, by rw [HCE.out], by rw [HLV.out, ← HQ.out]; exact HO.out, hbl.out⟩
  · have HCE := Lib.hid (chkE_bad hok)
    have HLV : Hid (lvT t = []) := by show _ = _; unfold lvT; rw [if_neg (by rw [HCE.out]; decide)]
    rw [HCE.out]
    clear hok
    go_wp2_with fail
    exact bodyPost_ret (v := .tuple #[.slice none 0 0, .int .i64 16]) (by simp [results, Tryd.results19, go_sem]) rfl ⟨_, by rw [HCE.out], by rw [HLV.out]; exact World.ownsRow_nil _ _ _ _, bl_drewN (Below.refl _ _) m⟩
end Go.Proofs.YtjmnakkkimgifaaDoor
namespace Go.Proofs.YtjmnakkkimgifaaDoor
open Go Go.RowKit Go.Shelf
theorem vT_get {l : List (List Nd)} {i : Nat} (hi : i < l.length) : vT l i = l[i] := by
  unfold vT
  rw [List.getD_eq_getElem?_getD, List.getElem?_eq_getElem hi]; rfl
theorem vT_mem {l : List (List Nd)} {i : Nat} (hi : i < l.length) : vT l i ∈ l := by rw [vT_get hi]; exact List.getElem_mem _
/-- A neighbour: numbered anew. -/
theorem near_is {t : List Nd} {n k : Nat} (h : ClT t n) (hk : k < (nearL t n).length) : ∃ s r, Canon t (vT (nearL t n) k) n (lvsL t n) s r := by
  obtain ⟨hn, hok, hb⟩ := h
  have hm : vT (nearL t n) k ∈ nearL t n := by
    unfold vT
    rw [List.getD_eq_getElem?_getD, List.getElem?_eq_getElem hk]
    exact List.getElem_mem _
  obtain ⟨c, x, h0, hc, hx, e⟩ := mem_near.1 hm
  rw [e]
  obtain ⟨s, hs⟩ := shT_of hn hok hb
  have hN := nni_of hn hok hb h0 hc hx
  obtain ⟨X, Y, hE⟩ := ex_ok hn hok hb hs hN rfl
  have hO := near_ok hn hok hs hE
  have hlen : (exS t n c x).srt.all.length = n := by
    rw [(Sh.srt_all _).length_eq, hE.perm.length_eq, List.length_range]
  obtain ⟨r, hr⟩ := canon_of hO (Sh.srt_srt _) hlen (lvs_pw t n)
  exact ⟨_, r, hr⟩
theorem lvT_eq {t : List Nd} {n : Nat} (h : ClT t n) : lvT t = lvsL t n := by unfold lvT; rw [if_pos (show chkE t = 0 from if_pos h.2.1), h.1]
theorem near_lv {t : List Nd} {n k m : Nat} (h : ClT t n) (hk : k < (nearL t n).length) (hm : n = 2 * m + 1) : lvT (vT (nearL t n) k) = (List.range (m + 1)).map (fun i => m + i) ∧ ∀ i, i < m + 1 → nS (vT (nearL t n) k) (m + i) = nS t (vA (lvT t) i) := by
  obtain ⟨s, r, hC⟩ := near_is h hk
  have hl := h.lv
  rw [lvT_eq h] at hl
  have hL : (lvsL t n).length = m + 1 := by omega
  have hi : s.inn = m := by
    have h1 := Sh.all_len s
    have h2 := hC.len
    have h3 := hC.ok.perm.length_eq
    have h4 := Sh.lvs_inn s
    omega
  constructor
  · rw [hC.eq, hC.ok.lvs, hL, hi]
  · intro i hi'
    have h1 := NumOk.leaf_name (t := t) (L := lvsL t n) (s := s) (k := i) (by omega)
    rw [hi] at h1
    rw [hC.eq, h1, lvT_eq h]
/-- Twice: the neighbour of a neighbour. -/
theorem near2_lv {t : List Nd} {n j k m : Nat} (h : ClT t n) (hj : j < (nearL t n).length) (hk : k < (nearL (vT (nearL t n) j) n).length) (hm : n = 2 * m + 1) : lvT (vT (nearL (vT (nearL t n) j) n) k) = (List.range (m + 1)).map (fun i => m + i) ∧ ∀ i, i < m + 1 → nS (vT (nearL (vT (nearL t n) j) n) k) (m + i) = nS t (vA (lvT t) i) := by
  obtain ⟨a1, a2⟩ := near_lv h hj hm
  obtain ⟨b1, b2⟩ := near_lv (h.near hj) hk hm
  refine ⟨b1, fun i hi => ?_⟩
  have e : vA (lvT (vT (nearL t n) j)) i = m + i := by
    rw [a1]
    unfold vA
    rw [List.getD_eq_getElem?_getD, List.getElem?_map, List.getElem?_range hi]; rfl
  rw [b2 i hi, e, a2 i hi]
/-- The way back. -/
theorem near_ret {t : List Nd} {n j k : Nat} (h : ClT t n) (hj : j < (nearL t n).length) (hk : k < (nearL (vT (nearL t n) j) n).length) : ∃ i, i < (nearL (vT (nearL (vT (nearL t n) j) n) k) n).length ∧ vT (nearL (vT (nearL (vT (nearL t n) j) n) k) n) i = vT (nearL t n) j := by
  obtain ⟨s, r, hC⟩ := near_is h hj
  have hm : vT (nearL (vT (nearL t n) j) n) k ∈ nearL (vT (nearL t n) j) n := vT_mem hk
  obtain ⟨c, x, h0, hc, hx, e⟩ := mem_near.1 hm
  obtain ⟨c2, x2, q1, q2, q3, q4⟩ := near_back hC h0 hc hx
  rw [← e] at q3 q4
  have hin : vT (nearL t n) j ∈ nearL (vT (nearL (vT (nearL t n) j) n) k) n := mem_near.2 ⟨c2, x2, q1, q2, q3, q4.symm⟩
  obtain ⟨i, hi, e2⟩ := List.mem_iff_getElem.1 hin
  exact ⟨i, hi, (vT_get hi).trans e2⟩
end Go.Proofs.YtjmnakkkimgifaaDoor
namespace Go.Proofs.YtjmnakkkimgifaaDoor
open Go Go.RowKit Go.Shelf
/-- Is x among the first k? -/
def fndB (T : Nat → List Nd) (x : List Nd) (k : Nat) : Bool := (List.range k).any fun i => decide (T i = x)
theorem fndB_succ (T : Nat → List Nd) (x : List Nd) (k : Nat) : fndB T x (k + 1) = (fndB T x k || decide (T k = x)) := by
  unfold fndB; rw [List.range_succ, List.any_append]; simp
theorem fndB_of {T : Nat → List Nd} {x : List Nd} {k i : Nat} (hi : i < k) (h : T i = x) : fndB T x k = true := by
  unfold fndB; rw [List.any_eq_true]; exact ⟨i, List.mem_range.2 hi, by simpa using h⟩
set_option maxRecDepth 100000 in
set_option maxHeartbeats 8000000 in
theorem rtlaw_any (a : Option Addr) (n c : Nat) (l : List Nat) (v : Int) (w : World) (hl : l.length = n) (hN : n ≤ 1152921504606846976) (hA : Rd w a (fl enc8 l)) (hF : ∀ i, i < n → vA l i < 256) (hv0 : 0 ≤ v) (hv1 : v ≤ 255) :
    Calls Tryd.prog 4 #[.slice a n c, .int .u8 v] w fun e w' => e = .returned (.bool true) ∧ Below w.heap.size w w' := by
  have HG := Lib.hid (grownS_any a n c l w hl hN hA hF)
  obtain ⟨m, hm⟩ : ∃ m, m = min n 9 := ⟨_, rfl⟩
  rw [← hm] at HG
  have hm9 : m ≤ 9 := by omega
  have HM := Lib.hid hm
  obtain ⟨g1, g2, g3, g4⟩ := gr_all l hm9
  obtain ⟨t, ht⟩ : ∃ t, t = (gRun l m).1 := ⟨_, rfl⟩
  rw [← ht] at HG g1 g2 g3 g4
  obtain ⟨q, hq⟩ : ∃ q, q = 2 * m + 1 := ⟨_, rfl⟩
  rw [← hq] at HG g1 g3
  have hq19 : q ≤ 19 := by omega
  obtain ⟨u, rfl⟩ : ∃ u : Nat, v = u := ⟨v.toNat, by omega⟩
  have HCT : Hid (ClT t q) := ⟨g1, g2, g3⟩
  have HQ := Lib.hid hq
  have H4 := Lib.hid g4
  clear hl hA hF hm g1 g2 g3 g4 ht hq
  go_enter Tryd.func4, Tryd.ntmps4
  go_wp2_with fail
  refine HG.out.mono ?_
  rintro e w2 ⟨g, c', rfl, ho, hb⟩
  have HR2 := Lib.hid (rd_of_owns ho)
  have HB2 := Lib.hid hb
  clear ho hb HG
  obtain ⟨N, hNe⟩ : ∃ N, N = m + 1 := ⟨_, rfl⟩
  have HNE := Lib.hid hNe
  have e1 : (1 + min (n : Int) 9) = (N : Int) := by have := HM.out; omega
  clear hNe
  go_wp2_with fail
  clear e1
  obtain ⟨K, hK⟩ : ∃ K, K = q - 3 := ⟨_, rfl⟩
  have hmx : max (2 * (N : Int) - 4) 0 = (K : Int) := by have := HQ.out; have := HNE.out; omega
  have hN10 : N ≤ 10 := by have := HNE.out; omega
  have hK16 : K ≤ 16 := by omega
  have HKE := Lib.hid hK
  have HNX : Hid (∀ (W : World) (x : List Nd) (B : Option Addr) (e : Nat), ClT x q → Rd W B (fl encNd x) → Calls Tryd.prog 18 #[.slice B q e] W fun e w' => ∃ v rs, e = .returned (.tuple #[v, .int .i64 0]) ∧ TsW w' W.heap.size v K (vT (nearL x q)) rs ∧ Below W.heap.size W w') := fun W x B e hx hB => by
    have h := near_any B q e x W hx.1 (by omega) hB hx.small.2.2
    have hne : nearE x = 0 := by
      unfold nearE
      rw [if_neg (by rw [show chkE x = 0 from if_pos hx.2.1]; omega), if_pos (binB_iff.2 (by rw [hx.1]; exact hx.2.2))]
    have hnt : nearT x = nearL x q := by unfold nearT; rw [if_pos hne, hx.1]
    have hnl : (nearL x q).length = q - 3 := near_len hx.1 hx.2.1 hx.2.2
    rw [hne, hnt, hnl, ← HKE.out] at h
    exact h
  have HC1 := Lib.hid (HNX.out w2 t (some ⟨g, 0, none⟩) c' HCT.out HR2.out)
  clear hK
  refine HC1.out.mono ?_
  rintro e w3 ⟨v3, rs3, rfl, hts, hb3⟩
  obtain ⟨A3, c3, rfl, _⟩ := owns_slice hts.rows
  have HTS := Lib.hid hts
  have HB3 := Lib.hid hb3
  clear hts hb3 HC1
  have HW := Lib.hid works_any
  by_cases hK0 : K = 0
  · subst hK0
    have HW3 := Lib.hid (HW.out w3)
    go_wp2_with fail
    refine HW3.out.mono ?_
    rintro e w4 ⟨rfl, hb4⟩
    have HB4 := Lib.hid (bl_trans HB2.out (bl_trans HB3.out hb4))
    clear hb4
    go_wp2_with fail
    go_ret
    exact ⟨rfl, HB4.out⟩
  · obtain ⟨k, hk⟩ : ∃ k, k = u % K := ⟨_, rfl⟩
    have hkK : k < K := by rw [hk]; exact Nat.mod_lt _ (by omega)
    have hkm : ((u : Nat) : Int) % (K : Int) = (k : Int) := by rw [hk]; rfl
    obtain ⟨g3, cap3, e3, _, hg3, hcell⟩ := HTS.out.cell (by omega)
    injection e3 with e3 _ e3c
    subst e3
    subst e3c
    have G := hcell k hkK
    obtain ⟨ra, rc, hrs, hrd⟩ := HTS.out.rd hkK
    have hct : ClT (vT (nearL t q) k) q := HCT.out.near (by rw [near_len HCT.out.1 HCT.out.2.1 HCT.out.2.2, ← HKE.out]; exact hkK)
    rw [hrs, hct.1] at G
    replace G : w3.cell? ⟨g3, k, none⟩ = some (.slice ra q rc) := G
    have hk0 : (k : Int) < (K : Int) := by omega
    clear hk hcell hrs
    obtain ⟨one, hone⟩ : ∃ x, x = vT (nearL t q) k := ⟨_, rfl⟩
    rw [← hone] at hrd hct
    have HONE := Lib.hid hone
    have HCO := Lib.hid hct
    have HRO := Lib.hid hrd
    have HC2 := Lib.hid (HNX.out w3 one ra rc hct hrd)
    clear hone hct hrd
    go_wp2_with fail
    refine HC2.out.mono ?_
    rintro e w4 ⟨v4, rs4, rfl, hts, hb4⟩
    obtain ⟨A4, c4, rfl, _⟩ := owns_slice hts.rows
    have HTS4 := Lib.hid hts
    have HB4 := Lib.hid hb4
    clear hts hb4 HC2
    go_wp2_with fail
    have HR4 := Lib.hid (HR2.out.bl (bl_trans HB3.out HB4.out))
    have HC3 := rLeaves_any (some ⟨g, 0, none⟩) q c' t w4 HCT.out.1 (by omega) HR4.out HCT.out.small.2.2
    rw [show chkE t = 0 from if_pos HCT.out.2.1, H4.out, ← HNE.out] at HC3
    have HC3 := Lib.hid HC3
    refine HC3.out.mono ?_
    rintro e w5 ⟨v5, rfl, hl5, hb5⟩
    obtain ⟨A5, c5, rfl, _⟩ := owns_slice hl5
    have HL5 := Lib.hid hl5
    have HB5 := Lib.hid hb5
    clear hl5 hb5 HC3
    go_wp2_with fail
    have HW5 : Hid (Below w.heap.size w w5) := bl_trans HB2.out (bl_trans HB3.out (bl_trans HB4.out HB5.out))
    go_loopw [13] (fun x wr => ∃ j : Nat, j ≤ K ∧ x = .int .i64 j ∧ Hid (Below w5.heap.size w5 wr)) (fun x _ => K - (intOf x).toNat)
    case atStart => exact ⟨0, by omega, rfl, Below.refl _ _⟩
    case round =>
      obtain ⟨j, hj, rfl, hB⟩ := hrel
      by_cases hlt : j < K
      · obtain ⟨g4, cap4, e4, _, hg4, hcell⟩ := (HTS4.out.bl (bl_trans HB5.out hB.out)).cell (by omega)
        injection e4 with e4 _ e4c
        subst e4
        subst e4c
        have Gj := hcell j hlt
        obtain ⟨sa, sc, hrs, hrd⟩ := (HTS4.out.bl (bl_trans HB5.out hB.out)).rd hlt
        have hnl : (nearL one q).length = K := by rw [near_len HCO.out.1 HCO.out.2.1 HCO.out.2.2, ← HKE.out]
        have hct : ClT (vT (nearL one q) j) q := HCO.out.near (by rw [hnl]; exact hlt)
        rw [hrs, hct.1] at Gj
        replace Gj : wr.cell? ⟨g4, j, none⟩ = some (.slice sa q sc) := Gj
        obtain ⟨T, hT⟩ : ∃ x, x = vT (nearL one q) j := ⟨_, rfl⟩
        rw [← hT] at hrd hct
        have HTE := Lib.hid hT
        have HCTT := Lib.hid hct
        have HRT := Lib.hid hrd
        have HBN := Lib.hid (binary_any sa q sc T wr hct.1 (by omega) hrd hct.small.2.2)
        have hbp : binP T = true := by
          unfold binP
          rw [Bool.and_eq_true, decide_eq_true_eq, binB_iff, hct.1]
          exact ⟨if_pos hct.2.1, hct.2.2⟩
        have hce : chkE T = 0 := if_pos hct.2.1
        rw [hbp, hce] at HBN
        have HLT : Hid (lvT T = (List.range (m + 1)).map (fun i => m + i) ∧ ∀ i, i < m + 1 → nS T (m + i) = nS t (vA (lvT t) i)) := by
          have h1 : k < (nearL t q).length := by rw [near_len HCT.out.1 HCT.out.2.1 HCT.out.2.2, ← HKE.out]; exact hkK
          have h2 := near2_lv (j := k) (k := j) HCT.out h1 (by rw [← HONE.out, hnl]; exact hlt) HQ.out
          rw [← HONE.out, ← hT] at h2
          exact h2
        have HNR : Hid (fndB (vT (nearL T q)) one K = true) := by
          have h1 : k < (nearL t q).length := by rw [near_len HCT.out.1 HCT.out.2.1 HCT.out.2.2, ← HKE.out]; exact hkK
          obtain ⟨i, h2, h3⟩ := near_ret (j := k) (k := j) HCT.out h1 (by rw [← HONE.out, hnl]; exact hlt)
          rw [← HONE.out, ← hT] at h2 h3
          rw [near_len hct.1 hct.2.1 hct.2.2, ← HKE.out] at h2
          exact fndB_of h2 h3
        clear hT hrd hrs hcell hct hbp hce hnl
        go_wp2_with fail
        refine HBN.out.mono ?_
        rintro e wA ⟨rfl, hbA⟩
        have GA := (hbA.cell (p := ⟨g4, j, none⟩) hg4).trans Gj
        have hgA : g4 < wA.heap.size := Nat.lt_of_lt_of_le hg4 hbA.size
        have HRA := Lib.hid (HRT.out.bl hbA)
        have HBA := Lib.hid (bl_trans hB.out hbA)
        have HLV := Leaves_any sa q sc T wA HCTT.out.1 (by omega) HRA.out HCTT.out.small.2.2
        have hlt2 : (lvT T).length = N := by have h1 := HCTT.out.lv; have h2 := HQ.out; have h3 := HNE.out; omega
        rw [show chkE T = 0 from if_pos HCTT.out.2.1, hlt2] at HLV
        have HLV := Lib.hid HLV
        have HTL := Lib.hid hlt2
        clear hbA HBN Gj hg4 hlt2
        go_wp2_with fail
        refine HLV.out.mono ?_
        rintro e wB ⟨vB, rfl, hlB, hbB⟩
        obtain ⟨AB, cB, rfl, _⟩ := owns_slice hlB
        have GB := (hbB.cell (p := ⟨g4, j, none⟩) hgA).trans GA
        have hgB : g4 < wB.heap.size := Nat.lt_of_lt_of_le hgA hbB.size
        have HRB := Lib.hid (HRA.out.bl hbB)
        have HBB := Lib.hid (bl_trans HBA.out hbB)
        have HLB := Lib.hid (rd_of_owns hlB)
        clear hbB hlB HLV GA hgA
        go_wp2_with fail
        go_loopw [18] (fun x wr2 => ∃ i : Nat, i ≤ N ∧ x = .int .i64 i ∧ Hid (Below wB.heap.size wB wr2)) (fun x _ => N - (intOf x).toNat)
        case atStart => exact ⟨0, by omega, rfl, Below.refl _ _⟩
        case round =>
          obtain ⟨i, hi, rfl, hB2⟩ := hrel
          by_cases hiN : i < N
          · obtain ⟨bl, ol, rfl, hbl, hcl⟩ := rdI (HLB.out.bl hB2.out) (by rw [iN_len, HTL.out]; omega)
            have G1 := hcl i (by rw [iN_len, HTL.out]; exact hiN)
            obtain ⟨l1, l2⟩ := HLT.out
            have hi1 : i < m + 1 := by have := HNE.out; omega
            have hval : iA (iN (lvT T)) i = ((m + i : Nat) : Int) := by
              rw [iN_get, l1]
              unfold vA
              rw [List.getD_eq_getElem?_getD, List.getElem?_map, List.getElem?_range hi1]; rfl
            rw [hval] at G1
            have hnm := l2 i hi1
            have hB45 := bl_trans HB5.out (bl_trans HBB.out hB2.out)
            obtain ⟨bw, ow, rfl, hbw, hcw⟩ := rdI ((rd_of_owns HL5.out).bl (bl_trans HBB.out hB2.out)) (by rw [iN_len, H4.out]; omega)
            have G2 := hcw i (by rw [iN_len, H4.out]; exact hi1)
            rw [iN_get] at G2
            obtain ⟨x, hx⟩ : ∃ x, x = vA (lvT t) i := ⟨_, rfl⟩
            rw [← hx] at G2 hnm
            have hxq : x < q := by
              rw [hx, lvT_eq HCT.out]
              exact (lvs_at t q i (by rw [← lvT_eq HCT.out, H4.out]; exact hi1)).1
            obtain ⟨bt, ot, et, hbt, hct⟩ := rdNd (HRB.out.bl hB2.out) (by rw [HCTT.out.1]; omega)
            subst et
            have G3 := (hct (m + i) (by rw [HCTT.out.1]; have := HQ.out; omega)).2
            rw [hnm] at G3
            obtain ⟨bs, os, es, hbs, hcs⟩ := rdNd (HR4.out.bl hB45) (by rw [HCT.out.1]; omega)
            injection es with es
            injection es with es1 es2
            subst es1
            subst es2
            have G4 := (hcs x (by rw [HCT.out.1]; exact hxq)).2
            simp only [Nat.zero_add] at G4
            have GBi := (hB2.out.cell (p := ⟨g4, j, none⟩) hgB).trans GB
            obtain ⟨st, hst⟩ : ∃ st, st = nS t x := ⟨_, rfl⟩
            rw [← hst] at G3 G4
            have s1 : ((N : Int) - 1 + (i : Int)) = ((m + i : Nat) : Int) := by have := HNE.out; omega
            have s2 : m + i < q := by have := HQ.out; omega
            obtain ⟨y, hy⟩ : ∃ y, y = m + i := ⟨_, rfl⟩
            rw [← hy] at s1 s2 G1 G3
            have W1 : IntKind.i64.wrap ((N : Int) - 1) = (m : Int) := wrap_nat _ _ (by have := HNE.out; omega) (by omega)
            have W2 : IntKind.i64.wrap ((m : Int) + (i : Int)) = (y : Int) := wrap_nat _ _ (by omega) (by omega)
            have t1 : ((y : Int) != (y : Int)) = false := by simp
            have t2 : ((y : Int) == (y : Int)) = true := by simp
            clear hcl hcw hct hcs l1 l2 hval hnm hx hst hy
            go_wp2_with fail
            go_quiet (fail)
            have hB3 := Lib.hid (bl_drewN hB2.out nq)
            clear G1 G2 G3 G4 GBi s1 s2 W1 W2 t1 t2 hB45 hB2
            go_wp2_with fail
            go_roundw
            case rel => exact ⟨i + 1, by omega, by go_num, hB3⟩
            case measure => simp [intOf]; omega
          · have hiN' : i = N := by omega
            have GN := (hB2.out.cell (p := ⟨g4, j, none⟩) hgB).trans GB
            have HRN := Lib.hid (HRB.out.bl hB2.out)
            have HC4 := Lib.hid (HNX.out wr T sa sc HCTT.out HRN.out)
            have HBN2 := Lib.hid (bl_trans HBB.out hB2.out)
            have hiN2 : ¬ (i : Int) < (N : Int) := by omega
            clear hiN hiN' hi GB hB2 HRB HLB HLT
            go_wp2_with fail
            refine HC4.out.mono ?_
            rintro e wC ⟨vC, rsC, rfl, htsC, hbC⟩
            obtain ⟨AC, cC, rfl, _⟩ := owns_slice htsC.rows
            have HTC := Lib.hid htsC
            have HBC := Lib.hid (bl_trans HBN2.out hbC)
            have HROC := Lib.hid (HRO.out.bl (bl_trans HB4.out (bl_trans HB5.out HBC.out)))
            clear htsC hbC HC4 GN HRN HBN2 hiN2
            go_wp2_with fail
            go_loopw [21, 22] (fun f x wf => ∃ z : Nat, z ≤ K ∧ x = .int .i64 z ∧ f = .bool (fndB (vT (nearL T q)) one z) ∧ Hid (Below wC.heap.size wC wf)) (fun _ x _ => K - (intOf x).toNat)
            case atStart => exact ⟨0, by omega, rfl, rfl, Below.refl _ _⟩
            case round =>
              obtain ⟨z, hz, rfl, rfl, hB3⟩ := hrel
              by_cases hzK : z < K
              · have HSU := Lib.hid (fndB_succ (vT (nearL T q)) one z)
                cases hf : fndB (vT (nearL T q)) one z
                · rw [hf, Bool.false_or] at HSU
                  obtain ⟨gC, capC, eC, _, hgC, hcell⟩ := (HTC.out.bl hB3.out).cell (by omega)
                  injection eC with eC _ eCc
                  subst eC
                  subst eCc
                  have Gz := hcell z hzK
                  obtain ⟨za, zc, hrs, hrd⟩ := (HTC.out.bl hB3.out).rd hzK
                  have hnl : (nearL T q).length = K := by rw [near_len HCTT.out.1 HCTT.out.2.1 HCTT.out.2.2, ← HKE.out]
                  have hct : ClT (vT (nearL T q) z) q := HCTT.out.near (by rw [hnl]; exact hzK)
                  rw [hrs, hct.1] at Gz
                  replace Gz : wr.cell? ⟨gC, z, none⟩ = some (.slice za q zc) := Gz
                  have HS := Lib.hid (same2_any za ra q q zc rc (vT (nearL T q) z) one wr hct.1 HCO.out.1 (by omega) (by omega) hrd (HROC.out.bl hB3.out))
                  clear hf hcell hrs hrd hnl hct hgC
                  go_wp2_with fail
                  refine HS.out.mono ?_
                  rintro e wz ⟨rfl, nz, rfl⟩
                  have hB4 := Lib.hid (bl_drewN hB3.out nz)
                  clear HS Gz hB3
                  go_wp2_with fail
                  go_roundw
                  case rel => exact ⟨z + 1, by omega, by go_num, by rw [HSU.out], hB4⟩
                  case measure => simp [intOf]; omega
                · rw [hf, Bool.true_or] at HSU
                  clear hf
                  go_wp2_with fail
                  go_roundw
                  case rel => exact ⟨z + 1, by omega, by go_num, by rw [HSU.out], hB3⟩
                  case measure => simp [intOf]; omega
              · have hzK' : z = K := by omega
                subst hzK'
                rw [HNR.out]
                have hB4 := Lib.hid (bl_trans HBC.out hB3.out)
                clear hB3 hzK
                go_wp2_with fail
                go_roundw
                case rel => exact ⟨j + 1, by omega, by go_num, hB4⟩
                case measure => simp [intOf]; omega
      · have hjk : j = K := by omega
        subst hjk
        have HW6 := Lib.hid (HW.out wr)
        have HB6 := Lib.hid (bl_trans HW5.out hB.out)
        clear hB
        go_wp2_with fail
        refine HW6.out.mono ?_
        rintro e w7 ⟨rfl, hb7⟩
        have HB7 := Lib.hid (bl_trans HB6.out hb7)
        clear hb7
        go_wp2_with fail
        go_ret
        exact ⟨rfl, HB7.out⟩
end Go.Proofs.YtjmnakkkimgifaaDoor
namespace Go.Proofs.YtjmnakkkimgifaaDoor
open Go Go.RowKit Go.Shelf
theorem tr_all (k : Nat) (h : k < 5) : ((soP (k + 1)).all fun ps => decide (TreeOk (ndL k ps)) && binB (ndL k ps) (2 * k + 1) && decide ((lvT (ndL k ps)).length = k + 1)) = true := by
  match k, h with
  | 0, _ => decide +kernel
  | 1, _ => decide +kernel
  | 2, _ => decide +kernel
  | 3, _ => decide +kernel
  | 4, _ => decide +kernel
/-- Tree i of N + 1 leaves, by its parents. -/
def trPs (N i : Nat) : List Int := (soP (N + 1)).getD i []
theorem tr_at {N i : Nat} (h : N < 5) (hi : i < (soP (N + 1)).length) : vT (trL ((N + 1 : Nat) : Int)) i = ndL N (trPs N i) ∧ (trPs N i).length = 2 * N + 1 ∧ ClT (ndL N (trPs N i)) (2 * N + 1) ∧ (lvT (ndL N (trPs N i))).length = N + 1 := by
  have hm : trPs N i ∈ soP (N + 1) := by
    unfold trPs; rw [List.getD_eq_getElem?_getD, List.getElem?_eq_getElem hi]; exact List.getElem_mem _
  have h1 := tr_all N h
  rw [List.all_eq_true] at h1
  have h2 := h1 _ hm
  rw [Bool.and_eq_true, Bool.and_eq_true, decide_eq_true_eq, decide_eq_true_eq] at h2
  have h3 := soP_asc N h
  rw [Bool.and_eq_true, List.all_eq_true] at h3
  have h4 := h3.2 _ hm
  rw [decide_eq_true_eq] at h4
  have hl : (ndL N (trPs N i)).length = 2 * N + 1 := by unfold ndL; rw [List.length_map, List.length_range, h4]
  refine ⟨?_, h4, ⟨hl, h2.1.1, binB_iff.1 h2.1.2⟩, h2.2⟩
  rw [trL_nd, if_pos (by omega), Int.toNat_natCast, Nat.add_sub_cancel]
  unfold vT trPs
  rw [List.getD_eq_getElem?_getD, List.getElem?_map, List.getD_eq_getElem?_getD, List.getElem?_eq_getElem hi]; rfl
theorem tr_lt {N i : Nat} (h : N < 5) (hi : i + 1 < (soP (N + 1)).length) : lexB (trPs N i) (trPs N (i + 1)) = true := by
  have h3 := soP_asc N h
  rw [Bool.and_eq_true] at h3
  have h4 := h3.1
  unfold ascB at h4
  rw [List.all_eq_true] at h4
  exact h4 i (List.mem_range.2 (by omega))
theorem tr_len {N : Nat} (h : N < 5) : (trL ((N + 1 : Nat) : Int)).length = (soP (N + 1)).length := by rw [(trL_in h).2, List.length_map]
theorem so_len (N : Nat) : (#[(1 : Int), 1, 3, 15, 105][N]?).getD 0 = if N < 5 then ((soP (N + 1)).length : Int) else 0 := by
  match N with
  | 0 => rfl
  | 1 => rfl
  | 2 => rfl
  | 3 => rfl
  | 4 => rfl
  | n + 5 => rw [if_neg (by omega)]; rfl
/-- The first k parents are the same. -/
def EqTo (P Q : List Int) (k : Nat) : Prop := P.take k = Q.take k
theorem lex_step : ∀ (k : Nat) (P Q : List Int), k < P.length → k < Q.length → P.take k = Q.take k → iA P k ≠ iA Q k → lexB P Q = decide (iA P k < iA Q k)
  | 0, a :: l, b :: m, _, _, _, h => by
    have h' : a ≠ b := h
    show (decide (a < b) || (decide (a = b) && lexB l m)) = decide (a < b)
    rw [decide_eq_false h', Bool.false_and, Bool.or_false]
  | k + 1, a :: l, b :: m, h1, h2, h3, h => by
    rw [List.take_succ_cons, List.take_succ_cons] at h3
    injection h3 with h4 h5
    have ih := lex_step k l m (by simpa using h1) (by simpa using h2) h5 h
    show (decide (a < b) || (decide (a = b) && lexB l m)) = decide (iA l k < iA m k)
    rw [h4, decide_eq_true (rfl : b = b), decide_eq_false (Int.lt_irrefl b), Bool.false_or, Bool.true_and, ih]
theorem lex_end : ∀ (P Q : List Int), (P.length ≤ Q.length ∧ P = Q.take P.length) ∨ (Q.length ≤ P.length ∧ P.take Q.length = Q) → lexB P Q = false
  | [], _, _ => rfl
  | _ :: _, [], _ => rfl
  | a :: l, b :: m, h => by
    have hh : a = b ∧ ((l.length ≤ m.length ∧ l = m.take l.length) ∨ (m.length ≤ l.length ∧ l.take m.length = m)) := by
      rcases h with ⟨h1, h2⟩ | ⟨h1, h2⟩
      · rw [List.length_cons, List.take_succ_cons] at h2
        injection h2 with h3 h4
        exact ⟨h3, .inl ⟨by simpa using h1, h4⟩⟩
      · rw [List.length_cons, List.take_succ_cons] at h2
        injection h2 with h3 h4
        exact ⟨h3, .inr ⟨by simpa using h1, h4⟩⟩
    show (decide (a < b) || (decide (a = b) && lexB l m)) = false
    rw [hh.1, decide_eq_false (Int.lt_irrefl b), lex_end l m hh.2, Bool.and_false]; rfl
theorem eqTo_step {P Q : List Int} {k : Nat} (h : EqTo P Q k) (h1 : k < P.length) (h2 : k < Q.length) (e : iA P k = iA Q k) : EqTo P Q (k + 1) := eqI_step' P Q k h h1 h2 e
theorem lex_eq {P Q : List Int} {n m : Nat} (hP : P.length = n) (hQ : Q.length = m) {k : Nat} (hk1 : k ≤ n) (hk2 : k ≤ m) (h : EqTo P Q k) (hk : k = n ∨ k = m) : lexB P Q = false := by
  subst hP hQ
  refine lex_end P Q ?_
  unfold EqTo at h
  rcases hk with rfl | rfl
  · exact .inl ⟨hk2, by rw [← h, List.take_length]⟩
  · exact .inr ⟨hk1, by rw [h, List.take_length]⟩
end Go.Proofs.YtjmnakkkimgifaaDoor
namespace Go.Proofs.YtjmnakkkimgifaaDoor
open Go Go.RowKit Go.Shelf
set_option maxRecDepth 100000 in
set_option maxHeartbeats 2000000 in
theorem before_any (a1 a2 : Option Addr) (n1 n2 c1 c2 : Nat) (S T : List Nd) (w : World) (hs : S.length = n1) (ht : T.length = n2) (hm : n1 ≤ 1152921504606846976) (hm2 : n2 ≤ 1152921504606846976) (hA : Rd w a1 (fl encNd S)) (hB : Rd w a2 (fl encNd T)) :
    Calls Tryd.prog 14 #[.slice a1 n1 c1, .slice a2 n2 c2] w fun e w' => e = .returned (.bool (lexB (parL S) (parL T))) ∧ ∃ n, w' = w.drewN n := by
  have HS := Lib.hid hs
  have HT := Lib.hid ht
  have HPS : Hid ((parL S).length = n1) := by show _ = _; unfold parL; rw [List.length_map]; exact hs
  have HPT : Hid ((parL T).length = n2) := by show _ = _; unfold parL; rw [List.length_map]; exact ht
  clear hs ht
  go_enter Tryd.func14, Tryd.ntmps14
  go_wp2_with fail
  go_loopw [5] (fun x wr => ∃ k : Nat, k ≤ n1 ∧ k ≤ n2 ∧ x = .int .i64 k ∧ Hid (EqTo (parL S) (parL T) k) ∧ ∃ m, wr = w.drewN m) (fun x _ => n1 - (intOf x).toNat)
  case atStart => exact ⟨0, by omega, by omega, rfl, by show EqTo _ _ _; unfold EqTo; simp, 0, rfl⟩
  case round =>
    obtain ⟨k, hk1, hk2, rfl, hE, m, rfl⟩ := hrel
    by_cases hlt : k < n1 ∧ k < n2
    · obtain ⟨h1, h2⟩ := hlt
      obtain ⟨b1, o1, rfl, _, hc1⟩ := rdNd hA (by rw [HS.out]; omega)
      obtain ⟨b2, o2, rfl, _, hc2⟩ := rdNd hB (by rw [HT.out]; omega)
      have G1 := (hc1 k (by rw [HS.out]; omega)).1
      have G3 := (hc2 k (by rw [HT.out]; omega)).1
      clear hc1 hc2 hA hB
      obtain ⟨p, hp⟩ : ∃ p, p = nP S k := ⟨_, rfl⟩
      obtain ⟨q, hq⟩ : ∃ p, p = nP T k := ⟨_, rfl⟩
      rw [← hp] at G1
      rw [← hq] at G3
      rw [nP_of_parL] at hp hq
      have HP := Lib.hid hp
      have HQ := Lib.hid hq
      clear hp hq
      by_cases e : p = q
      · subst e
        have HE2 := Lib.hid (eqTo_step hE.out (by rw [HPS.out]; exact h1) (by rw [HPT.out]; exact h2) (by rw [← HP.out, ← HQ.out]))
        clear hE
        go_wp2_with fail
        go_quiet (fail)
        go_wp2_with fail
        go_roundw
        case rel => exact ⟨k + 1, by omega, by omega, by go_num, HE2, m + nq, by simp⟩
        case measure => simp [intOf]; omega
      · have HL := Lib.hid (lex_step k _ _ (by rw [HPS.out]; exact h1) (by rw [HPT.out]; exact h2) hE.out (by rw [← HP.out, ← HQ.out]; exact e))
        rw [← HP.out, ← HQ.out] at HL
        have t1 : (p != q) = true := by simpa using e
        have t2 : (p == q) = false := by simpa using e
        clear e hE
        go_wp2_with fail
        go_quiet (fail)
        go_wp2_with fail
        generalize nq = nq0
        go_quiet (fail)
        go_wp2_with fail
        go_ret
        exact ⟨ret_b HL.out.symm, m + nq0 + nq, by simp⟩
    · have HL : Hid (lexB (parL S) (parL T) = false) := lex_eq HPS.out HPT.out hk1 hk2 hE.out (by omega)
      by_cases h1 : k < n1
      · have h2 : ¬ k < n2 := fun h2 => hlt ⟨h1, h2⟩
        clear hlt hE
        go_wp2_with fail
        go_ret
        exact ⟨ret_b HL.out.symm, m, rfl⟩
      · clear hlt hE
        go_wp2_with fail
        go_ret
        exact ⟨ret_b HL.out.symm, m, rfl⟩
end Go.Proofs.YtjmnakkkimgifaaDoor
namespace Go.Proofs.YtjmnakkkimgifaaDoor
open Go Go.RowKit Go.Shelf
theorem five_cell {N C : Nat} (hN : N < 5) (hC : C = (soP (N + 1)).length) (W : World) : (W.alloc (.cells #[.int .i64 1, .int .i64 1, .int .i64 3, .int .i64 15, .int .i64 105] 3)).cell? ⟨W.heap.size, N, none⟩ = some (.int .i64 C) := by
  have h := (Blk.new W #[.int .i64 1, .int .i64 1, .int .i64 3, .int .i64 15, .int .i64 105] 3).cell N
  rw [h, hC]
  match N, hN with
  | 0, _ => rfl
  | 1, _ => rfl
  | 2, _ => rfl
  | 3, _ => rfl
  | 4, _ => rfl
theorem info_U8 : (Tryd.prog.info? 5).map (fun i => (i.zero, i.size, i.bytes)) = some (some (.int .u8 0), 1, 1) := by kernel_rfl
set_option maxRecDepth 100000 in
set_option maxHeartbeats 8000000 in
theorem trlaw33_any (v : Int) (b : Option Addr) (m d : Nat) (has : List Nat) (w : World) (hv0 : 0 ≤ v) (hv1 : v ≤ 255)
    (hm : has.length = m) (hM : m ≤ 1152921504606846976) (hB : Rd w b (fl enc16 has)) (hG : ∀ i, i < m → vA has i < 65536) :
    Calls Tryd.prog 3 #[.int .u8 v, .slice b m d] w fun e w' => e = .returned (.bool true) ∧ Below w.heap.size w w' := by
  obtain ⟨u, rfl⟩ : ∃ u : Nat, v = u := ⟨v.toNat, by omega⟩
  obtain ⟨N, hN⟩ : ∃ N, N = u % 5 := ⟨_, rfl⟩
  have hN5 : N < 5 := by omega
  obtain ⟨M, hMe⟩ : ∃ M, M = N + 1 := ⟨_, rfl⟩
  obtain ⟨C, hC⟩ : ∃ C, C = (soP (N + 1)).length := ⟨_, rfl⟩
  have hC1 : 1 ≤ C ∧ C ≤ 105 := by rw [hC, soP_len N hN5]; exact trP_len N hN5
  obtain ⟨q, hq⟩ : ∃ q, q = 2 * N + 1 := ⟨_, rfl⟩
  have hkm : ((u : Nat) : Int) % 5 = (N : Int) := by rw [hN]; rfl
  have e1 : (1 : Int) + (N : Int) = (M : Int) := by omega
  have e2 : (M : Int) - 1 = (N : Int) := by omega
  obtain ⟨T, hT⟩ : ∃ T : Nat → List Nd, T = fun i => ndL N (trPs N i) := ⟨_, rfl⟩
  have HT1 : Hid (∀ W, Calls Tryd.prog 9 #[.int .i64 M] W fun e w' => ∃ v rs, e = .returned (.tuple #[v, .int .i64 0]) ∧ TsW w' W.heap.size v C T rs ∧ Below W.heap.size W w') := fun W => by
    have h := trees_any (M : Int) W (by omega) (by omega)
    refine h.mono ?_
    rintro e w' ⟨v, rs, h1, h2, h3⟩
    rw [hMe] at h1 h2
    rw [(trL_in hN5).1] at h1
    rw [tr_len hN5, ← hC] at h2
    exact ⟨v, rs, h1, h2.congr (fun i hi => by rw [hT, (tr_at hN5 (by rw [← hC]; exact hi)).1]), h3⟩
  have HTT : Hid (∀ i, i < C → ClT (T i) q ∧ (lvT (T i)).length = M ∧ parL (T i) = trPs N i ∧ ∀ v, v < q → nS (T i) v = ndN N v) := fun i hi => by
    obtain ⟨h1, h2, h3, h4⟩ := tr_at hN5 (i := i) (by rw [← hC]; exact hi)
    rw [hT, hMe, hq]
    refine ⟨h3, h4, ?_, fun v hv => ?_⟩
    · show parL (ndL N (trPs N i)) = _
      unfold parL ndL
      rw [List.map_map]
      apply List.ext_getElem
      · rw [List.length_map, List.length_range]
      · intro j j1 j2
        rw [List.getElem_map, List.getElem_range]
        show iA _ j = _
        exact iA_get j2
    · show nS (ndL N (trPs N i)) v = _
      unfold nS ndL
      rw [List.getD_eq_getElem?_getD, List.getElem?_map, List.getElem?_range (by omega)]; rfl
  have HLX : Hid (∀ i, i + 1 < C → lexB (trPs N i) (trPs N (i + 1)) = true) := fun i hi => tr_lt hN5 (by rw [← hC]; exact hi)
  obtain ⟨L, hLe⟩ : ∃ L, L = mdL M has := ⟨_, rfl⟩
  have hLlt : ∀ x, x ∈ L → x < 2 ^ M := by rw [hLe]; exact mdL_lt
  have hLn : L.length ≤ 8 := by rw [hLe, mdL_len]; omega
  obtain ⟨p, hp⟩ : ∃ p, p = L.length := ⟨_, rfl⟩
  have hp8 : p ≤ 8 := by omega
  have h2N := Nat.two_pow_pos M
  have h2m : 2 ^ M ≤ 32 := Nat.pow_le_pow_right (n := 2) (j := 5) (by omega) (by omega)
  have HFL : Hid (FitV L) := fun i hi => by
    have := hLlt (vA L i) (by rw [vA_get (by omega)]; exact List.getElem_mem _)
    omega
  have HMD : Hid (∀ W (A : Option Addr) (c : Nat), Below w.heap.size w W → Calls Tryd.prog 10 #[.slice A N c, .slice b m d] W fun e w' => ∃ v, e = .returned (.agg #[.int .i64 M, v]) ∧ w'.ownsRow W.heap.size 52 1 v p (fl encV L) ∧ Below W.heap.size W w') := fun W A c hW => by
    have h := made_any A N c b m d (List.replicate N 0) has W (by omega) hm hM (hB.bl hW) hG
    rw [show 1 + min N 9 = M by omega, ← hLe, ← hp] at h
    exact h
  have HCK : Hid (∀ i, i < C → chkP (M : Int) L (T i) = 0) := fun i hi => by
    obtain ⟨h1, h2, _⟩ := HTT.out i hi
    exact chk_gr h1.2.1 h2 (by omega) (by omega) hLlt
  have hbe : bstE (M : Int) L = 0 := by
    have h1 := (chkP_ok (HCK.out 0 (by omega))).1
    unfold bstE
    rw [if_neg (by omega), hMe, (trL_in hN5).1]
  obtain ⟨f, hf⟩ : ∃ f : Nat → Nat, f = fun k => lenS (M : Int) L (T k) := ⟨_, rfl⟩
  obtain ⟨I, hI⟩ : ∃ I, I = minI f C := ⟨_, rfl⟩
  have hIC : I < C := by rw [hI]; exact minI_lt f C (by omega)
  have HMI : Hid (∀ i, i < C → f I ≤ f i ∧ (f i = f I → I ≤ i)) := fun i hi => by rw [hI]; exact minI_le f C i hi
  have hbt : bstT (M : Int) L = T I := by
    have hfe : ∀ k, k < C → lenS (M : Int) L (vT (trL (M : Int)) k) = f k := fun k hk => by
      rw [hf, hT, hMe, (tr_at hN5 (by rw [← hC]; exact hk)).1]
    have hbi : bstI (M : Int) L = I := by
      unfold bstI
      rw [hI, show (trL (M : Int)).length = C by rw [hMe, tr_len hN5, hC]]
      have : ∀ n, n ≤ C → minI (fun k => lenS (M : Int) L (vT (trL (M : Int)) k)) n = minI f n := by
        intro n
        induction n with
        | zero => intro _; rfl
        | succ n ih =>
          intro hn
          have h1 := ih (by omega)
          unfold minI
          rw [h1]
          by_cases hn0 : n = 0
          · rw [if_pos (.inl hn0), if_pos (.inl hn0)]
          · have hml := minI_lt f n (by omega)
            show (if n = 0 ∨ lenS (M : Int) L (vT (trL (M : Int)) n) < lenS (M : Int) L (vT (trL (M : Int)) (minI f n)) then _ else _) = _
            rw [hfe n (by omega), hfe _ (by omega)]
      exact this C (Nat.le_refl _)
    unfold bstT
    rw [hbi, hT, hMe, (tr_at hN5 (by rw [← hC]; exact hIC)).1]
  have HBE : Hid (∀ (W : World) (A : Option Addr) (c : Nat), Rd W A (fl encV L) → Calls Tryd.prog 11 #[.agg #[.int .i64 M, .slice A p c]] W fun e w' => ∃ b o c, e = .returned (.tuple #[.slice (some ⟨b, o, none⟩) q c, .int .i64 (f I : Nat), .int .i64 0]) ∧ Rd w' (some ⟨b, o, none⟩) (fl encNd (T I)) ∧ Below W.heap.size W w') := fun W A c hA => by
    refine (best_any (M : Int) A p c L W (by omega) (by omega) hp.symm (by omega) hA HFL.out).mono ?_
    rintro e w' ⟨v, rfl, _, h2, h3⟩
    obtain ⟨b, o, c, rfl, hr⟩ := h2 hbe
    rw [if_pos hbe, hbe, hbt, (HTT.out I hIC).1.1]
    rw [hbt] at hr
    rw [hf]
    exact ⟨b, o, c, rfl, hr, h3⟩
  have HLE : Hid (∀ (W : World) (i : Nat) (A : Option Addr) (c : Nat) (B : Option Addr) (e : Nat), i < C → Rd W A (fl encV L) → Rd W B (fl encNd (T i)) → Calls Tryd.prog 13 #[.agg #[.int .i64 M, .slice A p c], .slice B q e] W fun e w' => e = .returned (.tuple #[.int .i64 (f i : Nat), .int .i64 0]) ∧ Below W.heap.size W w') := fun W i A c B e hi hA hB => by
    have hx := (HTT.out i hi).1
    have h := length_any (M : Int) A p c L B q e (T i) W hp.symm (by omega) hA HFL.out hx.1 (by omega) hB hx.small.2.2
    rw [HCK.out i hi] at h
    rw [hf]
    exact h
  have HFB : Hid (∀ i, f i ≤ 2048) := fun i => by rw [hf]; exact lenS_le _ _ _
  obtain ⟨i8, hi8, hz8, hz81, hz82⟩ := info_parts info_U8
  have HMK : Hid (∀ W : World, _) := fun W : World => by
    have hmk := run_make (P := Tryd.prog) W 32 5 i8 _ Tryd.underlying32 hi8 hz8 .i64 .i64 (N : Int) (N : Int) (by omega) (by omega) (by rw [hz82]; omega) (by omega)
    simp only [hz81, Int.toNat_natCast, Nat.mul_one] at hmk
    exact hmk
  have HQ := Lib.hid hq
  have HME := Lib.hid hMe
  have H5 : Hid (∀ W : World, (W.alloc (.cells #[.int .i64 1, .int .i64 1, .int .i64 3, .int .i64 15, .int .i64 105] 3)).cell? ⟨W.heap.size, N, none⟩ = some (.int .i64 C)) := fun W => five_cell hN5 hC W
  have hq9 : q ≤ 9 := by omega
  have hM5 : M ≤ 5 := by omega
  have HBh := Lib.hid hB
  clear hbt hf hI hbe hLlt hLe hLn hp hT hq hC hMe hN hG hm hi8 hz8 hz81 hz82 h2N h2m hB
  have HW := Lib.hid works_any
  go_enter Tryd.func3, Tryd.ntmps3
  go_wp2_with fail
  refine (HT1.out w).mono ?_
  rintro e w2 ⟨v2, rs, rfl, hts, hb2⟩
  obtain ⟨A2, c2, rfl, _⟩ := owns_slice hts.rows
  have HTS2 := Lib.hid hts
  have HB2 := Lib.hid hb2
  have h5 := H5.out w2
  have hb3 := bl_trans hb2 (bl_alloc (Below.refl _ w2) (.cells #[.int .i64 1, .int .i64 1, .int .i64 3, .int .i64 15, .int .i64 105] 3))
  have HTS3 := Lib.hid (hts.bl (bl_alloc (Below.refl _ w2) (.cells #[.int .i64 1, .int .i64 1, .int .i64 3, .int .i64 15, .int .i64 105] 3)))
  have HB3 := Lib.hid hb3
  clear hts hb2 hb3 HT1 HTS2 HB2
  go_upto_region 5 with fail
  obtain ⟨w3, hw3⟩ : ∃ x, x = w2.alloc (.cells #[.int .i64 1, .int .i64 1, .int .i64 3, .int .i64 15, .int .i64 105] 3) := ⟨_, rfl⟩
  rw [← hw3] at HTS3 HB3 ⊢
  clear hw3 h5
  have hmk := HMK.out w3
  have hba := bl_alloc (Below.refl _ w3) (.cells (madeCells #[.int .u8 0] N) 5)
  go_wp2_with fail
  refine (HMD.out _ _ _ (bl_trans HB3.out hba)).mono ?_
  rintro e w4 ⟨v4, rfl, ho4, hb4⟩
  obtain ⟨A, cp, rfl, _⟩ := owns_slice ho4
  have HR4 := Lib.hid (rd_of_owns ho4)
  have hb34 := bl_trans hba hb4
  have HTS4 := Lib.hid (HTS3.out.bl hb34)
  have HB4 := Lib.hid (bl_trans HB3.out hb34)
  clear hb34 ho4 hb4 hba hmk HMK HMD HTS3 HB3
  go_upto_region 6 with fail
  have hb5 := bl_alloc (Below.refl _ w4) (.cells #[.int .i64 M, .slice A p cp] 30)
  have HX5 := Lib.hid (Blk.new w4 #[.int .i64 M, .slice A p cp] 30)
  have HTS5 := Lib.hid (HTS4.out.bl hb5)
  have HR5 := Lib.hid (HR4.out.bl hb5)
  have HB5 := Lib.hid (bl_trans HB4.out hb5)
  clear hb5 HTS4 HB4 HR4
  obtain ⟨X, hX⟩ : ∃ X, X = w4.heap.size := ⟨_, rfl⟩
  obtain ⟨w5, hw5⟩ : ∃ x, x = w4.alloc (.cells #[.int .i64 M, .slice A p cp] 30) := ⟨_, rfl⟩
  rw [← hX] at HX5 ⊢
  rw [← hw5] at HX5 HTS5 HR5 HB5 ⊢
  clear hX hw5
  have c50 : w5.cell? ⟨X, 0, none⟩ = some (.int .i64 M) := HX5.out.cell 0
  have c51 : w5.cell? ⟨X, 1, none⟩ = some (.slice A p cp) := HX5.out.cell 1
  have HC1 := Lib.hid (HBE.out w5 A cp HR5.out)
  go_wp2_with fail
  refine HC1.out.mono ?_
  rintro e w6 ⟨b6, o6, c6, rfl, hr6, hb6⟩
  have HS6 := Lib.hid hr6
  have HTS6 := Lib.hid (HTS5.out.bl hb6)
  have HR6 := Lib.hid (HR5.out.bl hb6)
  have HB6 := Lib.hid (bl_trans HB5.out hb6)
  have HX6 := Lib.hid (HX5.out.below hb6)
  have HFI := Lib.hid (HMI.out)
  obtain ⟨fI, hfI⟩ : ∃ x, x = f I := ⟨_, rfl⟩
  rw [← hfI] at HFI ⊢
  have hfI2 : fI ≤ 2048 := by rw [hfI]; exact HFB.out I
  have HFE := Lib.hid hfI
  clear hr6 hb6 HTS5 HR5 HB5 HX5 c50 c51 HC1 HBE hfI HMI
  go_wp2_with fail
  go_loopw [12, 13] (fun y x wr => ∃ (i : Nat) (fd : Bool), i ≤ C ∧ x = .int .i64 i ∧ y = .bool fd ∧ Hid (fd = decide (I < i)) ∧ Hid (Below w6.heap.size w6 wr)) (fun _ x _ => C - (intOf x).toNat)
  case atStart => exact ⟨0, false, by omega, rfl, rfl, (decide_eq_false (by omega)).symm, Below.refl _ _⟩
  case round =>
    obtain ⟨i, fd, hi, rfl, rfl, hfd, hB⟩ := hrel
    obtain ⟨wo, rfl⟩ : ∃ wo : World, wo = wr := ⟨_, rfl⟩
    by_cases hlt : i < C
    · have hts := HTS6.out.bl hB.out
      obtain ⟨g2, cap2, e2', _, hg2, hcell⟩ := hts.cell (by omega)
      injection e2' with e2' _ e2c
      subst e2'
      subst e2c
      have G := hcell i hlt
      obtain ⟨ra, rc, hrs, hrd⟩ := hts.rd hlt
      obtain ⟨t1, t2, t3, t4⟩ := HTT.out i hlt
      rw [hrs, t1.1] at G
      replace G : wo.cell? ⟨g2, i, none⟩ = some (.slice ra q rc) := G
      have HRI := Lib.hid hrd
      have HBN := binary_any ra q rc (T i) wo t1.1 (by omega) hrd t1.small.2.2
      have hbp : binP (T i) = true := by
        unfold binP
        rw [Bool.and_eq_true, decide_eq_true_eq, binB_iff, t1.1]
        exact ⟨if_pos t1.2.1, t1.2.2⟩
      rw [hbp, show chkE (T i) = 0 from if_pos t1.2.1] at HBN
      have HBN := Lib.hid HBN
      have HT4 := Lib.hid t4
      have HT3 := Lib.hid t3
      have HTO := Lib.hid t1
      have HWG := Lib.hid (fun (W : World) (h : Below wo.heap.size wo W) => ((h.cell (p := ⟨g2, i, none⟩) hg2).trans G : W.cell? ⟨g2, i, none⟩ = some (.slice ra q rc)))
      have HWX := Lib.hid (fun (W : World) (h : Below wo.heap.size wo W) => HX6.out.below (bl_trans hB.out h))
      obtain ⟨F, hF⟩ : ∃ F, F = f i := ⟨_, rfl⟩
      obtain ⟨hF1, hF2⟩ := HFI.out i hlt
      have hF3 := HFB.out i
      rw [← hF] at hF1 hF2 hF3
      have HFF := Lib.hid hF
      have HF2 := Lib.hid hF2
      clear hts hcell hrs hrd t1 t2 t3 t4 hbp hF hF2
      go_wp2_with fail
      refine HBN.out.mono ?_
      rintro e wA ⟨rfl, hbA⟩
      have HBA := Lib.hid hbA
      have GA := HWG.out wA hbA
      have HCL := Lib.hid (fun (W : World) (h : Below wo.heap.size wo W) => HLE.out W i A cp ra rc hlt (HR6.out.bl (bl_trans hB.out h)) (HRI.out.bl h))
      rw [← HFF.out] at HCL
      have cA0 : wA.cell? ⟨X, 0, none⟩ = some (.int .i64 M) := (HWX.out wA hbA).cell 0
      have cA1 : wA.cell? ⟨X, 1, none⟩ = some (.slice A p cp) := (HWX.out wA hbA).cell 1
      clear hbA HBN G
      go_upto_region 14 with fail
      go_region_held3 (fun w' => w'.cell? ⟨X, 0, none⟩ = some (.int .i64 M) ∧ w'.cell? ⟨X, 1, none⟩ = some (.slice A p cp) ∧ w'.cell? ⟨g2, i, none⟩ = some (.slice ra q rc)) (go_keep) ((go_at_call 13; refine (HCL.out _ (bl_drewN HBA.out 1)).mono ?_; rintro e wk ⟨rfl, hbk⟩; have hbj : Below wo.heap.size wo wk := bl_trans (bl_drewN HBA.out 1) hbk; have j0 : wk.cell? ⟨X, 0, none⟩ = some (.int .i64 M) := (HWX.out wk hbj).cell 0; have j1 : wk.cell? ⟨X, 1, none⟩ = some (.slice A p cp) := (HWX.out wk hbj).cell 1; have j2 := HWG.out wk hbj; have HBk := Lib.hid hbj; clear hbk hbj))
      obtain ⟨wk2, rfl⟩ : ∃ wk2 : World, wk2 = wk := ⟨_, rfl⟩
      have e3 : 2 * (M : Int) - 1 = (q : Int) := by have := HME.out; have := HQ.out; omega
      have hFd : decide ((F : Int) < (fI : Int)) = false := by simp; omega
      have q1 : ((q : Int) != (q : Int)) = false := by simp
      clear cA0 cA1 GA HBA HCL j0 j1
      go_wp2_with fail
      clear q1 e3 hFd j2
      go_loopw [18] (fun x wr => ∃ v : Nat, v ≤ q ∧ x = .int .i64 v ∧ Hid (Below wo.heap.size wo wr)) (fun x _ => q - (intOf x).toNat)
      case atStart => exact ⟨0, by omega, rfl, HBk⟩
      case round =>
        obtain ⟨v, hv, rfl, hB2⟩ := hrel
        have GI := HWG.out wr hB2.out
        have hgw : g2 < wr.heap.size := Nat.lt_of_lt_of_le hg2 hB2.out.size
        by_cases hvq : v < q
        · obtain ⟨bt, ot, et, hbt, hct⟩ := rdNd (HRI.out.bl hB2.out) (by rw [HTO.out.1]; omega)
          subst et
          have G3 := (hct v (by rw [HTO.out.1]; exact hvq)).2
          rw [HT4.out v hvq] at G3
          have q1 := run_two wr 73 (UInt8.ofNat (48 + v))
          rw [toNat_dig (show v < 10 by omega)] at q1
          have e73 : ((73 : UInt8).toNat : Int) = 73 := rfl
          have e48 : ((48 + v : Nat) : Int) = 48 + (v : Int) := by omega
          rw [e73, e48] at q1
          have hb1 := bl_alloc (Below.refl _ wr) (.cells #[.int .u8 73, .int .u8 (48 + (v : Int))] 5)
          by_cases hlf : v < N
          · have d1 : decide ((N : Int) ≤ (v : Int)) = false := by simp; omega
            have d2 : decide (N ≤ v) = false := by simp; omega
            rw [show ndN N v = ⟨#[73, UInt8.ofNat (48 + v)]⟩ from if_pos hlf] at G3
            obtain ⟨s, hs⟩ : ∃ s : ByteArray, s = ⟨#[73, UInt8.ofNat (48 + v)]⟩ := ⟨_, rfl⟩
            rw [← hs] at G3 q1
            have HB3 := Lib.hid (bl_trans hB2.out hb1)
            clear hlf e73 e48 hs hb1 hct hB2
            go_wp2_with fail
            go_roundw
            case rel => exact ⟨v + 1, by omega, by go_num, HB3⟩
            case measure => simp [intOf]; omega
          · have d1 : decide ((N : Int) ≤ (v : Int)) = true := by simp; omega
            have d2 : decide (N ≤ v) = true := by simp; omega
            rw [show ndN N v = ⟨#[76, UInt8.ofNat (48 + (v - N))]⟩ from if_neg hlf] at G3
            have q2 := run_two (wr.alloc (.cells #[.int .u8 73, .int .u8 (48 + (v : Int))] 5)) 76 (UInt8.ofNat (48 + (v - N)))
            rw [toNat_dig (show v - N < 10 by omega)] at q2
            have e76 : ((76 : UInt8).toNat : Int) = 76 := rfl
            have e49 : ((48 + (v - N) : Nat) : Int) = 48 + ((v : Int) - (M : Int) + 1) := by omega
            rw [e76, e49, World.size_alloc] at q2
            obtain ⟨s0, hs0⟩ : ∃ s : ByteArray, s = ⟨#[73, UInt8.ofNat (48 + v)]⟩ := ⟨_, rfl⟩
            rw [← hs0] at q1
            obtain ⟨s, hs⟩ : ∃ s : ByteArray, s = ⟨#[76, UInt8.ofNat (48 + (v - N))]⟩ := ⟨_, rfl⟩
            rw [← hs] at G3 q2
            have hNv : (N : Int) ≤ (v : Int) := by omega
            have hMv : 0 ≤ (v : Int) - (M : Int) + 1 := by omega
            have hMv2 : (v : Int) - (M : Int) + 1 ≤ 9 := by omega
            have HB3 := Lib.hid (bl_trans hB2.out (bl_alloc hb1 (.cells #[.int .u8 76, .int .u8 (48 + ((v : Int) - (M : Int) + 1))] 5)))
            clear hlf e73 e48 e76 e49 hs hs0 hb1 hct hB2
            go_wp2_with fail
            go_roundw
            case rel => exact ⟨v + 1, by omega, by go_num, HB3⟩
            case measure => simp [intOf]; omega
        · have HBV := Lib.hid hB2.out
          by_cases hi0 : i = 0
          · have d0 : decide (0 < (i : Int)) = false := by simp; omega
            have d1 : decide (0 < i) = false := by simp; omega
            clear hi0 hB2
            go_upto_region 25 with fail
            go_quiet (fail)
            go_upto_region 27 with fail
            clear d0 d1 GI
            have HBZ := Lib.hid (bl_drewN HBV.out nq)
            have GZ := HWG.out _ HBZ.out
            have HRZ := Lib.hid (HRI.out.bl HBZ.out)
            have HSZ := Lib.hid (HS6.out.bl (bl_trans hB.out HBZ.out))
            have HBW := Lib.hid (bl_trans hB.out HBZ.out)
            obtain ⟨wz, hwz⟩ : ∃ x, x = wr.drewN nq := ⟨_, rfl⟩
            rw [← hwz] at HBZ GZ HRZ HSZ HBW ⊢
            clear hwz
            by_cases hIi : I < i
            · have hfd2 : fd = true := by rw [hfd.out]; exact decide_eq_true hIi
              have HFN : Hid (true = decide (I < i + 1)) := (decide_eq_true (by omega)).symm
              subst hfd2
              clear hfd hIi
              go_wp2_with fail
              go_roundw
              case rel => exact ⟨i + 1, true, by omega, by go_num, rfl, HFN, HBW⟩
              case measure => simp [intOf]; omega
            · have hfd2 : fd = false := by rw [hfd.out]; exact decide_eq_false hIi
              subst hfd2
              by_cases hII : I = i
              · have HSA := same2_any ra (some ⟨b6, o6, none⟩) q q rc c6 (T i) (T I) wz HTO.out.1 (by rw [hII]; exact HTO.out.1) (by omega) (by omega) HRZ.out HSZ.out
                rw [hII, decide_eq_true rfl] at HSA
                have HSA := Lib.hid HSA
                have hFF : F = fI := by
                  have h1 := HFF.out
                  have h2 := HFE.out
                  rw [h1, h2, hII]
                have HFN : Hid (true = decide (I < i + 1)) := (decide_eq_true (by omega)).symm
                subst hFF
                clear hII hIi hfd
                go_wp2_with fail
                refine HSA.out.mono ?_
                rintro e wy ⟨rfl, ny, rfl⟩
                have HBY := Lib.hid (bl_drewN HBW.out ny)
                clear HSA HBW HBZ GZ
                go_wp2_with fail
                go_roundw
                case rel => exact ⟨i + 1, true, by omega, by go_num, rfl, HFN, HBY⟩
                case measure => simp [intOf]; omega
              · have hFF : F ≠ fI := fun h => by
                  have := HF2.out h
                  omega
                have t1 : ((F : Int) == (fI : Int)) = false := by simp; omega
                have t2 : decide ((F : Int) = (fI : Int)) = false := by simp; omega
                have t3 : decide (F = fI) = false := by simp; omega
                have HFN : Hid (false = decide (I < i + 1)) := (decide_eq_false (by omega)).symm
                clear hII hIi hFF hfd
                go_wp2_with fail
                go_roundw
                case rel => exact ⟨i + 1, false, by omega, by go_num, rfl, HFN, HBW⟩
                case measure => simp [intOf]; omega
          · obtain ⟨j, hj⟩ : ∃ j, i = j + 1 := ⟨i - 1, by omega⟩
            have hts := HTS6.out.bl (bl_trans hB.out hB2.out)
            obtain ⟨g3, cap3, e3', _, hg3, hcell⟩ := hts.cell (by omega)
            injection e3' with e3' _ e3c
            subst e3c
            injection e3' with e3'
            injection e3' with e3' _
            subst e3'
            have GJ := hcell j (by omega)
            obtain ⟨sa, sc, hrs, hrd⟩ := hts.rd (show j < C by omega)
            obtain ⟨t1, t2, t3, t4⟩ := HTT.out j (by omega)
            rw [hrs, t1.1] at GJ
            replace GJ : wr.cell? ⟨g2, j, none⟩ = some (.slice sa q sc) := GJ
            have HBF : Hid (∀ x, Calls Tryd.prog 14 #[.slice sa q sc, .slice ra q rc] (wr.drewN x) fun e w'' => e = .returned (.bool true) ∧ ∃ n, w'' = wr.drewN n) := fun x => by
              refine (before_any sa ra q q sc rc (T j) (T i) (wr.drewN x) t1.1 HTO.out.1 (by omega) (by omega) (hrd.drewN x) ((HRI.out.bl hB2.out).drewN x)).mono ?_
              rintro e w' ⟨rfl, n, rfl⟩
              refine ⟨?_, x + n, by simp⟩
              rw [t3, HT3.out, hj, HLX.out j (by omega)]
            have e4 : (i : Int) - 1 = (j : Int) := by omega
            have hip : 0 < (i : Int) := by omega
            have d0 : decide (0 < (i : Int)) = true := by simp; omega
            have d1 : decide (0 < i) = true := by simp; omega
            have hw1 : IntKind.i64.wrap ((i : Int) - 1) = (j : Int) := wrap_nat _ _ (by omega) (by omega)
            clear hi0 hB2 hts hcell hrs hrd t1 t2 t3 t4 hj
            go_upto_region 25 with fail
            go_quiet ((go_at_call 14; exact HBF.out _))
            go_upto_region 27 with fail
            clear d0 d1 GI GJ HBF e4 hip hw1
            have HBZ := Lib.hid (bl_drewN HBV.out nq)
            have GZ := HWG.out _ HBZ.out
            have HRZ := Lib.hid (HRI.out.bl HBZ.out)
            have HSZ := Lib.hid (HS6.out.bl (bl_trans hB.out HBZ.out))
            have HBW := Lib.hid (bl_trans hB.out HBZ.out)
            obtain ⟨wz, hwz⟩ : ∃ x, x = wr.drewN nq := ⟨_, rfl⟩
            rw [← hwz] at HBZ GZ HRZ HSZ HBW ⊢
            clear hwz
            by_cases hIi : I < i
            · have hfd2 : fd = true := by rw [hfd.out]; exact decide_eq_true hIi
              have HFN : Hid (true = decide (I < i + 1)) := (decide_eq_true (by omega)).symm
              subst hfd2
              clear hfd hIi
              go_wp2_with fail
              go_roundw
              case rel => exact ⟨i + 1, true, by omega, by go_num, rfl, HFN, HBW⟩
              case measure => simp [intOf]; omega
            · have hfd2 : fd = false := by rw [hfd.out]; exact decide_eq_false hIi
              subst hfd2
              by_cases hII : I = i
              · have HSA := same2_any ra (some ⟨b6, o6, none⟩) q q rc c6 (T i) (T I) wz HTO.out.1 (by rw [hII]; exact HTO.out.1) (by omega) (by omega) HRZ.out HSZ.out
                rw [hII, decide_eq_true rfl] at HSA
                have HSA := Lib.hid HSA
                have hFF : F = fI := by
                  have h1 := HFF.out
                  have h2 := HFE.out
                  rw [h1, h2, hII]
                have HFN : Hid (true = decide (I < i + 1)) := (decide_eq_true (by omega)).symm
                subst hFF
                clear hII hIi hfd
                go_wp2_with fail
                refine HSA.out.mono ?_
                rintro e wy ⟨rfl, ny, rfl⟩
                have HBY := Lib.hid (bl_drewN HBW.out ny)
                clear HSA HBW HBZ GZ
                go_wp2_with fail
                go_roundw
                case rel => exact ⟨i + 1, true, by omega, by go_num, rfl, HFN, HBY⟩
                case measure => simp [intOf]; omega
              · have hFF : F ≠ fI := fun h => by
                  have := HF2.out h
                  omega
                have t1 : ((F : Int) == (fI : Int)) = false := by simp; omega
                have t2 : decide ((F : Int) = (fI : Int)) = false := by simp; omega
                have t3 : decide (F = fI) = false := by simp; omega
                have HFN : Hid (false = decide (I < i + 1)) := (decide_eq_false (by omega)).symm
                clear hII hIi hFF hfd
                go_wp2_with fail
                go_roundw
                case rel => exact ⟨i + 1, false, by omega, by go_num, rfl, HFN, HBW⟩
                case measure => simp [intOf]; omega
    · have hfd2 : fd = true := by rw [hfd.out]; exact decide_eq_true (by omega)
      subst hfd2
      have HW2 := Lib.hid (HW.out wo)
      have HB9 := Lib.hid (bl_trans HB6.out hB.out)
      clear hfd hB
      go_wp2_with fail
      refine HW2.out.mono ?_
      rintro e w9 ⟨rfl, hb9⟩
      have HBX := Lib.hid (bl_trans HB9.out hb9)
      clear hb9 HW2
      go_wp2_with fail
      go_ret
      exact ⟨rfl, HBX.out⟩
end Go.Proofs.YtjmnakkkimgifaaDoor
