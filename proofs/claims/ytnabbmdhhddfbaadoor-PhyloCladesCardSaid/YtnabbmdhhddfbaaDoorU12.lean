/- The statement PhyloClades: the walk. -/
import Derived.Test.YtnabbmdhhddfbaaDoorU11
namespace Go.Proofs.YtnabbmdhhddfbaaDoor
open Go Go.RowKit Go.Shelf
/-- The sets of the first k nodes. -/
def ndsV (t : List Nd) (k : Nat) : List Nat := (List.range k).map (cl t)
theorem ndsV_snoc (t : List Nd) (k : Nat) : ndsV t (k + 1) = ndsV t k ++ [cl t k] := by simp [ndsV, List.range_succ]
theorem ndsV_len (t : List Nd) (k : Nat) : (ndsV t k).length = k := by simp [ndsV]
theorem ndsV_at {t : List Nd} {n k : Nat} (hk : k < n) : vA (ndsV t n) k = cl t k := by simp [ndsV, vA, hk]
theorem nds_chk {t : List Nd} {n : Nat} (hn : t.length = n) (hok : TreeOk t) (h32 : (lvT t).length ≤ 32) : chkT ((lvT t).length : Nat) (ndsV t n) = 0 := by
  have h63 := hok.2.1
  unfold chkT
  rw [if_neg (by omega), if_neg (by rw [ndsV_len]; omega), if_neg]
  intro h
  obtain ⟨x, hx, hw⟩ := List.any_eq_true.1 h
  obtain ⟨v, hv, e⟩ := List.mem_map.1 hx
  have := tok_lt hn hok (List.mem_range.1 hv)
  unfold wide at hw
  rw [Int.toNat_natCast, ← e, decide_eq_true this] at hw
  cases hw
theorem nds_conf {t : List Nd} {n : Nat} (hn : t.length = n) (hok : TreeOk t) : confE (ndsV t n) = none := by
  refine conf_fit fun i j hij hj => ?_
  rw [ndsV_len] at hj
  rw [ndsV_at (show i < n by omega), ndsV_at hj]
  exact cl_fit hn hok (by omega) hj
theorem nds_fit {t : List Nd} {n : Nat} (hn : t.length = n) (hok : TreeOk t) (h32 : (lvT t).length ≤ 32) : fitsB ((lvT t).length : Nat) (ndsV t n) t = true ∧ chkP ((lvT t).length : Nat) (ndsV t n) t = 0 := by
  have hc := nds_chk hn hok h32
  have hp : chkP ((lvT t).length : Nat) (ndsV t n) t = 0 := by
    unfold chkP
    rw [if_neg (fun h => h hc), if_neg (fun h => h (chkE_good hok)), if_pos rfl]
  refine ⟨?_, hp⟩
  rw [fits_all hp]
  refine allF_true fun x hx => ?_
  obtain ⟨v, hv, e⟩ := List.mem_map.1 hx
  rw [← e]; exact loss_node hn hok (List.mem_range.1 hv)
theorem lv_pos {t : List Nd} {n : Nat} (hn : t.length = n) (hok : TreeOk t) : 1 ≤ (lvT t).length := by
  obtain ⟨k, hk⟩ := bit_of_ne (cl_ne hn hok n 0 (by omega) (by have := hok.1; omega))
  have := bit_lt (tok_lt hn hok (show 0 < n by have := hok.1; omega)) hk
  omega
theorem nds_F {t : List Nd} {n : Nat} (hn : t.length = n) (hok : TreeOk t) (h32 : (lvT t).length ≤ 32) : FitV (ndsV t n) := fun i hi => by
  rw [ndsV_len] at hi
  rw [ndsV_at hi]
  exact Nat.lt_of_lt_of_le (tok_lt hn hok hi) (show 2 ^ (lvT t).length ≤ 2 ^ 64 from Nat.pow_le_pow_right (by omega) (by omega))
set_option maxRecDepth 100000 in
set_option maxHeartbeats 4000000 in
theorem cllaw_any (b : Option Addr) (n d : Nat) (t : List Nd) (w : World) (ht : t.length = n) (hn60 : n ≤ 1152921504606846976) (hnd : n ≤ d) (hd : d ≤ 9223372036854775807) (hB : Rd w b (fl encNd t)) (hS : ∀ v, v < n → (nS t v).size ≤ 9223372036854775807) :
    Calls Tryd.prog 12 #[.slice b n d] w fun e w' => e = .returned (.bool true) ∧ Below w.heap.size w w' := by
  have HT := Lib.hid ht
  have HS := Lib.hid hS
  have HB := Lib.hid hB
  have HW := Lib.hid works_any
  clear ht hB hS
  go_enter Tryd.func12, Tryd.ntmps12
  go_wp2_with fail
  refine (Leaves_any b n d t w HT.out hn60 HB.out HS.out).mono ?_
  rintro e w2 ⟨x3, rfl, ho3, hb2⟩
  obtain ⟨A3, c3, rfl, _⟩ := owns_slice ho3
  have HB2 := Lib.hid hb2
  have HR2 := Lib.hid (HB.out.bl hb2)
  clear ho3 hb2 HB
  by_cases hok : TreeOk t
  · have HOK := Lib.hid hok
    have h1 := nds_chk HT.out hok
    have h2 := nds_conf HT.out hok
    have h3 := nds_fit HT.out hok
    have h4 := lv_pos HT.out hok
    have h5 := nds_F HT.out hok
    have h63 : n ≤ 63 := by have := hok.2.1; have := HT.out; omega
    have HLE : Hid ((lvT t).length ≤ 64) := by show _ ≤ _; rw [tok_lv HT.out hok]; have := lvsL_le t n; omega
    rw [chkE_good hok]
    clear hok
    obtain ⟨M, hM⟩ : ∃ M, (lvT t).length = M := ⟨_, rfl⟩
    rw [hM] at h1 h3 h4 h5 HLE ⊢
    by_cases h32 : M ≤ 32
    · have d1 : decide (32 < (M : Int)) = false := decide_eq_false (by omega)
      have d1n : decide (32 < M) = false := decide_eq_false (by omega)
      have HC1 := Lib.hid (h1 h32)
      have HC2 := Lib.hid h2
      have HC3 := Lib.hid (h3 h32)
      have HC5 := Lib.hid (h5 h32)
      have HBD := Lib.hid (bd_tree (h5 h32) (h1 h32) h4)
      have HBO := Lib.hid (fun (x : Nat) (hx : x ∈ ndsV t n) => bd_on (h5 h32) (h1 h32) h4 h2 hx)
      have HBC := Lib.hid (bd_chk (h5 h32) (h1 h32) h4 (h1 h32))
      have HNE := Lib.hid (fun v (hv : v < n) => cl_ne HT.out HOK.out n v (by omega) hv)
      have HCL := Lib.hid (fun v (hv : v < n) W (h : Below w2.heap.size w2 W) => clade_any b n d v t W HT.out HOK.out (by rw [hM]; exact HLE.out) hv (HR2.out.bl h) HS.out)
      clear h1 h2 h3 h5 hM
      go_wp2_with fail
      have hU := Blk.new w2 #[.int .i64 M, .slice none 0 0] 24
      have hbl := bl_alloc (Below.refl _ w2) (.cells #[.int .i64 M, .slice none 0 0] 24)
      have hsz : (w2.alloc (.cells #[.int .i64 M, .slice none 0 0] 24)).heap.size = w2.heap.size + 1 := by simp
      obtain ⟨U, hUe⟩ : ∃ U, U = w2.heap.size := ⟨_, rfl⟩
      obtain ⟨w3, hw3⟩ : ∃ x, x = w2.alloc (.cells #[.int .i64 M, .slice none 0 0] 24) := ⟨_, rfl⟩
      rw [← hw3] at hU hbl hsz ⊢
      rw [← hUe] at hU hsz ⊢
      have HU := Lib.hid hU
      have HBL := Lib.hid hbl
      have HUE := Lib.hid hUe
      clear hU hbl hw3 hUe
      go_loopw [6] (fun x wr => ∃ (k : Nat) (v : Value), k ≤ n ∧ x = .int .i64 k ∧ Hid (Blk wr U #[.int .i64 M, v] 24) ∧ Hid (wr.ownsRow (U + 1) 44 1 v k (fl encV (ndsV t k))) ∧ Hid (Below w2.heap.size w2 wr)) (fun x _ => n - (intOf x).toNat)
      case atStart => exact ⟨0, _, by omega, rfl, HU, World.ownsRow_nil _ _ _ _, HBL⟩
      case round =>
        clear HU HBL
        obtain ⟨k, v, hk, rfl, hu, how, hbl⟩ := hrel
        obtain ⟨A4, c4, rfl, _⟩ := owns_slice how.out
        by_cases hkn : k < n
        · have HK := Lib.hid (HCL.out k hkn wr hbl.out)
          have HSN := Lib.hid (ndsV_snoc t k)
          generalize cl t k = q at *
          go_wp2_with fail
          refine HK.out.mono ?_
          rintro e w4 ⟨rfl, hb4⟩
          have HU4 := Lib.hid (hu.out.below hb4)
          have HO4 := Lib.hid (owns_below how.out hb4)
          have HB4 := Lib.hid (bl_trans hbl.out hb4)
          have c0 : w4.cell? ⟨U, 1, none⟩ = some (.slice A4 k c4) := HU4.out.cell 1
          have hUl : U < w4.heap.size := HU4.out.lt
          have hbase : U + 1 ≤ (w4.alloc (.cells #[.int .u64 q] 44)).heap.size := by simp; omega
          have hl1 : Hid (k = (ndsV t k).length) := (ndsV_len t k).symm
          clear hb4 hu how hbl HK
          go_wp2_with (at_builtin; refine push_V rfl (.tmp 48) (.tmp 50) rfl (U + 1) (.slice A4 k c4) (ndsV t k) k hl1.out rfl (HO4.out.alloc _) _ _ q rfl (Blk.new _ _ _) (by omega) hbase ?_; intro g2 cap w8 h81 h82 h83 h84; rw [← HSN.out] at h81; have H81 := Lib.hid h81; have H82 := Lib.hid h82; clear h81 h82 h83; have hu8 := (HU4.out.alloc (.cells #[.int .u64 q] 44)).grown H82.out (fun e => by have := (HO4.out.lt U e.symm).1; omega); have c8 : w8.cell? ⟨U, 1, none⟩ = some (.slice A4 k c4) := hu8.cell 1; have f8 : w8.frozen? ⟨U, 1, none⟩ = false := hu8.free 1; have HU8 := Lib.hid hu8; clear hu8)
          have HU9 : Hid (Blk (w8.setCell ⟨U, 1, none⟩ (.slice (some ⟨g2, 0, none⟩) (k + 1) cap)) U #[.int .i64 M, .slice (some ⟨g2, 0, none⟩) (k + 1) cap] 24) := by
            have h := HU8.out.set 1 (.slice (some ⟨g2, 0, none⟩) (k + 1) cap)
            show Blk _ _ _ _
            simpa using h
          have HO9 : Hid ((w8.setCell ⟨U, 1, none⟩ (.slice (some ⟨g2, 0, none⟩) (k + 1) cap)).ownsRow (U + 1) 44 1 (.slice (some ⟨g2, 0, none⟩) (k + 1) cap) (k + 1) (fl encV (ndsV t (k + 1)))) :=
            H81.out.kept (grown_set w8 U 1 _) (.inr fun e => by have := (H81.out.lt U e).1; omega)
          have HB9 := Lib.hid (bl_set (bl_grown (bl_alloc HB4.out (.cells #[.int .u64 q] 44)) H82.out (fun x e => by have := (HO4.out.lt x e).1; have := HUE.out; omega)) U 1 none (.slice (some ⟨g2, 0, none⟩) (k + 1) cap) (by have := HUE.out; omega))
          go_roundw
          case rel => exact ⟨k + 1, _, by omega, by go_num, HU9, HO9, HB9⟩
          case measure => simp [intOf]; omega
        · obtain rfl : k = n := by omega
          have e1 : wr.cell? ⟨U, 1, none⟩ = some (.slice A4 k c4) := hu.out.cell 1
          have e0 : wr.cell? ⟨U, 0, none⟩ = some (.int .i64 M) := hu.out.cell 0
          have d2 : decide (64 < (k : Int)) = false := decide_eq_false (by omega)
          have d2n : decide (64 < k) = false := decide_eq_false (by omega)
          obtain ⟨hcp1, hcp2⟩ := owns_cap3 how.out
          have HRL := Lib.hid (rd_of_owns how.out)
          have HRT := Lib.hid (HR2.out.bl hbl.out)
          have HB4 := Lib.hid (bl_trans HB2.out hbl.out)
          have HLL := Lib.hid (ndsV_len t k)
          have HTK : Hid (∀ j, j < k → vA (ndsV t k) j = cl t j) := fun j hj => ndsV_at hj
          obtain ⟨has, hhas⟩ : ∃ x, x = ndsV t k := ⟨_, rfl⟩
          rw [← hhas] at HC1 HC2 HC3 HC5 HBD HBO HBC HRL HLL HTK
          have HU4 := Lib.hid hu.out
          clear hhas how hbl hu hkn
          go_wp2_with fail
          refine (pfits_any M A4 k c4 has b k d t wr HLL.out (by omega) HRL.out HC5.out HT.out hn60 hnd hd HRT.out HS.out).mono ?_
          rintro e w5 ⟨rfl, hb5⟩
          rw [HC3.out.1, HC3.out.2]
          have HB5 := Lib.hid (bl_trans HB4.out hb5)
          have HU5 := Lib.hid (HU4.out.below hb5)
          have HR5 := Lib.hid (HRL.out.bl hb5)
          clear hb5 e0 e1 HU4 HB4 HRT HRL
          have e1 : w5.cell? ⟨U, 1, none⟩ = some (.slice A4 k c4) := HU5.out.cell 1
          have e0 : w5.cell? ⟨U, 0, none⟩ = some (.int .i64 M) := HU5.out.cell 0
          go_wp2_with fail
          refine (build_any M A4 k c4 has w5 HLL.out (by omega) hcp1 hcp2 HR5.out HC5.out).mono ?_
          rintro e w6 ⟨x6, rfl, ho6, hb6⟩
          have hbE : bdE (M : Int) has = 0 := by unfold bdE; rw [if_neg (fun h => h HC1.out), if_neg (by omega)]
          have hbB : bdB (M : Int) has = true := by rw [bdB_of hbE, HC2.out]; rfl
          have hbT : bdT (M : Int) has = bdN M has := by unfold bdT; rw [if_pos hbB]; rfl
          rw [hbE, hbB]
          rw [hbT] at ho6
          obtain ⟨A6, c6, rfl, _⟩ := owns_slice ho6
          obtain ⟨T, hT⟩ : ∃ T, bdN M has = T := ⟨_, rfl⟩
          rw [hT] at ho6 HBD HBO HBC ⊢
          obtain ⟨m, hm⟩ : ∃ m, T.length = m := ⟨_, rfl⟩
          have HM := Lib.hid hm
          rw [hm] at ho6 HBO ⊢
          obtain ⟨hcq1, hcq2⟩ := owns_cap3 ho6
          have HO6 := Lib.hid (rd_of_owns ho6)
          have HB6 := Lib.hid (bl_trans HB5.out hb6)
          have HU6 := Lib.hid (HU5.out.below hb6)
          have HR6 := Lib.hid (HR5.out.bl hb6)
          have hm63 : m ≤ 63 := by have := HBD.out.1.2.1; omega
          have HSZ := Lib.hid (tok_size hm HBD.out.1)
          clear hb6 e0 e1 HU5 HB5 HR5 ho6 hbE hbB hbT hT hm
          have e1 : w6.cell? ⟨U, 1, none⟩ = some (.slice A4 k c4) := HU6.out.cell 1
          have e0 : w6.cell? ⟨U, 0, none⟩ = some (.int .i64 M) := HU6.out.cell 0
          go_wp2_with fail
          refine (on_any M A4 k c4 has A6 m c6 T w6 HLL.out (by omega) HR6.out HC5.out HM.out (by omega) hcq1 hcq2 HO6.out HSZ.out).mono ?_
          rintro e w7 ⟨x7, rfl, ho7, hb7⟩
          obtain ⟨A7, c7, rfl, _⟩ := owns_slice ho7
          rw [HBC.out]
          have HOL : Hid (onL (M : Int) has T = has.map (fun x => onN (cl T) x m)) := by show _ = _; unfold onL; rw [if_pos HBC.out, HM.out]
          have HOlen : Hid ((onL (M : Int) has T).length = k) := by show _ = _; rw [HOL.out, List.length_map, HLL.out]
          have HR7 := Lib.hid (rd_of_owns ho7)
          rw [HOlen.out]
          have HB7 := Lib.hid (bl_trans HB6.out hb7)
          have HU7 := Lib.hid (HU6.out.below hb7)
          clear hb7 e0 e1 HU6 HB6 HR6 ho7 HO6
          have e1 : w7.cell? ⟨U, 1, none⟩ = some (.slice A4 k c4) := HU7.out.cell 1
          go_wp2_with fail
          go_loopw [16] (fun x wr => ∃ j : Nat, j ≤ k ∧ x = .int .i64 j ∧ wr = w7) (fun x _ => k - (intOf x).toNat)
          case atStart => exact ⟨0, by omega, rfl, rfl⟩
          case round =>
            obtain ⟨j, hj, rfl, rfl⟩ := hrel
            by_cases hjk : j < k
            · obtain ⟨b1, o1, rfl, _, hc1⟩ := rdI HR7.out (by rw [HOlen.out]; omega)
              have G1 := hc1 j (by rw [HOlen.out]; exact hjk)
              have hjl : j < has.length := by rw [HLL.out]; exact hjk
              have g1 : iA (onL (M : Int) has T) j = onN (cl T) (vA has j) m := by
                rw [HOL.out]
                simp [iA, List.getD_eq_getElem?_getD, hjl, vA]
              rw [g1] at G1
              have hge : 0 ≤ onN (cl T) (vA has j) m := (HBO.out _ (vA_mem hjl)).2 (by rw [HTK.out j hjk]; exact HNE.out j hjk)
              generalize onN (cl T) (vA has j) m = o at *
              have s1 : decide (o < 0) = false := decide_eq_false (by omega)
              clear hc1 g1 hge
              go_wp2_with fail
              go_roundw
              case rel => exact ⟨j + 1, by omega, by go_num, by trivial⟩
              case measure => simp [intOf]; omega
            · go_wp2_with fail
              refine (HW.out _).mono ?_
              rintro e w8 ⟨rfl, hb8⟩
              go_wp2_with fail
              go_ret
              exact ⟨rfl, bl_trans HB7.out hb8⟩
    · have d1 : decide (32 < (M : Int)) = true := decide_eq_true (by omega)
      have d1n : decide (32 < M) = true := decide_eq_true (by omega)
      clear h32 h1 h2 h3 h4 h5 hM
      go_wp2_with fail
      refine (HW.out _).mono ?_
      rintro e w3 ⟨rfl, hb3⟩
      go_wp2_with fail
      go_ret
      exact ⟨rfl, bl_trans HB2.out hb3⟩
  · rw [chkE_bad hok]
    clear hok
    go_wp2_with fail
    refine (HW.out _).mono ?_
    rintro e w3 ⟨rfl, hb3⟩
    go_wp2_with fail
    go_ret
    exact ⟨rfl, bl_trans HB2.out hb3⟩
end Go.Proofs.YtnabbmdhhddfbaaDoor
