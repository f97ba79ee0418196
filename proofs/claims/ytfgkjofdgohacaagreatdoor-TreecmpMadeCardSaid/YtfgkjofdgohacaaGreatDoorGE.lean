/- slices.Equal at rows of names; treecmp.alike. slices.Collect over the numbers of a set; treecmp.Clades. treecmp.both. Families of sets that fit one another; threes of leaves (plain). A range over the numbers of a set; treecmp.Dist, Same. treecmp.Same, apart. The document's and the statements' search in lists. Cells of rows of the call's own: reading, setting, insertion by neighbours. The document's sort of names by insertion: plain part. The document's names of the leaves, and clades of nodes. The document's clades of a tree. -/
import Derived.Test.YtfgkjofdgohacaaGreatDoorGD
import Derived.Test.YtfgkjofdgohacaaGreatDoorGA
import Derived.Test.YtfgkjofdgohacaaGreatDoorGB
namespace Go.Proofs.YtfgkjofdgohacaaGreatDoor
open Go Go.RowKit Go.Shelf Go.Maps
theorem ext_sA {xs ys : List ByteArray} (h : xs.length = ys.length) (h2 : ∀ i, i < xs.length → sA xs i = sA ys i) : xs = ys := by
  apply List.ext_getElem h
  intro i h1 h3
  have := h2 i h1
  simpa [sA, h1, h3] using this
set_option maxRecDepth 100000 in
set_option maxHeartbeats 2000000 in
theorem equalS_any (a b : Option Addr) (n c m d : Nat) (xs ys : List ByteArray) (w : World) (hn : xs.length = n) (hm : ys.length = m) (hN : n ≤ 1048576) (hM : m ≤ 1048576) (hA : Rd w a (fl encS xs)) (hB : Rd w b (fl encS ys)) :
    Calls Tryz.prog 90 #[.slice a n c, .slice b m d] w fun e w' => e = .returned (.bool (decide (xs = ys))) ∧ ∃ q, w' = w.drewN q := by
  have HA := Lib.hid hA
  have HB := Lib.hid hB
  have HN := Lib.hid hn
  have HM := Lib.hid hm
  clear hA hB hn hm
  by_cases hnm : n = m
  · subst hnm
    have hb : ((n : Int) == n) = true := by simp
    go_enter Tryz.func90, Tryz.ntmps90
    go_wp2_with fail
    go_loopw [13, 5] (fun x _ wr => ∃ k : Nat, k ≤ n ∧ x = .int .i64 k ∧ Hid (∀ i, i < k → sA xs i = sA ys i) ∧ ∃ q, wr = w.drewN q) (fun x _ _ => n - (intOf x).toNat)
    case atStart => exact ⟨0, by omega, rfl, fun i hi => absurd hi (by omega), 0, rfl⟩
    case round =>
      obtain ⟨k, hk, rfl, HE, q, rfl⟩ := hrel
      by_cases hlt : k < n
      · obtain ⟨b1, o1, rfl, _, hc1⟩ := rdS (HA.out.drewN q) (by rw [HN.out]; omega)
        obtain ⟨b2, o2, rfl, _, hc2⟩ := rdS (HB.out.drewN q) (by rw [HM.out]; omega)
        have c1 := hc1 k (by rw [HN.out]; exact hlt)
        have c2 := hc2 k (by rw [HM.out]; exact hlt)
        clear hc1 hc2
        obtain ⟨s, hs⟩ : ∃ s, s = sA xs k := ⟨_, rfl⟩
        obtain ⟨r, hr⟩ : ∃ r, r = sA ys k := ⟨_, rfl⟩
        rw [← hs] at c1
        rw [← hr] at c2
        have HS := Lib.hid hs
        have HR := Lib.hid hr
        clear hs hr
        generalize hw : w.drewN q = wr at *
        have HW := Lib.hid hw
        clear hw
        by_cases e : s = r
        · subst e
          have t1 : (s.toList == s.toList) = true := beq_self_eq_true _
          have HE2 : Hid (∀ i, i < k + 1 → sA xs i = sA ys i) := fun i hi => by
            by_cases e : i < k
            · exact HE.out i e
            · obtain rfl : i = k := by omega
              rw [← HS.out, ← HR.out]
          clear HE
          go_wp2_with fail
          go_quiet (fail)
          go_wp2_with fail
          exact ⟨⟨k + 1, by omega, by go_num, HE2, q + nq, by rw [← HW.out]; simp⟩, by simp [intOf]; omega⟩
        · have t1 : (s.toList == r.toList) = false := beq_eq_false_iff_ne.2 fun e2 => e (ba_inj.1 e2)
          have HNE : Hid (decide (xs = ys) = false) := decide_eq_false fun e2 => e (by rw [HS.out, HR.out, e2])
          clear e
          go_wp2_with fail
          go_quiet (fail)
          go_wp2_with fail
          go_ret
          exact ⟨by rw [HNE.out]; rfl, q + nq, by rw [← HW.out]; simp⟩
      · obtain rfl : k = n := by omega
        have HNE : Hid (decide (xs = ys) = true) := decide_eq_true (ext_sA (by rw [HN.out, HM.out]) fun i hi => HE.out i (by rw [← HN.out]; exact hi))
        go_wp2_with fail
        go_ret
        exact ⟨by rw [HNE.out]; rfl, q, rfl⟩
  · have hb : ((n : Int) == m) = false := by simp; omega
    have HNE : Hid (decide (xs = ys) = false) := decide_eq_false fun e2 => hnm (by rw [← HN.out, ← HM.out, e2])
    clear hnm
    go_enter Tryz.func90, Tryz.ntmps90
    go_wp2_with fail
    go_ret
    exact ⟨by rw [HNE.out]; rfl, 0, rfl⟩
/-- The error of trees with other leaves. -/
def alE (t : List Nd) (n : Nat) (T : Nat → List Nd) : Int := if ∀ i, i < n → nmsL t = nmsL (T i) then 0 else 2
theorem alE_ok {t : List Nd} {n : Nat} {T : Nat → List Nd} (h : ∀ i, i < n → nmsL t = nmsL (T i)) : alE t n T = 0 := if_pos h
theorem alE_bad {t : List Nd} {n k : Nat} {T : Nat → List Nd} (hk : k < n) (h : nmsL t ≠ nmsL (T k)) : alE t n T = 2 := if_neg fun h2 => h (h2 k hk)
theorem rdSh {l : List Shp} {w : World} {a : Option Addr} (h : Rd w a (fl encSh l)) (h0 : 0 < l.length) : ∃ b off, a = some ⟨b, off, none⟩ ∧ b < w.heap.size ∧ ∀ i, i < l.length → w.cell? ⟨b, off + i * 3, none⟩ = some (slR (shA l i).1) ∧ w.cell? ⟨b, off + i * 3 + 1, none⟩ = some (slR (shA l i).2.1) ∧ w.cell? ⟨b, off + i * 3 + 2, none⟩ = some (.map (some (shA l i).2.2)) := by
  obtain ⟨b, off, e, hb, hc⟩ := rd_elem encSh_len h (by omega) h0
  refine ⟨b, off, e, hb, fun i hi => ⟨?_, ?_, ?_⟩⟩
  · have := hc i hi 0 (by omega); simpa [encSh, shA, slR, hi, ← Nat.add_assoc] using this
  · have := hc i hi 1 (by omega); simpa [encSh, shA, slR, hi, ← Nat.add_assoc] using this
  · have := hc i hi 2 (by omega); simpa [encSh, shA, slR, hi, ← Nat.add_assoc] using this
theorem lvT_le63 {t : List Nd} (hok : TreeOk t) : (lvT t).length ≤ 63 := by
  rw [tok_lv rfl hok]
  exact Nat.le_trans (List.length_filter_le _ _) (by simpa using hok.2.1)
set_option maxRecDepth 100000 in
set_option maxHeartbeats 4000000 in
theorem alike_any (x : Shp) (t : List Nd) (a : Option Addr) (n c : Nat) (T : Nat → List Nd) (xs : List Shp) (w : World) (hl : TreeOk t) (hL : ∀ i, i < n → TreeOk (T i)) (hx1 : x.1.2.1 = (lvT t).length) (hx : Rd w x.1.1 (fl encS (nmsL t))) (hlen : xs.length = n) (hn : n ≤ 1048576) (hA : Rd w a (fl encSh xs)) (hT : ∀ i, i < n → (shA xs i).1.2.1 = (lvT (T i)).length ∧ Rd w (shA xs i).1.1 (fl encS (nmsL (T i)))) :
    Calls Tryz.prog 54 #[.agg (encSh x).toArray, .slice a n c] w fun e w' => e = .returned (.int .i64 (alE t n T)) ∧ Below w.heap.size w w' := by
  obtain ⟨⟨xa, xn, xc⟩, ⟨ya, yn, yc⟩, xm⟩ := x
  obtain rfl : xn = _ := hx1
  have HX := Lib.hid hx
  have HA := Lib.hid hA
  have HT := Lib.hid hT
  have HL := Lib.hid hlen
  have HLT : Hid (∀ i, i < n → (lvT (T i)).length ≤ 63) := fun i hi => lvT_le63 (hL i hi)
  have hl2 := lvT_le63 hl
  have HB0 := Lib.hid (Below.refl w.heap.size w)
  clear hx hA hT hlen hL
  rw [show (encSh ((xa, (lvT t).length, xc), (ya, yn, yc), xm)).toArray = #[.slice xa (lvT t).length xc, .slice ya yn yc, .map (some xm)] from rfl]
  go_enter Tryz.func54, Tryz.ntmps54
  go_upto_region 2 with fail
  go_wp2_with fail
  have HB1 := Lib.hid (bl_alloc HB0.out (.cells #[.slice xa (lvT t).length xc, .slice ya yn yc, .map (some xm)] 69))
  have HR1 := Lib.hid (Blk.new w #[.slice xa (lvT t).length xc, .slice ya yn yc, .map (some xm)] 69)
  obtain ⟨R, hR⟩ : ∃ R, R = w.heap.size := ⟨_, rfl⟩
  rw [← hR] at HR1 HB1 ⊢
  have HRE := Lib.hid hR
  clear hR HB0
  go_loopw [9] (fun x wr => ∃ k : Nat, k ≤ n ∧ x = .int .i64 k ∧ Hid (∀ i, i < k → nmsL t = nmsL (T i)) ∧ Hid (Below R w wr) ∧ Hid (Blk wr R #[.slice xa (lvT t).length xc, .slice ya yn yc, .map (some xm)] 69)) (fun x _ => n - (intOf x).toNat)
  case atStart => exact ⟨0, by omega, rfl, fun i hi => absurd hi (by omega), HB1, HR1⟩
  case round =>
    clear HB1 HR1
    obtain ⟨k, hk, rfl, HE, HB, HR⟩ := hrel
    have HBw : Hid (Below w.heap.size w wr) := by show Below _ _ _; rw [← HRE.out]; exact HB.out
    by_cases hlt : k < n
    · obtain ⟨b, o, rfl, _, hc⟩ := rdSh (HA.out.bl HBw.out) (by rw [HL.out]; omega)
      obtain ⟨c1, c2, c3⟩ := hc k (by rw [HL.out]; exact hlt)
      obtain ⟨h1, h2⟩ := HT.out k hlt
      have hl3 := HLT.out k hlt
      clear hc
      have HTK := Lib.hid h2
      generalize shA xs k = y at *
      obtain ⟨⟨za, zn, zc⟩, ⟨va, vn, vc⟩, zm⟩ := y
      obtain rfl : zn = _ := h1
      simp only [slR] at c1 c2
      simp only [] at c3
      have HB2 := Lib.hid (bl_alloc HBw.out (.cells #[.slice za (lvT (T k)).length zc, .slice va vn vc, .map (some zm)] 69))
      have HEQ := Lib.hid (equalS_any xa za (lvT t).length xc (lvT (T k)).length zc (nmsL t) (nmsL (T k)) (wr.alloc (.cells #[.slice za (lvT (T k)).length zc, .slice va vn vc, .map (some zm)] 69)) (nmsL_len t) (nmsL_len (T k)) (by omega) (by omega) (HX.out.bl HB2.out) (HTK.out.bl HB2.out))
      have hr0 : (wr.alloc (.cells #[.slice za (lvT (T k)).length zc, .slice va vn vc, .map (some zm)] 69)).cell? ⟨R, 0, none⟩ = some (.slice xa (lvT t).length xc) := (HR.out.alloc _).cell 0
      have hs0 : (wr.alloc (.cells #[.slice za (lvT (T k)).length zc, .slice va vn vc, .map (some zm)] 69)).cell? ⟨wr.heap.size, 0, none⟩ = some (.slice za (lvT (T k)).length zc) := (Blk.new wr _ _).cell 0
      obtain ⟨d, hd⟩ : ∃ d, d = decide (nmsL t = nmsL (T k)) := ⟨_, rfl⟩
      rw [← hd] at HEQ
      have HDD := Lib.hid hd
      clear hd
      cases d
      · have HE2 : Hid (alE t n T = 2) := alE_bad hlt (of_decide_eq_false HDD.out.symm)
        go_wp2_with (go_at_call 90; refine HEQ.out.mono ?_; rintro e w3 ⟨rfl, q, rfl⟩)
        go_ret
        exact ⟨by rw [HE2.out]; rfl, bl_drewN HB2.out q⟩
      · have HE2 : Hid (∀ i, i < k + 1 → nmsL t = nmsL (T i)) := fun i hi => by
          by_cases e : i < k
          · exact HE.out i e
          · obtain rfl : i = k := by omega
            exact of_decide_eq_true HDD.out.symm
        have HB3 : Hid (Below R w (wr.alloc (.cells #[.slice za (lvT (T k)).length zc, .slice va vn vc, .map (some zm)] 69))) := by
          show Below _ _ _
          rw [HRE.out]; exact HB2.out
        have HR3 := Lib.hid (HR.out.alloc (.cells #[.slice za (lvT (T k)).length zc, .slice va vn vc, .map (some zm)] 69))
        go_wp2_with (go_at_call 90; refine HEQ.out.mono ?_; rintro e w3 ⟨rfl, q, rfl⟩)
        exact ⟨⟨k + 1, by omega, by go_num, HE2, bl_drewN HB3.out q, HR3.out.drewN q⟩, by simp [intOf]; omega⟩
    · obtain rfl : k = n := by omega
      have HE : Hid (alE t k T = 0) := alE_ok HE.out
      go_wp2_with fail
      go_ret
      exact ⟨by rw [HE.out]; rfl, HBw.out⟩
end Go.Proofs.YtfgkjofdgohacaaGreatDoor
namespace Go.Proofs.YtfgkjofdgohacaaGreatDoor
open Go Go.RowKit Go.Shelf Go.Maps
set_option maxHeartbeats 1000000 in
theorem colVals_any (X n c base : Nat) (a : Option Addr) (l : List Nat) (w : World) (hn : l.length = n) (hN : n < 1048576) (hX : Blk w X #[.slice a n c] 37) (hR : w.ownsRow base 41 1 (.slice a n c) n (fl encV l)) :
    Calls Tryz.prog 64 #[.func (.func 119) #[] #[.pointer (some ⟨X, 0, none⟩)]] w fun e w' => ∃ v, e = .returned v ∧ w'.ownsRow w.heap.size 41 1 v n (fl encV l) ∧ Below w.heap.size w w' := by
  have hb : ∀ B, BsV X a B → B < w.heap.size := fun B h => by
    rcases h with rfl | ⟨o, p, rfl⟩
    · exact hX.lt
    · exact (hR.lt B rfl).2
  refine (colU_any 119 (enters_of Tryz.func119 (by kernel_rfl) rfl) _ n (fun xs => xs = l) _ (fun W W' => KpC (BsV X a) W W' ∧ W.heap.size ≤ W'.heap.size) w (by omega) (valsU_stops 9 X n c a l w (by omega) hn (by omega) hX (rd_of_owns hR)) (fun h k => ⟨h.1.trans k.1, Nat.le_trans h.2 k.2⟩)
    (fun W l o o' _ hl hc _ => ⟨kpC_put W l o o' hl hc, by simp [World.putObj]⟩) (fun W W' hk hs => ⟨fun B cs t fr hB hx => (hs B (hb B hB)).trans hx, hk.size⟩)).mono ?_
  rintro e w' ⟨v, xs, rfl, rfl, h1, h2⟩
  rw [hn] at h1
  exact ⟨v, rfl, h1, h2⟩
/-- The clades of a tree; none if it is not valid. -/
def clsE (t : List Nd) : List Nat := if TreeOk t then clsL t else []
theorem clsE_ok {t : List Nd} (h : TreeOk t) : clsE t = clsL t := if_pos h
theorem clsE_bad {t : List Nd} (h : ¬ TreeOk t) : clsE t = [] := if_neg h
theorem setU_len (t : List Nd) : (setU t).length = (clsL t).length := by
  rw [← setU_sd, sdU_len (show (setU t).Nodup from addL_nd List.nodup_nil _)]
/-- One tree in a row. -/
theorem trsIn_one {w : World} {X : Nat} {a : Option Addr} {c : Nat} {t : List Nd} (hX : Blk w X #[.slice a t.length c] 22) (hl : t.length ≤ 1152921504606846976) (hR : Rd w a (fl encNd t)) (hS : ∀ v, v < t.length → (nS t v).size ≤ 9223372036854775807) : TrsIn w (some ⟨X, 0, none⟩) 1 (fun _ => t) [(a, t.length, c)] := by
  refine ⟨rfl, rd_of_blk4 (cs := fl encR [(a, t.length, c)]) hX, fun i hi => ?_, fun i hi => ?_, fun i hi => hS⟩
  · obtain rfl : i = 0 := by omega
    exact ⟨rfl, hl⟩
  · obtain rfl : i = 0 := by omega
    exact hR
set_option maxRecDepth 100000 in
set_option maxHeartbeats 4000000 in
theorem clades_any (a : Option Addr) (n c : Nat) (t : List Nd) (w : World) (hn : t.length = n) (hN : n ≤ 1152921504606846976) (hA : Rd w a (fl encNd t)) (hS : ∀ v, v < n → (nS t v).size ≤ 9223372036854775807) :
    Calls Tryz.prog 26 #[.slice a n c] w fun e w' => ∃ v, e = .returned (.tuple #[v, .int .i64 (chkE t)]) ∧ w'.ownsRow w.heap.size 41 1 v (clsE t).length (fl encV (clsE t)) ∧ Below w.heap.size w w' := by
  subst hn
  have HB1 := Lib.hid (bl_alloc (Below.refl _ w) (.cells #[.slice a t.length c] 22))
  have HS := Lib.hid (shapes_any (some ⟨w.heap.size, 0, none⟩) 1 1 (fun _ => t) _ _ (by omega) (trsIn_one (Blk.new w #[.slice a t.length c] 22) hN (hA.bl HB1.out) hS))
  clear hS hA
  go_enter Tryz.func26, Tryz.ntmps26
  go_upto_region 1 with fail
  by_cases hok : TreeOk t
  · have hE := shE_ok (n := 1) (T := fun _ => t) fun i hi => hok
    have HE := Lib.hid (chkE_good hok)
    have HC := Lib.hid (clsE_ok hok)
    rw [hE] at HS
    have hn63 := hok.2.1
    clear hE hok
    go_wp2_with first | fail | (go_at_call 52; refine HS.out.mono ?_; rintro e w2 ⟨hb2, ⟨h, _⟩ | ⟨_, A, c2, xs, rfl, hx⟩⟩; exact absurd rfl h; have HB2 := Lib.hid (bl_trans HB1.out hb2); have HX := Lib.hid hx; clear hb2 hx; obtain ⟨bA, oA, rfl, _, hc⟩ := rdSh (rd_of_owns HX.out.own) (by rw [HX.out.len]; omega); obtain ⟨c1, cx2, cx3⟩ := hc 0 (by rw [HX.out.len]; omega); clear hc; have HK := Lib.hid (HX.out.ok 0 (by omega)); generalize shA xs 0 = y at *; obtain ⟨⟨za, zn, zc⟩, ⟨va, vn, vc⟩, zm⟩ := y; simp only [slR] at c1 cx2; simp only [] at cx3; have HAL := Lib.hid (allU_any zm 100 (setU t) w2 HK.out.set (by rw [setU_len]; have := cls_len t; omega))) | (go_at_call 65; refine HAL.out.mono ?_; rintro e w3 ⟨X, a3, c3, rfl, hX0, hX, ho, hb3⟩; have HB3 := Lib.hid (bl_trans HB2.out hb3); have HCO := Lib.hid (colVals_any X (setU t).length c3 _ a3 (sdU (setU t)) w3 (sdU_len (show (setU t).Nodup from addL_nd List.nodup_nil _)) (by rw [setU_len]; have := cls_len t; omega) hX ho); clear ho hX hX0 hb3) | (go_at_call 64; refine HCO.out.mono ?_; rintro e w4 ⟨v, rfl, h1, h2⟩; have H1 := Lib.hid h1; have HB4 := Lib.hid (bl_trans HB3.out h2); clear h1 h2)
    go_ret2
    rw [HE.out, HC.out]
    refine ⟨v, rfl, ?_, HB4.out⟩
    have h := H1.out
    rw [setU_len, setU_sd] at h
    exact owns_base4 h HB3.out.size
  · have hE := shE_bad (n := 1) (k := 0) (T := fun _ => t) (by omega) hok
    have HE := Lib.hid (chkE_bad hok)
    have HC := Lib.hid (clsE_bad hok)
    rw [hE] at HS
    clear hE hok
    go_wp2_with (go_at_call 52; refine HS.out.mono ?_; rintro e w2 ⟨hb2, ⟨_, rfl⟩ | ⟨h, _⟩⟩; have HB2 := Lib.hid (bl_trans HB1.out hb2); clear hb2; rotate_left; exact absurd h (by decide))
    go_ret2
    rw [HE.out, HC.out]
    exact ⟨_, rfl, World.ownsRow_nil _ _ _ _, HB2.out⟩
end Go.Proofs.YtfgkjofdgohacaaGreatDoor
namespace Go.Proofs.YtfgkjofdgohacaaGreatDoor
open Go Go.RowKit Go.Shelf Go.Maps
theorem ShOk.rdN {W : World} {base : Nat} {x : Shp} {t : List Nd} (h : ShOk W base x t) : Rd W x.1.1 (fl encS (nmsL t)) := by
  obtain ⟨⟨a, n, c⟩, y⟩ := x
  have h1 := h.names
  obtain rfl : n = _ := h.n1
  exact rd_of_owns h1
theorem ShOk.rdD {W : World} {base : Nat} {x : Shp} {t : List Nd} (h : ShOk W base x t) : Rd W x.2.1.1 (fl encV (ndsU t)) := by
  obtain ⟨y, ⟨a, n, c⟩, z⟩ := x
  have h1 := h.nodes
  obtain rfl : n = _ := h.n2
  exact rd_of_owns h1
def two4 (s t : List Nd) (i : Nat) : List Nd := if i = 0 then s else t
theorem trsIn_two {w : World} {X : Nat} {a b : Option Addr} {c d : Nat} {s t : List Nd} (hX : Blk w X #[.slice a s.length c, .slice b t.length d] 22) (hs : s.length ≤ 1152921504606846976) (ht : t.length ≤ 1152921504606846976) (hA : Rd w a (fl encNd s)) (hB : Rd w b (fl encNd t))
    (hS : ∀ v, v < s.length → (nS s v).size ≤ 9223372036854775807) (hT : ∀ v, v < t.length → (nS t v).size ≤ 9223372036854775807) : TrsIn w (some ⟨X, 0, none⟩) 2 (two4 s t) [(a, s.length, c), (b, t.length, d)] := by
  refine ⟨rfl, rd_of_blk4 (cs := fl encR [(a, s.length, c), (b, t.length, d)]) hX, fun i hi => ?_, fun i hi => ?_, fun i hi => ?_⟩
  all_goals
    obtain rfl | rfl : i = 0 ∨ i = 1 := by omega
  · exact ⟨rfl, hs⟩
  · exact ⟨rfl, ht⟩
  · exact hA
  · exact hB
  · exact hS
  · exact hT
/-- The error of two trees. -/
def twoE (s t : List Nd) : Int := if TreeOk s ∧ TreeOk t then if nmsL s = nmsL t then 0 else 2 else 16
theorem twoE_sh (s t : List Nd) (h : ¬ (TreeOk s ∧ TreeOk t)) : shE 2 (two4 s t) = 16 ∧ twoE s t = 16 := by
  refine ⟨?_, if_neg h⟩
  by_cases h1 : TreeOk s
  · exact shE_bad (k := 1) (by omega) (fun h2 => h ⟨h1, h2⟩)
  · exact shE_bad (k := 0) (by omega) h1
theorem twoE_al (s t : List Nd) (h1 : TreeOk s) (h2 : TreeOk t) : shE 2 (two4 s t) = 0 ∧ twoE s t = alE s 1 (fun _ => t) := by
  refine ⟨shE_ok fun i hi => ?_, ?_⟩
  · obtain rfl | rfl : i = 0 ∨ i = 1 := by omega
    · exact h1
    · exact h2
  · unfold twoE alE
    rw [if_pos ⟨h1, h2⟩]
    by_cases e : nmsL s = nmsL t
    · rw [if_pos e, if_pos fun _ _ => e]
    · rw [if_neg e, if_neg fun h => e (h 0 (by omega))]
/-- A shape's value, or none. -/
def shV (o : Option Shp) : Value := match o with
  | some x => .agg (encSh x).toArray
  | none => .agg #[.slice none 0 0, .slice none 0 0, .map none]
theorem results_both {P : Program} {fn : Func} {p q r : Tmp} {ty tz : TypeId} (h : fn.results = #[.cell p ty, .cell q tz, .tmp r]) (tmps : Array Value) (w : World) (b b' : Nat) (u v : Value) (hp : tmps.getD p undef = .pointer (some ⟨b, 0, none⟩)) (hq : tmps.getD q undef = .pointer (some ⟨b', 0, none⟩)) (hu : (loadVar ty ⟨b, 0, none⟩).run P w = .ok u w) (hv : (loadVar tz ⟨b', 0, none⟩).run P w = .ok v w) :
    (results fn tmps).run P w = .ok (.tuple #[u, v, tmps.getD r undef]) w := by
  have hp2 : tmps[p]?.getD undef = .pointer (some ⟨b, 0, none⟩) := by rw [← hp]; simp
  have hq2 : tmps[q]?.getD undef = .pointer (some ⟨b', 0, none⟩) := by rw [← hq]; simp
  simp [results, h, hp2, hq2, asAddr, hu, hv]
theorem blk_set3 {W : World} {B : Nat} {u0 u1 u2 : Value} {ty : TypeId} (h : Blk W B #[u0, u1, u2] ty) (v0 v1 v2 : Value) : Blk (((W.setCell ⟨B, 0, none⟩ v0).setCell ⟨B, 1, none⟩ v1).setCell ⟨B, 2, none⟩ v2) B #[v0, v1, v2] ty := by
  have := ((h.set 0 v0).set 1 v1).set 2 v2
  simpa using this
theorem blk_oth3 {W : World} {B B' : Nat} {cs : Array Value} {ty : TypeId} (h : Blk W B cs ty) (hne : B ≠ B') (v0 v1 v2 : Value) : Blk (((W.setCell ⟨B', 0, none⟩ v0).setCell ⟨B', 1, none⟩ v1).setCell ⟨B', 2, none⟩ v2) B cs ty :=
  ((h.other hne 0 v0).other hne 1 v1).other hne 2 v2
theorem bl_set3 {a w : World} (h : Below a.heap.size a w) (B : Nat) (hB : a.heap.size ≤ B) (v0 v1 v2 : Value) : Below a.heap.size a (((w.setCell ⟨B, 0, none⟩ v0).setCell ⟨B, 1, none⟩ v1).setCell ⟨B, 2, none⟩ v2) :=
  bl_set (bl_set (bl_set h _ _ _ _ hB) _ _ _ _ hB) _ _ _ _ hB
theorem cell_oth3 {W : World} {A B i : Nat} {x : Option Value} (h : W.cell? ⟨A, i, none⟩ = x) (hne : A ≠ B) (v0 v1 v2 : Value) : (((W.setCell ⟨B, 0, none⟩ v0).setCell ⟨B, 1, none⟩ v1).setCell ⟨B, 2, none⟩ v2).cell? ⟨A, i, none⟩ = x := by
  rw [← h]
  simp only [World.cell?]
  rw [Below.heap_setCell _ ⟨B, 2, none⟩ v2 A hne, Below.heap_setCell _ ⟨B, 1, none⟩ v1 A hne, Below.heap_setCell _ ⟨B, 0, none⟩ v0 A hne]
theorem owns_oth3 {W : World} {base e n B : Nat} {v : Value} {xs : List Value} (h : W.ownsRow base e 1 v n xs) {cs : Array Value} {ty : TypeId} (hB : Blk W B cs ty) (hne : e ≠ ty) (v0 v1 v2 : Value) : (((W.setCell ⟨B, 0, none⟩ v0).setCell ⟨B, 1, none⟩ v1).setCell ⟨B, 2, none⟩ v2).ownsRow base e 1 v n xs := by
  have hRne : v.ownBlock ≠ some B := fun e2 => by
    rcases h.2 with ⟨rfl, _⟩ | ⟨g', cap', cur, rfl, _, hgb, _⟩
    · cases e2
    · have : g' = B := Option.some.inj e2
      subst this
      unfold Blk at hB
      rw [hB] at hgb
      cases hgb
      exact hne rfl
  exact ownsRow_setCell_other (a := ⟨B, 2, none⟩) (ownsRow_setCell_other (a := ⟨B, 1, none⟩) (ownsRow_setCell_other (a := ⟨B, 0, none⟩) h hRne _) hRne _) hRne _
theorem ShOk.oth3 {W : World} {base B : Nat} {x : Shp} {t : List Nd} (h : ShOk W base x t) {cs : Array Value} (hB : Blk W B cs 69) (v0 v1 v2 : Value) : ShOk (((W.setCell ⟨B, 0, none⟩ v0).setCell ⟨B, 1, none⟩ v1).setCell ⟨B, 2, none⟩ v2) base x t :=
  ⟨h.n1, h.n2, owns_oth3 h.names hB (by decide) _ _ _, owns_oth3 h.nodes hB (by decide) _ _ _, ((h.set.set _ _).set _ _).set _ _, h.low⟩
/-- What both leaves. -/
def BothPost (s t : List Nd) (w : World) (e : Ending) (w' : World) : Prop :=
  Below w.heap.size w w' ∧ (twoE s t ≠ 0 ∧ e = .returned (.tuple #[shV none, shV none, .int .i64 (twoE s t)]) ∨ TreeOk s ∧ TreeOk t ∧ nmsL s = nmsL t ∧ twoE s t = 0 ∧ ∃ x y, e = .returned (.tuple #[.agg (encSh x).toArray, .agg (encSh y).toArray, .int .i64 (twoE s t)]) ∧ ShOk w' w.heap.size x s ∧ ShOk w' w.heap.size y t)
set_option maxRecDepth 100000 in
set_option maxHeartbeats 4000000 in
theorem both_any (a b : Option Addr) (n c m d : Nat) (s t : List Nd) (w : World) (hn : s.length = n) (hm : t.length = m) (hN : n ≤ 1152921504606846976) (hM : m ≤ 1152921504606846976) (hA : Rd w a (fl encNd s)) (hB : Rd w b (fl encNd t)) (hS : ∀ v, v < n → (nS s v).size ≤ 9223372036854775807) (hT : ∀ v, v < m → (nS t v).size ≤ 9223372036854775807) :
    Calls Tryz.prog 45 #[.slice a n c, .slice b m d] w (BothPost s t w) := by
  subst hn hm
  obtain ⟨w1, hw1⟩ : ∃ x, x = (w.alloc (.cells #[.slice none 0 0, .slice none 0 0, .map none] 69)).alloc (.cells #[.slice none 0 0, .slice none 0 0, .map none] 69) := ⟨_, rfl⟩
  have HBK1 : Hid (Blk w1 w.heap.size #[.slice none 0 0, .slice none 0 0, .map none] 69) := by
    show Blk _ _ _ _
    rw [hw1]; exact (Blk.new w _ _).alloc _
  have HBK2 : Hid (Blk w1 (w.heap.size + 1) #[.slice none 0 0, .slice none 0 0, .map none] 69) := by
    show Blk _ _ _ _
    rw [hw1]; exact Blk.new2 w _ _ _
  have HB1 : Hid (Below w.heap.size w w1) := by
    show Below _ _ _
    rw [hw1]; exact bl_alloc (bl_alloc (Below.refl _ w) _) _
  have HB2 := Lib.hid (bl_alloc HB1.out (.cells #[.slice a s.length c, .slice b t.length d] 22))
  have HS := Lib.hid (shapes_any (some ⟨w1.heap.size, 0, none⟩) 2 2 (two4 s t) _ _ (by omega) (trsIn_two (Blk.new w1 #[.slice a s.length c, .slice b t.length d] 22) hN hM (hA.bl HB2.out) (hB.bl HB2.out) hS hT))
  clear hS hA hB hT
  go_enter Tryz.func45, Tryz.ntmps45
  go_upto_region 1 with fail
  rw [← hw1]
  clear hw1
  by_cases hok : TreeOk s ∧ TreeOk t
  · obtain ⟨hok1, hok2⟩ := hok
    obtain ⟨hE, hE2⟩ := twoE_al s t hok1 hok2
    have HE := Lib.hid hE2
    have HOK1 := Lib.hid hok1
    have HOK2 := Lib.hid hok2
    rw [hE] at HS
    clear hE hE2 hok1 hok2
    go_upto_region 3 with (go_at_call 52; refine HS.out.mono ?_; rintro e w2 ⟨hb2, ⟨h, _⟩ | ⟨_, A, c2, xs, rfl, hx⟩⟩; exact absurd rfl h; have HB3 := Lib.hid (bl_trans HB2.out hb2); have HX := Lib.hid hx; have HP := Lib.hid ((HBK1.out.alloc (.cells #[.slice a s.length c, .slice b t.length d] 22)).below hb2); have HQ := Lib.hid ((HBK2.out.alloc (.cells #[.slice a s.length c, .slice b t.length d] 22)).below hb2); clear hb2 hx)
    obtain ⟨bA, oA, rfl, _, hc⟩ := rdSh (rd_of_owns HX.out.own) (by rw [HX.out.len]; omega)
    obtain ⟨c1, cx2, cx3⟩ := hc 0 (by rw [HX.out.len]; omega)
    obtain ⟨d1, d2, d3⟩ := hc 1 (by rw [HX.out.len]; omega)
    clear hc
    have hbA2 : (w1.alloc (.cells #[.slice a s.length c, .slice b t.length d] 22)).heap.size ≤ bA := (HX.out.own.lt bA rfl).1
    have hw1s : w.heap.size + 1 < w1.heap.size := HBK2.out.lt
    rw [World.size_alloc] at hbA2
    have HK := Lib.hid (show ShOk w2 _ (shA xs 0) s from HX.out.ok 0 (by omega))
    have HL := Lib.hid (show ShOk w2 _ (shA xs 1) t from HX.out.ok 1 (by omega))
    clear HX
    generalize shA xs 0 = y at *
    generalize shA xs 1 = z at *
    obtain ⟨⟨ya, yn, yc⟩, ⟨yd, yo, yp⟩, ym⟩ := y
    obtain ⟨⟨za, zn, zc⟩, ⟨zd, zo, zp⟩, zm⟩ := z
    simp only [slR] at c1 cx2 d1 d2
    simp only [] at cx3 d3
    rw [Nat.zero_mul, Nat.add_zero] at c1 cx2 cx3
    rw [Nat.one_mul] at d1 d2 d3
    rw [Nat.add_assoc] at d2 d3
    have HB4 := Lib.hid (bl_alloc (bl_drewN (Below.refl w2.heap.size w2) 1) (.cells #[.slice za zn zc, .slice zd zo zp, .map (some zm)] 69))
    have HAL := Lib.hid (alike_any ((ya, yn, yc), (yd, yo, yp), ym) s (some ⟨w2.heap.size, 0, none⟩) 1 1 (fun _ => t) [((za, zn, zc), (zd, zo, zp), zm)] _ HOK1.out (fun _ _ => HOK2.out) HK.out.n1 (HK.out.rdN.bl HB4.out) rfl (by omega) (rd_of_blk4 (cs := encSh ((za, zn, zc), (zd, zo, zp), zm)) (Blk.new (w2.drewN 1) _ 69)) (fun i hi => by
      obtain rfl : i = 0 := by omega
      exact ⟨HL.out.n1, HL.out.rdN.bl HB4.out⟩))
    have hbA : bA < w2.heap.size := by assumption
    refine wp_region_order (S := fun w' => w'.cell? ⟨bA, oA, none⟩ = some (.slice ya yn yc) ∧ w'.cell? ⟨bA, oA + 1, none⟩ = some (.slice yd yo yp) ∧ w'.cell? ⟨bA, oA + 2, none⟩ = some (.map (some ym)) ∧ w'.cell? ⟨bA, oA + 3, none⟩ = some (.slice za zn zc) ∧ w'.cell? ⟨bA, oA + 4, none⟩ = some (.slice zd zo zp) ∧ w'.cell? ⟨bA, oA + 5, none⟩ = some (.map (some zm))) 8 [0,1,2,3,4,5] [6,7] (by kernel_rfl) (by kernel_rfl) ⟨c1, cx2, cx3, d1, d2, d3⟩ ?_
    iterate 6 (refine headT_cons (by rfl) (by rfl) (by intro w hSw; obtain ⟨s0, s1, s2, s3, s4, s5⟩ := hSw; go_simp; try rfl) ?_; simp only [Act.put, List.setIfInBounds_toArray, List.set_cons_zero, List.set_cons_succ])
    refine headT_nil ?_
    have HALL : Hid (∀ w', Below w2.heap.size w2 w' → w'.cell? ⟨bA, oA, none⟩ = some (.slice ya yn yc) ∧ w'.cell? ⟨bA, oA + 1, none⟩ = some (.slice yd yo yp) ∧ w'.cell? ⟨bA, oA + 2, none⟩ = some (.map (some ym)) ∧ w'.cell? ⟨bA, oA + 3, none⟩ = some (.slice za zn zc) ∧ w'.cell? ⟨bA, oA + 4, none⟩ = some (.slice zd zo zp) ∧ w'.cell? ⟨bA, oA + 5, none⟩ = some (.map (some zm))) := fun w' hb =>
      ⟨(hb.cell (p := ⟨bA, oA, none⟩) hbA).trans c1, (hb.cell (p := ⟨bA, oA + 1, none⟩) hbA).trans cx2, (hb.cell (p := ⟨bA, oA + 2, none⟩) hbA).trans cx3, (hb.cell (p := ⟨bA, oA + 3, none⟩) hbA).trans d1, (hb.cell (p := ⟨bA, oA + 4, none⟩) hbA).trans d2, (hb.cell (p := ⟨bA, oA + 5, none⟩) hbA).trans d3⟩
    clear c1 cx2 cx3 d1 d2 d3
    refine midT_cons (by rfl) (fun K hK => ?_)
    rw [if_pos (by rfl)]
    go_simp
    refine hK.out _ _ (HALL.out _ HB4.out) (fun _ => ?_)
    clear hK K
    try simp only [Act.put, List.setIfInBounds_toArray, List.set_cons_zero, List.set_cons_succ]
    refine midT_cons (by rfl) (fun K hK => ?_)
    rw [if_pos (by rfl)]
    go_simp
    refine HAL.out.mono ?_
    rintro e w5 ⟨rfl, hb5⟩
    have HB5 := Lib.hid (bl_trans HB4.out hb5)
    refine hK.out _ _ (HALL.out _ HB5.out) (fun _ => ?_)
    clear hK K hb5
    try simp only [Act.put, List.setIfInBounds_toArray, List.set_cons_zero, List.set_cons_succ]
    refine midT_nil ?_
    simp only [List.drop_succ_cons, List.drop_zero]
    have HBF := Lib.hid (bl_trans HB3.out HB5.out)
    have HP5 := Lib.hid (HP.out.below HB5.out)
    have HQ5 := Lib.hid (HQ.out.below HB5.out)
    have HK5 := Lib.hid ((HK.out.bl HB5.out).base HB2.out.size)
    have HL5 := Lib.hid ((HL.out.bl HB5.out).base HB2.out.size)
    by_cases hal : nmsL s = nmsL t
    · have HAE : Hid (alE s 1 (fun _ => t) = 0) := alE_ok fun _ _ => hal
      have HNE := Lib.hid hal
      rw [HAE.out]
      go_wp2_with fail
      refine NoPanic.normal ?_
      obtain ⟨c1, cx2, cx3, d1, d2, d3⟩ := HALL.out _ HB5.out
      have hx0 := HP5.out.cell 0
      have hx1 := HP5.out.cell 1
      have hx2 := HP5.out.cell 2
      have hy0 := HQ5.out.cell 0
      have hy1 := HQ5.out.cell 1
      have hy2 := HQ5.out.cell 2
      have fx0 := HP5.out.free 0
      have fx1 := HP5.out.free 1
      have fx2 := HP5.out.free 2
      have fy0 := HQ5.out.free 0
      have fy1 := HQ5.out.free 1
      have fy2 := HQ5.out.free 2
      have n1 : bA ≠ w.heap.size := by omega
      have n2 : bA ≠ w.heap.size + 1 := by omega
      have HW6 : Hid (Below w2.heap.size w2 w5.drew) := bl_trans HB5.out (bl_drewN (Below.refl _ _) 1)
      go_upto_region 6 with fail
      refine wp_region_order (S := fun w' => w'.cell? ⟨bA, oA, none⟩ = some (.slice ya yn yc) ∧ w'.cell? ⟨bA, oA + 1, none⟩ = some (.slice yd yo yp) ∧ w'.cell? ⟨bA, oA + 2, none⟩ = some (.map (some ym)) ∧ w'.cell? ⟨bA, oA + 3, none⟩ = some (.slice za zn zc) ∧ w'.cell? ⟨bA, oA + 4, none⟩ = some (.slice zd zo zp) ∧ w'.cell? ⟨bA, oA + 5, none⟩ = some (.map (some zm))) 8 [0,1,2,3,4,5] [6,7] (by kernel_rfl) (by kernel_rfl) ⟨c1, cx2, cx3, d1, d2, d3⟩ ?_
      iterate 6 (refine headT_cons (by rfl) (by rfl) (by intro w hSw; obtain ⟨s0, s1, s2, s3, s4, s5⟩ := hSw; go_simp; try rfl) ?_; simp only [Act.put, List.setIfInBounds_toArray, List.set_cons_zero, List.set_cons_succ])
      refine headT_nil ?_
      have HPd : Hid (Blk w5.drew w.heap.size #[.slice none 0 0, .slice none 0 0, .map none] 69) := HP5.out.drewN 1
      have HQd : Hid (Blk w5.drew (w.heap.size + 1) #[.slice none 0 0, .slice none 0 0, .map none] 69) := HQ5.out.drewN 1
      have HKd : Hid (ShOk w5.drew w.heap.size ((ya, yn, yc), (yd, yo, yp), ym) s) := HK5.out.bl (bl_drewN (Below.refl _ _) 1)
      have HLd : Hid (ShOk w5.drew w.heap.size ((za, zn, zc), (zd, zo, zp), zm) t) := HL5.out.bl (bl_drewN (Below.refl _ _) 1)
      have HBd : Hid (Below w.heap.size w w5.drew) := bl_drewN HBF.out 1
      have HCd : Hid (w5.drew.cell? ⟨bA, oA, none⟩ = some (.slice ya yn yc) ∧ w5.drew.cell? ⟨bA, oA + 1, none⟩ = some (.slice yd yo yp) ∧ w5.drew.cell? ⟨bA, oA + 2, none⟩ = some (.map (some ym)) ∧ w5.drew.cell? ⟨bA, oA + 3, none⟩ = some (.slice za zn zc) ∧ w5.drew.cell? ⟨bA, oA + 4, none⟩ = some (.slice zd zo zp) ∧ w5.drew.cell? ⟨bA, oA + 5, none⟩ = some (.map (some zm))) := ⟨c1, cx2, cx3, d1, d2, d3⟩
      have hx0d : w5.drew.cell? ⟨w.heap.size, 0, none⟩ = some (.slice none 0 0) := HPd.out.cell 0
      have hx1d : w5.drew.cell? ⟨w.heap.size, 1, none⟩ = some (.slice none 0 0) := HPd.out.cell 1
      have hx2d : w5.drew.cell? ⟨w.heap.size, 2, none⟩ = some (.map none) := HPd.out.cell 2
      have hy0d : w5.drew.cell? ⟨w.heap.size + 1, 0, none⟩ = some (.slice none 0 0) := HQd.out.cell 0
      have hy1d : w5.drew.cell? ⟨w.heap.size + 1, 1, none⟩ = some (.slice none 0 0) := HQd.out.cell 1
      have hy2d : w5.drew.cell? ⟨w.heap.size + 1, 2, none⟩ = some (.map none) := HQd.out.cell 2
      have fx0d := HPd.out.free 0
      have fx1d := HPd.out.free 1
      have fx2d := HPd.out.free 2
      have fy0d := HQd.out.free 0
      have fy1d := HQd.out.free 1
      have fy2d := HQd.out.free 2
      clear hx0 hx1 hx2 hy0 hy1 hy2 fx0 fx1 fx2 fy0 fy1 fy2 c1 cx2 cx3 d1 d2 d3 HW6 HALL
      generalize w5.drew = w6 at *
      obtain ⟨c1, cx2, cx3, d1, d2, d3⟩ := HCd.out
      have s1 := And.intro (cell_oth3 c1 n1 (.slice ya yn yc) (.slice yd yo yp) (.map (some ym))) (And.intro (cell_oth3 cx2 n1 (.slice ya yn yc) (.slice yd yo yp) (.map (some ym))) (And.intro (cell_oth3 cx3 n1 (.slice ya yn yc) (.slice yd yo yp) (.map (some ym))) (And.intro (cell_oth3 d1 n1 (.slice ya yn yc) (.slice yd yo yp) (.map (some ym))) (And.intro (cell_oth3 d2 n1 (.slice ya yn yc) (.slice yd yo yp) (.map (some ym))) (cell_oth3 d3 n1 (.slice ya yn yc) (.slice yd yo yp) (.map (some ym)))))))
      obtain ⟨g1, g2, g3, g4, g5, g6⟩ := s1
      have S1 := Lib.hid (show _ ∧ _ ∧ _ ∧ _ ∧ _ ∧ _ from ⟨g1, g2, g3, g4, g5, g6⟩)
      have S2 := Lib.hid (show _ ∧ _ ∧ _ ∧ _ ∧ _ ∧ _ from ⟨cell_oth3 g1 n2 (.slice za zn zc) (.slice zd zo zp) (.map (some zm)), cell_oth3 g2 n2 (.slice za zn zc) (.slice zd zo zp) (.map (some zm)), cell_oth3 g3 n2 (.slice za zn zc) (.slice zd zo zp) (.map (some zm)), cell_oth3 g4 n2 (.slice za zn zc) (.slice zd zo zp) (.map (some zm)), cell_oth3 g5 n2 (.slice za zn zc) (.slice zd zo zp) (.map (some zm)), cell_oth3 g6 n2 (.slice za zn zc) (.slice zd zo zp) (.map (some zm))⟩)
      clear c1 cx2 cx3 d1 d2 d3 g1 g2 g3 g4 g5 g6
      refine midT_cons (by rfl) (fun K hK => ?_)
      rw [if_pos (by rfl)]
      go_simp
      refine hK.out _ _ S1.out (fun _ => ?_)
      clear hK K
      try simp only [Act.put, List.setIfInBounds_toArray, List.set_cons_zero, List.set_cons_succ]
      refine midT_cons (by rfl) (fun K hK => ?_)
      rw [if_pos (by rfl)]
      go_simp
      refine hK.out _ _ S2.out (fun _ => ?_)
      clear hK K
      try simp only [Act.put, List.setIfInBounds_toArray, List.set_cons_zero, List.set_cons_succ]
      refine midT_nil ?_
      simp only [List.drop_succ_cons, List.drop_zero]
      go_wp2_with fail
      refine NoPanic.normal ?_
      go_wp2_with fail
      refine bodyPost_ret (results_both rfl _ _ w.heap.size (w.heap.size + 1) _ _ rfl rfl (load_shape (blk_oth3 (blk_set3 HPd.out _ _ _) (by omega) _ _ _)) (load_shape (blk_set3 (blk_oth3 HQd.out (by omega) _ _ _) _ _ _))) rfl ?_
      exact ⟨bl_set3 (bl_set3 HBd.out _ (Nat.le_refl _) _ _ _) _ (by omega) _ _ _, .inr ⟨HOK1.out, HOK2.out, hal, by rw [HE.out, HAE.out], ((ya, yn, yc), (yd, yo, yp), ym), ((za, zn, zc), (zd, zo, zp), zm), by rw [HE.out, HAE.out]; rfl, (HKd.out.oth3 HPd.out _ _ _).oth3 (blk_oth3 HQd.out (by omega) _ _ _) _ _ _, (HLd.out.oth3 HPd.out _ _ _).oth3 (blk_oth3 HQd.out (by omega) _ _ _) _ _ _⟩⟩
    · have HAE : Hid (alE s 1 (fun _ => t) = 2) := alE_bad (k := 0) (by omega) hal
      rw [HAE.out]
      have hx0 := HP5.out.cell 0
      have hx1 := HP5.out.cell 1
      have hx2 := HP5.out.cell 2
      have hy0 := HQ5.out.cell 0
      have hy1 := HQ5.out.cell 1
      have hy2 := HQ5.out.cell 2
      have fx0 := HP5.out.free 0
      have fx1 := HP5.out.free 1
      have fx2 := HP5.out.free 2
      have fy0 := HQ5.out.free 0
      have fy1 := HQ5.out.free 1
      have fy2 := HQ5.out.free 2
      go_wp2_with fail
      refine NoPanic.normal ?_
      go_wp2_with fail
      refine bodyPost_ret (results_both rfl _ _ w.heap.size (w.heap.size + 1) _ _ rfl rfl (load_shape (blk_oth3 (blk_set3 HP5.out _ _ _) (by omega) _ _ _)) (load_shape (blk_set3 (blk_oth3 HQ5.out (by omega) _ _ _) _ _ _))) rfl ?_
      exact ⟨bl_set3 (bl_set3 HBF.out _ (Nat.le_refl _) _ _ _) _ (by omega) _ _ _, .inl ⟨by rw [HE.out, HAE.out]; decide, by rw [HE.out, HAE.out]; rfl⟩⟩
  · obtain ⟨hE, hE2⟩ := twoE_sh s t hok
    have HE := Lib.hid hE2
    rw [hE] at HS
    clear hE hE2 hok
    go_wp2_with (go_at_call 52; refine HS.out.mono ?_; rintro e w2 ⟨hb2, ⟨_, rfl⟩ | ⟨h, _⟩⟩; rotate_left; exact absurd h (by decide); have HB3 := Lib.hid (bl_trans HB2.out hb2); have HX := Lib.hid ((HBK1.out.alloc (.cells #[.slice a s.length c, .slice b t.length d] 22)).below hb2); have HY := Lib.hid ((HBK2.out.alloc (.cells #[.slice a s.length c, .slice b t.length d] 22)).below hb2); clear hb2; have hx0 := HX.out.cell 0; have hx1 := HX.out.cell 1; have hx2 := HX.out.cell 2; have hy0 := HY.out.cell 0; have hy1 := HY.out.cell 1; have hy2 := HY.out.cell 2; have fx0 := HX.out.free 0; have fx1 := HX.out.free 1; have fx2 := HX.out.free 2; have fy0 := HY.out.free 0; have fy1 := HY.out.free 1; have fy2 := HY.out.free 2)
    refine bodyPost_ret (results_both rfl _ _ w.heap.size (w.heap.size + 1) _ _ rfl rfl (load_shape (blk_oth3 (blk_set3 HX.out _ _ _) (by omega) _ _ _)) (load_shape (blk_set3 (blk_oth3 HY.out (by omega) _ _ _) _ _ _))) rfl ?_
    exact ⟨bl_set3 (bl_set3 HB3.out _ (Nat.le_refl _) _ _ _) _ (by omega) _ _ _, .inl ⟨by rw [HE.out]; decide, by rw [HE.out]; rfl⟩⟩
end Go.Proofs.YtfgkjofdgohacaaGreatDoor
namespace Go.Proofs.YtfgkjofdgohacaaGreatDoor
open Go Go.RowKit Go.Shelf
/-- Sets that fit one another: all, single ones, and others. -/
structure Hier (L : Nat) (S : List Nat) : Prop where
  pw : S.Pairwise (· < ·)
  lt : ∀ x, x ∈ S → x < 2 ^ L
  ne : ∀ x, x ∈ S → x ≠ 0
  fit : ∀ x y, x ∈ S → y ∈ S → fitB x y = true
  all : 2 ^ L - 1 ∈ S
  one : ∀ k, k < L → 2 ^ k ∈ S
theorem Hier.nest {L : Nat} {S : List Nat} (h : Hier L S) {x y k : Nat} (hx : x ∈ S) (hy : y ∈ S) (h1 : x.testBit k = true) (h2 : y.testBit k = true) : y &&& x = x ∨ x &&& y = y := by
  have hf := h.fit x y hx hy
  unfold fitB at hf
  rw [Bool.or_eq_true, Bool.or_eq_true, decide_eq_true_eq, decide_eq_true_eq, decide_eq_true_eq] at hf
  rcases hf with (e | e) | e
  · have h3 : (x &&& y).testBit k = true := by rw [Nat.testBit_and, h1, h2]; rfl
    rw [e, Nat.zero_testBit] at h3
    cases h3
  · exact .inl (by rw [Nat.and_comm]; exact e)
  · exact .inr e
theorem Hier.b64 {L : Nat} {S : List Nat} (h : Hier L S) (hL : L ≤ 64) {x : Nat} (hx : x ∈ S) : x < 2 ^ 64 := Nat.lt_of_lt_of_le (h.lt x hx) (Nat.pow_le_pow_right (by omega) hL)
/-- The clades of a tree are such a family. -/
theorem cls_hier {t : List Nd} {n : Nat} (hn : t.length = n) (hok : TreeOk t) : Hier (lvT t).length (clsL t) := by
  refine ⟨cls_pw t, fun x hx => ?_, fun x hx => ?_, fun x y hx hy => ?_, ?_, fun k hk => ?_⟩
  · obtain ⟨v, hv, rfl⟩ := cls_mem.1 hx
    exact cl4_lt rfl hok hv
  · obtain ⟨v, hv, rfl⟩ := cls_mem.1 hx
    exact cl4_ne rfl hok hv
  · obtain ⟨v, hv, rfl⟩ := cls_mem.1 hx
    obtain ⟨u, hu, rfl⟩ := cls_mem.1 hy
    exact cl4_fit rfl hok hv hu
  · exact cls_mem.2 ⟨0, by have := hok.1; omega, cl4_root rfl hok⟩
  · obtain ⟨u, h1, h2, e⟩ := pl4_sur rfl hok hk
    exact cls_mem.2 ⟨u, h1, by rw [← e]; exact cl4_leaf rfl hok h1 h2⟩
/-- The smallest set with two leaves, of those that have come so far. -/
def jnS (i k : Nat) (S : List Nat) : Nat := S.foldl (fun m s => if s.testBit i && s.testBit k && (decide (m = 0) || decide (cntB s 64 < cntB m 64)) then s else m) 0
theorem jnS_snoc (i k s : Nat) (S : List Nat) : jnS i k (S ++ [s]) = if s.testBit i && s.testBit k && (decide (jnS i k S = 0) || decide (cntB s 64 < cntB (jnS i k S) 64)) then s else jnS i k S := by simp [jnS]
theorem jnS_inv (i k : Nat) : ∀ S : List Nat, (∀ x, x ∈ S → x ≠ 0) → (jnS i k S = 0 ∧ ∀ s, s ∈ S → ¬ (s.testBit i = true ∧ s.testBit k = true)) ∨
    (jnS i k S ∈ S ∧ (jnS i k S).testBit i = true ∧ (jnS i k S).testBit k = true ∧ ∀ s, s ∈ S → s.testBit i = true → s.testBit k = true → cntB (jnS i k S) 64 ≤ cntB s 64) := by
  intro S
  refine snoc_rec (P := fun S => (∀ x, x ∈ S → x ≠ 0) → (jnS i k S = 0 ∧ ∀ s, s ∈ S → ¬ (s.testBit i = true ∧ s.testBit k = true)) ∨
    (jnS i k S ∈ S ∧ (jnS i k S).testBit i = true ∧ (jnS i k S).testBit k = true ∧ ∀ s, s ∈ S → s.testBit i = true → s.testBit k = true → cntB (jnS i k S) 64 ≤ cntB s 64)) ?_ (fun S y ih => ?_) S
  · intro _; exact .inl ⟨rfl, fun s hs => by simp at hs⟩
  · intro hne
    have ih := ih fun x hx => hne x (by simp [hx])
    have hy := hne y (by simp)
    rw [jnS_snoc]
    by_cases hb : y.testBit i = true ∧ y.testBit k = true
    · rw [hb.1, hb.2]
      rcases ih with ⟨h0, hno⟩ | ⟨hm, h1, h2, hmin⟩
      · rw [h0]
        refine .inr ⟨by simp, by simpa using hb.1, by simpa using hb.2, fun s hs q1 q2 => ?_⟩
        rcases List.mem_append.1 hs with h | h
        · exact absurd ⟨q1, q2⟩ (hno s h)
        · rw [List.mem_singleton.1 h]; simp
      · have hj0 : jnS i k S ≠ 0 := hne _ (by simp [hm])
        by_cases hlt : cntB y 64 < cntB (jnS i k S) 64
        · simp only [hlt, decide_true, Bool.or_true, Bool.and_true, if_true]
          refine .inr ⟨by simp, hb.1, hb.2, fun s hs q1 q2 => ?_⟩
          rcases List.mem_append.1 hs with h | h
          · have := hmin s h q1 q2; omega
          · rw [List.mem_singleton.1 h]; exact Nat.le_refl _
        · simp only [hlt, hj0, decide_false, Bool.or_false, Bool.and_false, Bool.false_eq_true, if_false]
          refine .inr ⟨by simp [hm], h1, h2, fun s hs q1 q2 => ?_⟩
          rcases List.mem_append.1 hs with h | h
          · exact hmin s h q1 q2
          · rw [List.mem_singleton.1 h]; omega
    · have e : (y.testBit i && y.testBit k) = false := by
        cases q1 : y.testBit i
        · rfl
        · cases q2 : y.testBit k
          · rfl
          · exact absurd ⟨q1, q2⟩ hb
      rw [e]
      simp only [Bool.false_and, Bool.false_eq_true, if_false]
      rcases ih with ⟨h0, hno⟩ | ⟨hm, h1, h2, hmin⟩
      · refine .inl ⟨h0, fun s hs => ?_⟩
        rcases List.mem_append.1 hs with h | h
        · exact hno s h
        · rw [List.mem_singleton.1 h]; exact hb
      · refine .inr ⟨by simp [hm], h1, h2, fun s hs q1 q2 => ?_⟩
        rcases List.mem_append.1 hs with h | h
        · exact hmin s h q1 q2
        · rw [List.mem_singleton.1 h] at q1 q2; exact absurd ⟨q1, q2⟩ hb
/-- The smallest set with two leaves lies in each set with both. -/
theorem Hier.jn {L : Nat} {S : List Nat} (h : Hier L S) (hL : L ≤ 64) {i k : Nat} (hi : i < L) (hk : k < L) : jnS i k S ∈ S ∧ (jnS i k S).testBit i = true ∧ (jnS i k S).testBit k = true ∧ ∀ s, s ∈ S → s.testBit i = true → s.testBit k = true → s &&& jnS i k S = jnS i k S := by
  rcases jnS_inv i k S h.ne with ⟨_, hno⟩ | ⟨hm, h1, h2, hmin⟩
  · refine absurd ⟨?_, ?_⟩ (hno _ h.all)
    · rw [Nat.testBit_two_pow_sub_one]; simpa using hi
    · rw [Nat.testBit_two_pow_sub_one]; simpa using hk
  · refine ⟨hm, h1, h2, fun s hs q1 q2 => ?_⟩
    rcases h.nest hm hs h1 q1 with e | e
    · exact e
    · have := sub_eq4 (h.b64 hL hs) (h.b64 hL hm) e (hmin s hs q1 q2)
      rw [this]; exact Nat.and_self _
/-- Is q apart from r and s? -/
def apT (S : List Nat) (q r s : Nat) : Bool := S.any fun x => (!x.testBit q && x.testBit r) && x.testBit s
theorem apT_iff {S : List Nat} {q r s : Nat} : apT S q r s = true ↔ ∃ x, x ∈ S ∧ x.testBit q = false ∧ x.testBit r = true ∧ x.testBit s = true := by
  unfold apT
  rw [List.any_eq_true]
  constructor
  · rintro ⟨x, hx, h⟩
    rw [Bool.and_eq_true, Bool.and_eq_true, Bool.not_eq_true'] at h
    exact ⟨x, hx, h.1.1, h.1.2, h.2⟩
  · rintro ⟨x, hx, h1, h2, h3⟩
    exact ⟨x, hx, by rw [h1, h2, h3]; rfl⟩
theorem apT_comm (S : List Nat) (q r s : Nat) : apT S q r s = apT S q s r := by
  rw [Bool.eq_iff_iff, apT_iff, apT_iff]
  exact ⟨fun ⟨x, h, h1, h2, h3⟩ => ⟨x, h, h1, h3, h2⟩, fun ⟨x, h, h1, h2, h3⟩ => ⟨x, h, h1, h3, h2⟩⟩
theorem Hier.jn_ap {L : Nat} {S : List Nat} (h : Hier L S) (hL : L ≤ 64) {q r s : Nat} (hr : r < L) (hs : s < L) : apT S q r s = !(jnS r s S).testBit q := by
  obtain ⟨hm, h1, h2, hmin⟩ := h.jn hL hr hs
  rw [Bool.eq_iff_iff, apT_iff]
  constructor
  · rintro ⟨x, hx, q1, q2, q3⟩
    cases e : (jnS r s S).testBit q with
    | false => rfl
    | true =>
      have := sub_bit4 (hmin x hx q2 q3) e
      rw [q1] at this; cases this
  · intro e
    exact ⟨_, hm, by simpa using e, h1, h2⟩
theorem Hier.excl {L : Nat} {S : List Nat} (h : Hier L S) {q r s : Nat} (h1 : apT S q r s = true) (h2 : apT S r s q = true) : False := by
  obtain ⟨x, hx, a1, a2, a3⟩ := apT_iff.1 h1
  obtain ⟨y, hy, b1, b2, b3⟩ := apT_iff.1 h2
  rcases h.nest hx hy a3 b2 with e | e
  · have := sub_bit4 e a2; rw [b1] at this; cases this
  · have := sub_bit4 e b3; rw [a1] at this; cases this
/-- Which of three is apart: the program's number. -/
def apN (S : List Nat) (q r s : Nat) : Int := if apT S q r s then 0 else if apT S r s q then 1 else if apT S s q r then 2 else -1
/-- The document's. -/
def stdL (i j k : Nat) : List Nat → Int
  | [] => 3
  | x :: l => if (!x.testBit i && x.testBit j) && x.testBit k then 0 else if (!x.testBit j && x.testBit k) && x.testBit i then 1 else if (!x.testBit k && x.testBit i) && x.testBit j then 2 else stdL i j k l
theorem std_of {i j k : Nat} : ∀ l : List Nat, (apT l i j k = true → apT l j k i = true → False) → (apT l j k i = true → apT l k i j = true → False) → (apT l k i j = true → apT l i j k = true → False) →
    stdL i j k l = if apT l i j k then 0 else if apT l j k i then 1 else if apT l k i j then 2 else 3 := by
  intro l
  induction l with
  | nil => intro _ _ _; simp [stdL, apT]
  | cons x l ih =>
    have e1 : ∀ a b c, apT (x :: l) a b c = (((!x.testBit a && x.testBit b) && x.testBit c) || apT l a b c) := fun a b c => by simp [apT]
    rw [e1, e1, e1]
    unfold stdL
    generalize ((!x.testBit i && x.testBit j) && x.testBit k) = b0 at *
    generalize ((!x.testBit j && x.testBit k) && x.testBit i) = b1 at *
    generalize ((!x.testBit k && x.testBit i) && x.testBit j) = b2 at *
    intro h1 h2 h3
    have ih := ih (fun a b => h1 (by rw [a]; simp) (by rw [b]; simp)) (fun a b => h2 (by rw [a]; simp) (by rw [b]; simp)) (fun a b => h3 (by rw [a]; simp) (by rw [b]; simp))
    rw [ih]
    generalize apT l i j k = c0 at *
    generalize apT l j k i = c1 at *
    generalize apT l k i j = c2 at *
    clear ih e1
    revert h1 h2 h3
    cases b0 <;> cases b1 <;> cases b2 <;> cases c0 <;> cases c1 <;> cases c2 <;> simp
theorem Hier.std {L : Nat} {S : List Nat} (h : Hier L S) (i j k : Nat) : stdL i j k S = if apT S i j k then 0 else if apT S j k i then 1 else if apT S k i j then 2 else 3 :=
  std_of S (fun a b => h.excl a b) (fun a b => h.excl a b) (fun a b => h.excl a b)
/-- Two families differ in three leaves. -/
def difT (A B : List Nat) (i j k : Nat) : Bool := !(decide (apT A i j k = apT B i j k) && decide (apT A j k i = apT B j k i) && decide (apT A k i j = apT B k i j))
theorem difT_ap {L M : Nat} {A B : List Nat} (hA : Hier L A) (hB : Hier M B) (q r s : Nat) : decide (apN A q r s = apN B q r s) = !difT A B s r q := by
  unfold apN difT
  rw [apT_comm A s r q, apT_comm B s r q, apT_comm A r q s, apT_comm B r q s, apT_comm A q s r, apT_comm B q s r]
  have a1 := fun a b => hA.excl (q := q) (r := r) (s := s) a b
  have a2 := fun a b => hA.excl (q := r) (r := s) (s := q) a b
  have a3 := fun a b => hA.excl (q := s) (r := q) (s := r) a b
  have b1 := fun a b => hB.excl (q := q) (r := r) (s := s) a b
  have b2 := fun a b => hB.excl (q := r) (r := s) (s := q) a b
  have b3 := fun a b => hB.excl (q := s) (r := q) (s := r) a b
  revert a1 a2 a3 b1 b2 b3
  generalize apT A q r s = x0
  generalize apT A r s q = x1
  generalize apT A s q r = x2
  generalize apT B q r s = y0
  generalize apT B r s q = y1
  generalize apT B s q r = y2
  cases x0 <;> cases x1 <;> cases x2 <;> cases y0 <;> cases y1 <;> cases y2 <;> simp
theorem difT_std {L M : Nat} {A B : List Nat} (hA : Hier L A) (hB : Hier M B) (i j k : Nat) : decide (stdL i j k A = stdL i j k B) = !difT A B i j k := by
  rw [hA.std, hB.std]
  unfold difT
  have a1 := fun a b => hA.excl (q := i) (r := j) (s := k) a b
  have a2 := fun a b => hA.excl (q := j) (r := k) (s := i) a b
  have a3 := fun a b => hA.excl (q := k) (r := i) (s := j) a b
  have b1 := fun a b => hB.excl (q := i) (r := j) (s := k) a b
  have b2 := fun a b => hB.excl (q := j) (r := k) (s := i) a b
  have b3 := fun a b => hB.excl (q := k) (r := i) (s := j) a b
  revert a1 a2 a3 b1 b2 b3
  generalize apT A i j k = x0
  generalize apT A j k i = x1
  generalize apT A k i j = x2
  generalize apT B i j k = y0
  generalize apT B j k i = y1
  generalize apT B k i j = y2
  cases x0 <;> cases x1 <;> cases x2 <;> cases y0 <;> cases y1 <;> cases y2 <;> simp
theorem difT_comm (A B : List Nat) (i j k : Nat) : difT A B i j k = difT B A i j k := by
  unfold difT
  rw [decide_eq_decide.2 (eq_comm (a := apT A i j k)), decide_eq_decide.2 (eq_comm (a := apT A j k i)), decide_eq_decide.2 (eq_comm (a := apT A k i j))]
/-- Sums. -/
def smN (f : Nat → Nat) : Nat → Nat
  | 0 => 0
  | n + 1 => smN f n + f n
theorem smN_congr {f g : Nat → Nat} : ∀ n, (∀ i, i < n → f i = g i) → smN f n = smN g n := by
  intro n
  induction n with
  | zero => intro _; rfl
  | succ n ih => intro h; unfold smN; rw [ih fun i hi => h i (by omega), h n (by omega)]
theorem smN_add (f g : Nat → Nat) : ∀ n, smN (fun i => f i + g i) n = smN f n + smN g n := by
  intro n
  induction n with
  | zero => rfl
  | succ n ih => unfold smN; rw [ih]; omega
theorem smN_zero : ∀ n, smN (fun _ => 0) n = 0 := by
  intro n
  induction n with
  | zero => rfl
  | succ n ih => unfold smN; rw [ih]
theorem smN_comm (f : Nat → Nat → Nat) (m : Nat) : ∀ n, smN (fun i => smN (fun j => f i j) m) n = smN (fun j => smN (fun i => f i j) n) m := by
  intro n
  induction n with
  | zero => exact (smN_zero m).symm
  | succ n ih =>
    show smN (fun i => smN (fun j => f i j) m) n + smN (fun j => f n j) m = smN (fun j => smN (fun i => f i j) n + f n j) m
    rw [ih, ← smN_add]
theorem smN_cut (f : Nat → Nat) {q : Nat} : ∀ n, q ≤ n → smN f q = smN (fun i => if i < q then f i else 0) n := by
  intro n
  induction n with
  | zero => intro h; obtain rfl : q = 0 := by omega
            rfl
  | succ n ih =>
    intro h
    by_cases e : q = n + 1
    · subst e
      exact smN_congr _ fun i hi => by rw [if_pos hi]
    · have ih := ih (by omega)
      show smN f q = smN (fun i => if i < q then f i else 0) n + (if n < q then f n else 0)
      rw [if_neg (by omega), ← ih]; rfl
theorem smN_eq_zero {f : Nat → Nat} : ∀ n, smN f n = 0 ↔ ∀ i, i < n → f i = 0 := by
  intro n
  induction n with
  | zero => exact ⟨fun _ i hi => by omega, fun _ => rfl⟩
  | succ n ih =>
    unfold smN
    constructor
    · intro h i hi
      by_cases e : i = n
      · subst e; omega
      · exact ih.1 (by omega) i (by omega)
    · intro h
      rw [ih.2 fun i hi => h i (by omega), h n (by omega)]
theorem smN_le {f : Nat → Nat} {b : Nat} (h : ∀ i, f i ≤ b) : ∀ n, smN f n ≤ n * b := by
  intro n
  induction n with
  | zero => exact Nat.zero_le _
  | succ n ih => unfold smN; have := h n; rw [Nat.succ_mul]; omega
/-- How many threes differ. -/
def tri1 (A B : List Nat) (r q s : Nat) : Nat := if difT A B s r q then 1 else 0
def triN (A B : List Nat) (L : Nat) : Nat := smN (fun q => smN (fun r => smN (tri1 A B r q) r) q) L
/-- The document's count. -/
def triD (A B : List Nat) (L : Nat) : Nat := smN (fun i => smN (fun j => if i < j then smN (fun k => if j < k then (if difT A B i j k then 1 else 0) else 0) L else 0) L) L
theorem smN_if (p : Prop) [Decidable p] (f : Nat → Nat) (n : Nat) : (if p then smN f n else 0) = smN (fun i => if p then f i else 0) n := by
  by_cases h : p
  · rw [if_pos h]; exact smN_congr _ fun i _ => by rw [if_pos h]
  · rw [if_neg h]
    exact ((smN_congr n (f := fun i => if p then f i else 0) (g := fun _ => 0) fun i _ => if_neg h).trans (smN_zero n)).symm
theorem tri_eq (A B : List Nat) (L : Nat) : triN A B L = triD A B L := by
  have e1 : triN A B L = smN (fun q => smN (fun r => smN (fun s => if r < q then (if s < r then (if difT A B s r q then 1 else 0) else 0) else 0) L) L) L := by
    refine smN_congr _ fun q hq => ?_
    rw [smN_cut _ L (Nat.le_of_lt hq)]
    refine smN_congr _ fun r hr => ?_
    rw [smN_cut _ L (Nat.le_of_lt hr), smN_if]
    rfl
  have e2 : triD A B L = smN (fun i => smN (fun j => smN (fun k => if j < k then (if i < j then (if difT A B i j k then 1 else 0) else 0) else 0) L) L) L := by
    refine smN_congr _ fun i _ => smN_congr _ fun j _ => ?_
    rw [smN_if]
    refine smN_congr _ fun k _ => ?_
    by_cases h1 : i < j <;> by_cases h2 : j < k <;> simp [h1, h2]
  rw [e1, e2]
  rw [smN_comm]
  -- r outermost: sum over r, q, s
  have e3 : smN (fun i => smN (fun j => smN (fun k => if j < k then (if i < j then (if difT A B i j k then 1 else 0) else 0) else 0) L) L) L = smN (fun j => smN (fun k => smN (fun i => if j < k then (if i < j then (if difT A B i j k then 1 else 0) else 0) else 0) L) L) L := by
    rw [smN_comm]
    exact smN_congr _ fun j _ => smN_comm _ _ _
  rw [e3]
theorem tri_comm (A B : List Nat) (L : Nat) : triN A B L = triN B A L := by
  refine smN_congr _ fun q _ => smN_congr _ fun r _ => smN_congr _ fun s _ => ?_
  unfold tri1
  rw [difT_comm]
theorem max_ex {p : Nat → Prop} {f : Nat → Nat} : ∀ b, (∀ k, p k → f k ≤ b) → (∃ k, p k) → ∃ k0, p k0 ∧ ∀ k, p k → f k ≤ f k0 := by
  intro b
  induction b with
  | zero => rintro h ⟨k, hk⟩; exact ⟨k, hk, fun j hj => by have := h j hj; omega⟩
  | succ b ih =>
    intro h hex
    by_cases e : ∃ k, p k ∧ f k = b + 1
    · obtain ⟨k, hk, e⟩ := e
      exact ⟨k, hk, fun j hj => by rw [e]; exact h j hj⟩
    · exact ih (fun k hk => by
        have := h k hk
        by_cases q : f k = b + 1
        · exact absurd ⟨k, hk, q⟩ e
        · omega) hex
/-- Families alike in all threes are equal. -/
theorem tri_sub {L : Nat} {A B : List Nat} (hA : Hier L A) (hB : Hier L B) (hL : L ≤ 64) (h : ∀ i j k, i < L → j < L → k < L → apT A i j k = apT B i j k) {x : Nat} (hx : x ∈ A) : x ∈ B := by
  obtain ⟨i, hi⟩ := bit_of_ne4 (hA.ne x hx)
  have hiL := bit_lt4 (hA.lt x hx) hi
  obtain ⟨k0, hk0, hmax⟩ := max_ex (p := fun k => x.testBit k = true) (f := fun k => cntB (jnS i k B) 64) 64 (fun k _ => cntB_le _ _) ⟨i, hi⟩
  have hkL := bit_lt4 (hA.lt x hx) hk0
  obtain ⟨m1, m2, m3, m4⟩ := hB.jn hL hiL hkL
  have hsub : ∀ k, x.testBit k = true → (jnS i k0 B).testBit k = true := fun k hk => by
    have hk2 := bit_lt4 (hA.lt x hx) hk
    obtain ⟨n1, n2, n3, n4⟩ := hB.jn hL hiL hk2
    rcases hB.nest n1 m1 n2 m2 with e | e
    · exact sub_bit4 e n3
    · have := sub_eq4 (hB.b64 hL m1) (hB.b64 hL n1) e (hmax k hk)
      rw [this]; exact n3
  have hsup : ∀ z, (jnS i k0 B).testBit z = true → x.testBit z = true := fun z hz => by
    cases e : x.testBit z with
    | true => rfl
    | false =>
      have hzL := bit_lt4 (hB.lt _ m1) hz
      have h1 : apT A z i k0 = true := apT_iff.2 ⟨x, hx, e, hi, hk0⟩
      rw [h z i k0 hzL hiL hkL, hB.jn_ap hL hiL hkL, hz] at h1
      cases h1
  have : x = jnS i k0 B := by
    apply Nat.eq_of_testBit_eq
    intro z
    rw [Bool.eq_iff_iff]
    exact ⟨hsub z, hsup z⟩
  rw [this]; exact m1
theorem apT_self {L : Nat} {S : List Nat} (h : Hier L S) {q r : Nat} (hr : r < L) : apT S q r r = decide (q ≠ r) := by
  rw [Bool.eq_iff_iff, apT_iff, decide_eq_true_eq]
  constructor
  · rintro ⟨x, _, h1, h2, _⟩ e
    rw [e, h2] at h1; cases h1
  · intro hne
    exact ⟨2 ^ r, h.one r hr, by rw [Nat.testBit_two_pow]; simp; exact fun e => hne e.symm, by simp, by simp⟩
theorem apT_same (S : List Nat) (q s : Nat) : apT S q q s = false := by
  cases e : apT S q q s with
  | false => rfl
  | true =>
    obtain ⟨x, _, h1, h2, _⟩ := apT_iff.1 e
    rw [h1] at h2; cases h2
theorem tri_zero {L : Nat} {A B : List Nat} (hA : Hier L A) (hB : Hier L B) (hL : L ≤ 64) : triN A B L = 0 ↔ A = B := by
  constructor
  · intro h
    have h1 : ∀ q r s, q < L → r < q → s < r → difT A B s r q = false := fun q r s hq hr hs => by
      have := (smN_eq_zero _).1 ((smN_eq_zero _).1 ((smN_eq_zero _).1 h q hq) r hr) s hs
      unfold tri1 at this
      cases e : difT A B s r q with
      | false => rfl
      | true => rw [e] at this; simp at this
    have h2 : ∀ q r s, q < L → r < q → s < r → apT A s r q = apT B s r q ∧ apT A r q s = apT B r q s ∧ apT A q s r = apT B q s r := fun q r s hq hr hs => by
      have := h1 q r s hq hr hs
      unfold difT at this
      simp at this
      exact ⟨this.1.1, this.1.2, this.2⟩
    have h3 : ∀ i j k, i < L → j < L → k < L → apT A i j k = apT B i j k := fun i j k hi hj hk => by
      by_cases e1 : i = j
      · subst e1; rw [apT_same, apT_same]
      by_cases e2 : i = k
      · subst e2; rw [apT_comm, apT_same, apT_comm, apT_same]
      by_cases e3 : j = k
      · subst e3; rw [apT_self hA hj, apT_self hB hj]
      rcases Nat.lt_or_ge i j with q1 | q1 <;> rcases Nat.lt_or_ge j k with q2 | q2 <;> rcases Nat.lt_or_ge i k with q3 | q3
      · exact (h2 k j i hk q2 q1).1
      · omega
      · rw [apT_comm A, apT_comm B]; exact (h2 j k i hj (by omega) q3).1
      · rw [apT_comm A, apT_comm B]; rw [apT_comm A i k j, apT_comm B i k j]; exact (h2 j i k hj q1 (by omega)).2.1
      · rw [apT_comm A, apT_comm B]; exact (h2 k i j hk q3 (by omega)).2.1
      · exact (h2 i k j hi (by omega) q2).2.2
      · omega
      · rw [apT_comm A, apT_comm B]; exact (h2 i j k hi (by omega) (by omega)).2.2
    exact sd_ext hA.pw hB.pw fun x => ⟨fun hx => tri_sub hA hB hL h3 hx, fun hx => tri_sub hB hA hL (fun i j k a b c => (h3 i j k a b c).symm) hx⟩
  · rintro rfl
    rw [triN, smN_eq_zero]
    intro q _
    rw [smN_eq_zero]
    intro r _
    rw [smN_eq_zero]
    intro s _
    unfold tri1 difT
    simp
/-- How many sets just one of two lists has. -/
def dstN (A B : List Nat) : Nat := (A.filter fun x => !decide (x ∈ B)).length + (B.filter fun x => !decide (x ∈ A)).length
theorem dst_comm (A B : List Nat) : dstN A B = dstN B A := by unfold dstN; omega
theorem nodup_sub {l : List Nat} : ∀ {m : List Nat}, l.Nodup → (∀ x, x ∈ l → x ∈ m) → l.length ≤ m.length := by
  induction l with
  | nil => intro m _ _; exact Nat.zero_le _
  | cons a l ih =>
    intro m hl h
    rw [List.nodup_cons] at hl
    have h1 := ih (m := m.erase a) hl.2 fun x hx => (List.mem_erase_of_ne (fun e => hl.1 (by rw [← e]; exact hx))).2 (h x (by simp [hx]))
    have h2 := List.length_erase_of_mem (h a (by simp))
    have h3 : 0 < m.length := List.length_pos_of_mem (h a (by simp))
    rw [List.length_cons]; omega
theorem nodup_filter {l : List Nat} (p : Nat → Bool) (h : l.Nodup) : (l.filter p).Nodup := List.Pairwise.filter _ h
theorem dst_half {A B C : List Nat} (hA : A.Nodup) : (A.filter fun x => !decide (x ∈ B)).length ≤ (A.filter fun x => !decide (x ∈ C)).length + (C.filter fun x => !decide (x ∈ B)).length := by
  rw [← List.length_append]
  refine nodup_sub (nodup_filter _ hA) fun x hx => ?_
  rw [List.mem_filter] at hx
  rw [List.mem_append, List.mem_filter, List.mem_filter]
  by_cases h : x ∈ C
  · exact .inr ⟨h, hx.2⟩
  · exact .inl ⟨hx.1, by simpa using h⟩
theorem dst_tri {A B C : List Nat} (hA : A.Nodup) (hB : B.Nodup) : dstN A B ≤ dstN A C + dstN C B := by
  have h1 := dst_half (B := B) (C := C) hA
  have h2 := dst_half (B := A) (C := C) hB
  unfold dstN
  omega
theorem dst_zero {A B : List Nat} (hA : A.Pairwise (· < ·)) (hB : B.Pairwise (· < ·)) : dstN A B = 0 ↔ A = B := by
  unfold dstN
  constructor
  · intro h
    have h1 := List.length_eq_zero_iff.1 (show (A.filter fun x => !decide (x ∈ B)).length = 0 by omega)
    have h2 := List.length_eq_zero_iff.1 (show (B.filter fun x => !decide (x ∈ A)).length = 0 by omega)
    rw [List.filter_eq_nil_iff] at h1 h2
    exact sd_ext hA hB fun x => ⟨fun hx => by simpa using h1 x hx, fun hx => by simpa using h2 x hx⟩
  · rintro rfl
    have : (A.filter fun x => !decide (x ∈ A)) = [] := by rw [List.filter_eq_nil_iff]; intro x hx; simp [hx]
    rw [this]; rfl
/-- The program's count: what both have is taken off twice. -/
theorem dst_prog {A B : List Nat} (hA : A.Nodup) (hB : B.Nodup) : (A.length : Int) + B.length - 2 * ((A.filter fun x => decide (x ∈ B)).length : Nat) = dstN A B := by
  have h1 : (A.filter fun x => decide (x ∈ B)).length + (A.filter fun x => !decide (x ∈ B)).length = A.length := by
    induction A with
    | nil => rfl
    | cons a A ih =>
      have := ih (List.nodup_cons.1 hA).2
      by_cases q : a ∈ B <;> simp [q] <;> omega
  have h2 : (B.filter fun x => decide (x ∈ A)).length + (B.filter fun x => !decide (x ∈ A)).length = B.length := by
    clear h1 hA
    induction B with
    | nil => rfl
    | cons a B ih =>
      have := ih (List.nodup_cons.1 hB).2
      by_cases q : a ∈ A <;> simp [q] <;> omega
  have h3 : (A.filter fun x => decide (x ∈ B)).length = (B.filter fun x => decide (x ∈ A)).length :=
    Nat.le_antisymm (nodup_sub (nodup_filter _ hA) fun x hx => by rw [List.mem_filter] at hx ⊢; exact ⟨by simpa using hx.2, by simpa using hx.1⟩)
      (nodup_sub (nodup_filter _ hB) fun x hx => by rw [List.mem_filter] at hx ⊢; exact ⟨by simpa using hx.2, by simpa using hx.1⟩)
  unfold dstN
  omega
end Go.Proofs.YtfgkjofdgohacaaGreatDoor
namespace Go.Proofs.YtfgkjofdgohacaaGreatDoor
open Go Go.RowKit Go.Shelf Go.Maps
attribute [local go_sem] Oper.semAt_some
/-- What the walk of a row's iterator asks of a round. -/
def KpV (X : Nat) (A : Option Addr) (W W' : World) : Prop := KpC (BsV X A) W W' ∧ W.heap.size ≤ W'.heap.size
theorem KpV.refl (X : Nat) (A : Option Addr) (W : World) : KpV X A W W := ⟨fun _ _ _ _ _ h => h, Nat.le_refl _⟩
theorem kpV_of {X : Nat} {A : Option Addr} {W W' : World} (hz : W.heap.size ≤ W'.heap.size) (h : ∀ B, BsV X A B → B < W.heap.size → W'.heap[B]? = W.heap[B]?) : KpV X A W W' :=
  ⟨fun B _ _ _ hB hx => (h B hB (Array.getElem?_eq_some_iff.1 hx).1).trans hx, hz⟩
theorem bsV_lt {w : World} {X base n c : Nat} {A : Option Addr} {xs : List Value} {cs : Array Value} {ty : TypeId} (hX : Blk w X cs ty) (hR : w.ownsRow base 41 1 (.slice A n c) n xs) {B : Nat} (h : BsV X A B) : B < w.heap.size := by
  rcases h with rfl | ⟨o, p, rfl⟩
  · exact hX.lt
  · exact (hR.lt B rfl).2
theorem bsV_ge {w : World} {X base n c b0 : Nat} {A : Option Addr} {xs : List Value} (hX : b0 ≤ X) (hR : w.ownsRow base 41 1 (.slice A n c) n xs) (hb : b0 ≤ base) {B : Nat} (h : BsV X A B) : b0 ≤ B := by
  rcases h with rfl | ⟨o, p, rfl⟩
  · exact hX
  · exact Nat.le_trans hb (hR.lt B rfl).1
/-- A range over the iterator of a row of numbers; rounds end normally. -/
theorem wp_vals {g : Operand} {ps : Array Tmp} {assign body : Code} {Q : Exit → Act → World → Prop} {a : Act} {w : World} {X m c base : Nat} {A : Option Addr} {l : List Nat}
    (hg : a.eval g = .func (.func 119) #[] #[.pointer (some ⟨X, 0, none⟩)]) (hX : Blk w X #[.slice A m c] 37) (hR : w.ownsRow base 41 1 (.slice A m c) m (fl encV l)) (hm : l.length = m) (hm2 : m ≤ 1048576) (hlt : ∀ x ∈ l, x < 18446744073709551616) (hps : ps.size = 1)
    (I : List U64 → World → Prop) (hI : OwnFrom w.heap.size I) (h0 : I [] w) (a₁ : U64 → Act)
    (hassign : ∀ (r : Nat) (x : U64) (W : World) (K : Act → World → Prop), K (a₁ x) W → assign.wpIn (Fence.wide.inRound r) 8 Tryz.prog (Exit.then K (fun _ _ _ => False)) { tmps := (ps.zip #[.int .u64 (x.val : Int)]).foldl (fun t (p, v) => t.setIfInBounds p v) a.tmps, defers := [] } W)
    (hbody : ∀ (r : Nat) (pre : List U64) (x : U64) (W : World), I pre W → pre.length < m → body.wpIn (Fence.wide.inRound r) 8 Tryz.prog (ownPostG w.heap.size (KpV X A) I (fun _ _ _ => False) (pre ++ [x]) W) (a₁ x) W)
    (hdone : ∀ (D : Nat) (xs : List U64) (W : World), w.heap.size ≤ D → xs.map Fin.val = l → I xs W → W.heap[D]? = some (.deferred (some [])) → Q .normal { a with defers := { target := .collected D, args := #[] } :: a.defers } W) :
    (Code.rangeFunc g ps assign body).wp Tryz.prog Q a w := by
  refine (wpIn_wide (n := 10)).1 ?_
  refine wpIn_rangeFunc_ownG (α := U64) rfl (by omega) (gf := 119) (lb := #[.pointer (some ⟨X, 0, none⟩)]) hg trivial (enters_of Tryz.func119 (by kernel_rfl) rfl)
    (vals64_stops 9 X m c A l w (fun i hi => hlt _ (by
      have h : vA l i = l[i]'(by rw [hm]; exact hi) := by simp [vA, hm, hi]
      rw [h]; exact List.getElem_mem _)) (by omega) hm (by omega) hX (rd_of_owns hR)) (fun h k => ⟨h.1.trans k.1, Nat.le_trans h.2 k.2⟩)
    (fun W l o o' _ hl hc _ => ⟨kpC_put W l o o' hl hc, by simp [World.putObj]⟩) (Below.refl _ _) (fun _ => hps.symm) I (fun _ _ _ => False) hI (fun _ _ _ _ _ hs _ _ => hs) h0 a₁ hassign hbody hdone ?_
  rintro D c pre W _ _ h
  exact h.elim
/-- The distance that Dist returns. -/
def dstV (s t : List Nd) : Int := if twoE s t = 0 then (dstN (clsL s) (clsL t) : Nat) else 0
theorem dstV_bad {s t : List Nd} (h : twoE s t ≠ 0) : dstV s t = 0 := if_neg h
theorem dstV_ok {s t : List Nd} (h : twoE s t = 0) : dstV s t = (dstN (clsL s) (clsL t) : Nat) := if_pos h
/-- How many of some numbers are in a set. -/
def inC (B : List Nat) (pre : List U64) : Nat := ((pre.map Fin.val).filter fun x => decide (x ∈ B)).length
theorem inC_snoc (B : List Nat) (pre : List U64) (x : U64) : inC B (pre ++ [x]) = inC B pre + if x.val ∈ B then 1 else 0 := by
  unfold inC
  rw [List.map_append, List.filter_append, List.length_append]
  congr 1
  by_cases h : x.val ∈ B
  · simp [h]
  · simp [h]
theorem inC_le (B : List Nat) (pre : List U64) : inC B pre ≤ pre.length := by
  unfold inC
  exact Nat.le_trans (List.length_filter_le _ _) (by simp)
theorem grownBy_own {w6 W W' : World} {R : Nat} {row : Option Nat} (h : w6.grownBy W (some R)) (hg : W.grownBy W' row) (hr : ∀ r, row = some r → w6.heap.size ≤ r) : w6.grownBy W' (some R) :=
  ⟨hg.os.trans h.os, hg.tape.trans h.tape, hg.output.trans h.output, Nat.le_trans h.size hg.size, fun i hi hne => (hg.block i (Nat.lt_of_lt_of_le hi h.size) (fun e => by have := hr i e.symm; omega)).trans (h.block i hi hne)⟩
theorem cls_pw' (t : List Nd) : (clsL t).Nodup := (cls_pw t).imp fun h => Nat.ne_of_lt h
theorem gb_refl (w : World) (r : Option Nat) : w.grownBy w r := ⟨rfl, rfl, rfl, Nat.le_refl _, fun _ _ _ => rfl⟩
theorem gb_alloc {w W : World} {r : Option Nat} (h : w.grownBy W r) (o : Obj) : w.grownBy (W.alloc o) r :=
  ⟨h.os, h.tape, h.output, by have := h.size; simp; omega, fun i hi hne => (Below.heap_alloc W o i (Nat.lt_of_lt_of_le hi h.size)).trans (h.block i hi hne)⟩
theorem gb_set {w W : World} {R : Nat} (h : w.grownBy W (some R)) (o : Nat) (v : Value) : w.grownBy (W.setCell ⟨R, o, none⟩ v) (some R) :=
  ⟨h.os, h.tape, h.output, by simp [World.setCell]; exact h.size, fun i hi hne => (Below.heap_setCell _ _ _ i (fun e => hne (by rw [e]))).trans (h.block i hi hne)⟩
theorem gb_below {w W W' : World} {r : Option Nat} (h : w.grownBy W r) (hb : Below W.heap.size W W') : w.grownBy W' r :=
  ⟨hb.os.trans h.os, hb.tape.trans h.tape, hb.output.trans h.output, Nat.le_trans h.size hb.size, fun i hi hne => (hb.block i (Nat.lt_of_lt_of_le hi h.size)).trans (h.block i hi hne)⟩
theorem gb_trans {w W W' : World} {r : Option Nat} (h : w.grownBy W r) (k : W.grownBy W' r) : w.grownBy W' r :=
  ⟨k.os.trans h.os, k.tape.trans h.tape, k.output.trans h.output, Nat.le_trans h.size k.size, fun i hi hne => (k.block i (Nat.lt_of_lt_of_le hi h.size) hne).trans (h.block i hi hne)⟩
set_option maxRecDepth 100000 in
set_option maxHeartbeats 4000000 in
theorem dist_any (a b : Option Addr) (n c m d : Nat) (s t : List Nd) (w : World) (hn : s.length = n) (hm : t.length = m) (hN : n ≤ 1152921504606846976) (hM : m ≤ 1152921504606846976) (hA : Rd w a (fl encNd s)) (hB : Rd w b (fl encNd t)) (hS : ∀ v, v < n → (nS s v).size ≤ 9223372036854775807) (hT : ∀ v, v < m → (nS t v).size ≤ 9223372036854775807) :
    Calls Tryz.prog 29 #[.slice a n c, .slice b m d] w fun e w' => e = .returned (.tuple #[.int .i64 (dstV s t), .int .i64 (twoE s t)]) ∧ Below w.heap.size w w' := by
  have HC := Lib.hid (both_any a b n c m d s t w hn hm hN hM hA hB hS hT)
  clear hn hm hN hM hA hB hS hT
  refine (callsIn_wide (n := 10)).1 ?_
  refine callsIn_of_wp_marks Tryz.func29 rfl trivial ?_ rfl
  simp only [Tryz.ntmps29, List.size_toArray, List.length_cons, List.length_nil, Nat.reduceAdd, Nat.reduceSub, Array.replicate_succ, Array.replicate_zero, List.push_toArray, List.append_toArray, List.nil_append, List.cons_append]
  refine wpIn_wide.2 ?_
  by_cases hE : twoE s t = 0
  · have HV := Lib.hid (dstV_ok hE)
    have HE := Lib.hid hE
    clear hE
    go_upto_region 4 with first | fail | (go_at_call 45; refine HC.out.mono ?_; rintro e w2 ⟨hb2, ⟨h, _⟩ | ⟨hk1, hk2, hnm, he0, ⟨⟨xa, xn, xc⟩, ⟨ya, yn, yc⟩, xm⟩, ⟨⟨za, zn, zc⟩, ⟨va, vn, vc⟩, zm⟩, rfl, hx, hy⟩⟩; exact absurd HE.out h; have HB2 := Lib.hid hb2; have HX := Lib.hid hx; have HY := Lib.hid hy; rw [show (encSh ((xa, xn, xc), (ya, yn, yc), xm)).toArray = #[.slice xa xn xc, .slice ya yn yc, .map (some xm)] from rfl, show (encSh ((za, zn, zc), (va, vn, vc), zm)).toArray = #[.slice za zn zc, .slice va vn vc, .map (some zm)] from rfl]; rw [HE.out]; clear hb2 hx hy hk1 hk2 hnm he0)
    obtain ⟨w4, hw4⟩ : ∃ x, x = ((w2.alloc (.cells #[.slice xa xn xc, .slice ya yn yc, .map (some xm)] 69)).alloc (.cells #[.slice za zn zc, .slice va vn vc, .map (some zm)] 69)) := ⟨_, rfl⟩
    have HB4 : Hid (Below w2.heap.size w2 w4) := by
      show Below _ _ _
      rw [hw4]; exact bl_alloc (bl_alloc (Below.refl _ _) _) _
    have HX4 : Hid (Blk w4 w2.heap.size #[.slice xa xn xc, .slice ya yn yc, .map (some xm)] 69) := by
      show Blk _ _ _ _
      rw [hw4]; exact (Blk.new w2 _ _).alloc _
    have HY4 : Hid (Blk w4 (w2.heap.size + 1) #[.slice za zn zc, .slice va vn vc, .map (some zm)] 69) := by
      show Blk _ _ _ _
      rw [hw4]; exact Blk.new2 w2 _ _ _
    rw [← hw4]
    clear hw4
    have HM1 := Lib.hid (HX.out.set.bl HB4.out)
    have HM2 := Lib.hid (HY.out.set.bl HB4.out)
    have l1 := HM1.out.len 3
    have l2 := HM2.out.len 3
    have z1 : (setU s).length ≤ 100 := HM1.out.le
    have z2 : (setU t).length ≤ 100 := HM2.out.le
    obtain ⟨n1, hn1⟩ : ∃ x, x = (setU s).length := ⟨_, rfl⟩
    obtain ⟨n2, hn2⟩ : ∃ x, x = (setU t).length := ⟨_, rfl⟩
    dsimp only at l1 l2
    rw [← hn1] at l1 z1
    rw [← hn2] at l2 z2
    have HN1 := Lib.hid hn1
    have HN2 := Lib.hid hn2
    clear hn1 hn2
    have x2 : w4.cell? ⟨w2.heap.size, 2, none⟩ = some (.map (some xm)) := HX4.out.cell 2
    have y2 : w4.cell? ⟨w2.heap.size + 1, 2, none⟩ = some (.map (some zm)) := HY4.out.cell 2
    go_upto_region 5 with fail
    obtain ⟨R, hR⟩ : ∃ x, x = w4.heap.size := ⟨_, rfl⟩
    obtain ⟨P1, hP1⟩ : ∃ x, x = w2.heap.size := ⟨_, rfl⟩
    have HB5 := Lib.hid (bl_alloc (Below.refl _ w4) (.cells #[.int .i64 ((n1 : Int) + n2)] 3))
    have HR5 := Lib.hid (Blk.new w4 #[.int .i64 ((n1 : Int) + n2)] 3)
    have HZ5 : Hid ((w4.alloc (.cells #[.int .i64 ((n1 : Int) + n2)] 3)).heap.size = R + 1) := by show _ = _; rw [World.size_alloc, hR]
    have HY5 := Lib.hid (HY4.out.below HB5.out)
    have HX5 := Lib.hid (HX4.out.below HB5.out)
    have HP1L : Hid (P1 + 1 < R) := by
      show _ < _
      rw [hP1, hR]; exact HY4.out.lt
    generalize w4.alloc (.cells #[.int .i64 ((n1 : Int) + n2)] 3) = w5 at *
    rw [← hR] at HR5 ⊢
    rw [← hP1] at HX5 HY5 ⊢
    have HM5 := Lib.hid (HM1.out.bl HB5.out)
    have HM25 := Lib.hid (HM2.out.bl HB5.out)
    have HAL := Lib.hid (allU_any xm 100 (setU s) w5 HM5.out (by have := HN1.out; omega))
    have HBW5 := Lib.hid (bl_trans (bl_trans HB2.out HB4.out) HB5.out)
    have HRE := Lib.hid hR
    have hx2 : w5.cell? ⟨P1, 2, none⟩ = some (.map (some xm)) := HX5.out.cell 2
    clear hR hP1 l1 l2 x2 y2 HM1 HM2 HX4 HY4 HX HY HX5
    go_wp2_with (go_at_call 65; refine HAL.out.mono ?_; rintro e w6 ⟨X, a6, c6, rfl, hX6, hBX, hO6, hb6⟩; have HX6 := Lib.hid hX6; have HBX := Lib.hid hBX; have HO6 := Lib.hid hO6; have HB6 := Lib.hid hb6; clear hX6 hBX hO6 hb6 hx2)
    have HY6 := Lib.hid (HY5.out.below HB6.out)
    have HR6 := Lib.hid (HR5.out.below HB6.out)
    have HM6 := Lib.hid (HM25.out.bl HB6.out)
    refine wp_vals (a₁ := ?a1) rfl HBX.out HO6.out (sdU_len HM5.out.nd) (by have := HN1.out; omega) (fun x hx => HM5.out.lt x ((sdU_mem x _).1 hx)) rfl (fun pre W => Blk W R #[.int .i64 ((n1 : Int) + n2 - 2 * (inC (setU t) pre : Nat))] 3 ∧ w6.grownBy W (some R)) (fun pre W W' row h hg hr => ⟨h.1.grown hg (fun e => by have h1 := hr R e.symm; have h2 := HR6.out.lt; omega), grownBy_own h.2 hg fun r e => (hr r e).1⟩) ⟨by have h := HR6.out; rwa [show (n1 : Int) + n2 - 2 * (inC (setU t) [] : Nat) = n1 + n2 by simp [inC]], rfl, rfl, rfl, Nat.le_refl _, fun _ _ _ => rfl⟩ ?assign ?body ?done
    case assign =>
      intro r x W K hK
      gi_wp2
      exact hK
    case body =>
      rintro r pre ⟨x, hx⟩ W ⟨h1, h2⟩ hlen
      have HIN := Lib.hid (inC_snoc (setU t) pre ⟨x, hx⟩)
      have hq : inC (setU t) pre ≤ 100 := by have h3 := inC_le (setU t) pre; have h4 := HN1.out; omega
      generalize inC (setU t) pre = q at *
      have hRX : ∀ B, BsV X a6 B → R + 1 ≤ B := fun B h => by
        have h3 := HZ5.out
        rw [← h3]
        exact bsV_ge HX6.out HO6.out (Nat.le_refl _) h
      have HRX := Lib.hid hRX
      have HMW := Lib.hid (HM6.out.kept h2 (fun e => by
        obtain ⟨es, cl, hbk⟩ := HM6.out.blk
        have h3 := HR6.out
        unfold Blk at h3
        rw [Option.some.inj e, h3] at hbk; cases hbk))
      have HYW := Lib.hid (HY6.out.grown h2 (fun e => by have h3 := HP1L.out; have := Option.some.inj e; omega))
      have hy2 : W.cell? ⟨P1 + 1, 2, none⟩ = some (.map (some zm)) := HYW.out.cell 2
      have H1 := Lib.hid h1
      have H2 := Lib.hid h2
      have HHS := Lib.hid (hasU_any zm 100 x (setU t) W HMW.out hx)
      have HBA := Lib.hid (h1.alloc (.cells #[] 128))
      have hc0 : (W.alloc (.cells #[] 128)).cell? ⟨R, 0, none⟩ = some (.int .i64 ((n1 : Int) + n2 - 2 * (q : Nat))) := HBA.out.cell 0
      have hf0 := HBA.out.free 0
      have hRs : R < W.heap.size := h1.lt
      have HKO := Lib.hid (KeepsOthers.alloc W (.cells #[] 128))
      have HGA : Hid (w6.grownBy (W.alloc (.cells #[] 128)) (some R)) := gb_alloc h2 _
      dsimp only
      clear h1 h2 hRX hlen
      by_cases hm : x ∈ setU t
      · rw [decide_eq_true hm] at HHS
        rw [if_pos (show (⟨x, hx⟩ : U64).val ∈ setU t from hm)] at HIN
        gi_wp2_with (refine ⟨trivial, ?_⟩; gi_at_call 55; refine (CallsIn.inRound r (callsIn_wide.2 HHS.out)).mono ?_; rintro e w' ⟨rfl, rfl⟩)
        have HRR := Lib.hid hRs
        refine ⟨((KeepsOthers.setCell _ _ _).trans (KeepsOthers.alloc _ _)).from _, kpV_of (by simp [World.setCell]) (fun B hB hlt => ?_), ?_, gb_alloc (gb_set H2.out _ _) _⟩
        · refine (Below.heap_alloc _ _ B (by simpa [World.setCell] using hlt)).trans (Below.heap_setCell _ _ _ B fun e => ?_)
          have h3 := HRX.out B hB
          have e2 : B = R := e
          omega
        · have h3 := (H1.out.set 0 (.int .i64 ((n1 : Int) + n2 - 2 * (q : Nat) - 2))).alloc (.cells #[] 128)
          show Blk _ _ _ _
          rw [HIN.out, show (n1 : Int) + n2 - 2 * ((q + 1 : Nat) : Int) = n1 + n2 - 2 * (q : Nat) - 2 by omega]
          exact h3
      · rw [decide_eq_false hm] at HHS
        rw [if_neg (show ¬ (⟨x, hx⟩ : U64).val ∈ setU t from hm)] at HIN
        gi_wp2_with (refine ⟨trivial, ?_⟩; gi_at_call 55; refine (CallsIn.inRound r (callsIn_wide.2 HHS.out)).mono ?_; rintro e w' ⟨rfl, rfl⟩)
        refine ⟨HKO.out.from _, kpV_of (by simp) (fun B hB hlt => Below.heap_alloc _ _ B hlt), ?_, HGA.out⟩
        show Blk _ _ _ _
        rw [HIN.out, Nat.add_zero]
        exact HBA.out
    case done =>
      rintro D xs W hD hxs ⟨h1, h2⟩ hKD
      have HV2 : Hid ((n1 : Int) + n2 - 2 * (inC (setU t) xs : Nat) = dstV s t) := by
        show _ = _
        rw [HV.out, ← dst_prog (cls_pw' s) (cls_pw' t), HN1.out, HN2.out, setU_len, setU_len, inC, hxs, setU_sd]
        congr 4
        refine List.filter_congr fun x _ => ?_
        rw [decide_eq_decide, ← setU_sd t, sdU_mem]
      have hc0 : W.cell? ⟨R, 0, none⟩ = some (.int .i64 ((n1 : Int) + n2 - 2 * (inC (setU t) xs : Nat))) := h1.cell 0
      rw [HV2.out] at hc0
      have H2 := Lib.hid h2
      have HKD := Lib.hid hKD
      have HDD := Lib.hid hD
      clear h1 h2 hKD hD
      simp only [Exit.inBlock, Exit.then]
      go_wp2_with fail
      refine leaves_all [D] _ (by simp) (fun D' hD' => by rw [List.mem_singleton.1 hD']; exact HKD.out) fun w' ht => ⟨_, results_tmp2 rfl _ _ _, ?_⟩
      refine ⟨by rw [HE.out]; rfl, ?_⟩
      have hb6 := bl_trans HBW5.out HB6.out
      have hsz := hb6.size
      exact ht.below (bl_grown hb6 H2.out (fun r e => by have := Option.some.inj e; have h4 := HRE.out; have h5 := HB2.out.size; have h6 := HB4.out.size; omega)) (fun D' hD' => by rw [List.mem_singleton.1 hD']; have := HDD.out; omega)
  · have HV := Lib.hid (dstV_bad hE)
    have HE := Lib.hid hE
    go_wp2_with (go_at_call 45; refine HC.out.mono ?_; rintro e w2 ⟨hb2, ⟨h, rfl⟩ | ⟨_, _, _, h, _⟩⟩; rotate_left; exact absurd h HE.out; have HB2 := Lib.hid hb2; clear hb2 hE; rw [show shV none = .agg #[.slice none 0 0, .slice none 0 0, .map none] from rfl]; obtain ⟨ee, hee⟩ : ∃ x, x = twoE s t := ⟨_, rfl⟩; rw [← hee] at HE h ⊢; have HEE := Lib.hid hee; clear hee)
    refine leaves_all [] _ List.nodup_nil (fun D h => by cases h) fun W' ht => ⟨_, results_tmp2 rfl _ _ _, ?_⟩
    refine ⟨by rw [HV.out, ← HEE.out]; rfl, ht.below (bl_alloc (bl_alloc HB2.out _) _) (fun D h => by cases h)⟩
end Go.Proofs.YtfgkjofdgohacaaGreatDoor
namespace Go.Proofs.YtfgkjofdgohacaaGreatDoor
open Go Go.RowKit Go.Shelf Go.Maps
/-- Whether two trees have the same clades. -/
def smV (s t : List Nd) : Bool := decide (twoE s t = 0) && decide (dstV s t = 0)
set_option maxHeartbeats 1000000 in
theorem same_any (a b : Option Addr) (n c m d : Nat) (s t : List Nd) (w : World) (hn : s.length = n) (hm : t.length = m) (hN : n ≤ 1152921504606846976) (hM : m ≤ 1152921504606846976) (hA : Rd w a (fl encNd s)) (hB : Rd w b (fl encNd t)) (hS : ∀ v, v < n → (nS s v).size ≤ 9223372036854775807) (hT : ∀ v, v < m → (nS t v).size ≤ 9223372036854775807) :
    Calls Tryz.prog 31 #[.slice a n c, .slice b m d] w fun e w' => e = .returned (.tuple #[.bool (smV s t), .int .i64 (twoE s t)]) ∧ Below w.heap.size w w' := by
  have HC := Lib.hid (dist_any a b n c m d s t w hn hm hN hM hA hB hS hT)
  clear hn hm hN hM hA hB hS hT
  by_cases hE : twoE s t = 0
  · by_cases hD : dstV s t = 0
    · have HR : Hid (smV s t = true) := by show _ = _; unfold smV; rw [hE, hD]; rfl
      have HE := Lib.hid hE
      rw [hE, hD] at HC
      clear hE hD
      go_enter Tryz.func31, Tryz.ntmps31
      go_wp2_with (go_at_call 29; refine HC.out.mono ?_; rintro e w2 ⟨rfl, hb⟩; have HB := Lib.hid hb; clear hb)
      go_ret2
      exact ⟨by rw [HR.out, HE.out]; rfl, HB.out⟩
    · have HR : Hid (smV s t = false) := by show _ = _; unfold smV; rw [decide_eq_false hD, Bool.and_false]
      have HE := Lib.hid hE
      rw [hE] at HC
      generalize dstV s t = v at *
      have hb0 : (v == 0) = false := by simp [hD]
      clear hE
      go_enter Tryz.func31, Tryz.ntmps31
      go_wp2_with (go_at_call 29; refine HC.out.mono ?_; rintro e w2 ⟨rfl, hb⟩; have HB := Lib.hid hb; clear hb)
      go_ret2
      exact ⟨by rw [HR.out, HE.out]; rfl, HB.out⟩
  · have HR : Hid (smV s t = false) := by show _ = _; unfold smV; rw [decide_eq_false hE, Bool.false_and]
    obtain ⟨ee, hee⟩ : ∃ x, x = twoE s t := ⟨_, rfl⟩
    rw [← hee] at HC hE
    have HEE := Lib.hid hee
    have hb0 : (ee == 0) = false := by simp [hE]
    clear hee
    go_enter Tryz.func31, Tryz.ntmps31
    go_wp2_with (go_at_call 29; refine HC.out.mono ?_; rintro e w2 ⟨rfl, hb⟩; have HB := Lib.hid hb; clear hb)
    go_ret2
    exact ⟨by rw [HR.out, ← HEE.out]; rfl, HB.out⟩
theorem tb_mod {z q : Nat} (hz : z < 18446744073709551616) : bits .and .u64 ((z : Int) / 2 ^ q) 1 = ((z / 2 ^ q % 2 : Nat) : Int) := by
  have e : ((z : Int) / 2 ^ q) = ((z / 2 ^ q : Nat) : Int) := by simp
  rw [e, show (1 : Int) = ((1 : Nat) : Int) from rfl, bits_and (Nat.lt_of_le_of_lt (Nat.div_le_self _ _) hz) (by omega), Nat.and_one_is_mod]
theorem tb_eq0 {z q : Nat} (hz : z < 18446744073709551616) : (bits .and .u64 ((z : Int) / 2 ^ q) 1 == 0) = !z.testBit q := by
  rw [tb_mod hz, Nat.testBit_eq_decide_div_mod_eq]
  by_cases h : z / 2 ^ q % 2 = 1
  · rw [h]; rfl
  · rw [show z / 2 ^ q % 2 = 0 by omega]; rfl
theorem tb_eq1 {z q : Nat} (hz : z < 18446744073709551616) : (bits .and .u64 ((z : Int) / 2 ^ q) 1 == 1) = z.testBit q := by
  rw [tb_mod hz, Nat.testBit_eq_decide_div_mod_eq]
  by_cases h : z / 2 ^ q % 2 = 1
  · rw [h]; rfl
  · rw [show z / 2 ^ q % 2 = 0 by omega]; rfl
theorem bl_drew4 {R : Nat} {w wr : World} (h : Below R w wr) (i : Nat) : Below R w (wr.drewN i) := ⟨h.os, h.tape, h.output, h.size, h.block⟩
/-- Rows of numbers: row i has J i k at k. -/
structure JnR (W : World) (a : Option Addr) (L : Nat) (J : Nat → Nat → Nat) (rs : List Rw) : Prop where
  len : rs.length = L
  rd : Rd W a (fl encR rs)
  row : ∀ i, i < L → rN rs i = L ∧ Rd W (rA rs i) (fl encV ((List.range L).map (J i)))
theorem JnR.bl {W W' : World} {a : Option Addr} {L : Nat} {J : Nat → Nat → Nat} {rs : List Rw} (h : JnR W a L J rs) (hb : Below W.heap.size W W') : JnR W' a L J rs :=
  ⟨h.len, h.rd.bl hb, fun i hi => ⟨(h.row i hi).1, (h.row i hi).2.bl hb⟩⟩
theorem vA_range {L k : Nat} (f : Nat → Nat) (hk : k < L) : vA ((List.range L).map f) k = f k := by simp [vA, hk]
theorem JnR.get {W : World} {a : Option Addr} {L : Nat} {J : Nat → Nat → Nat} {rs : List Rw} (h : JnR W a L J rs) {i k : Nat} (hi : i < L) (hk : k < L) :
    ∃ b o g p c, a = some ⟨b, o, none⟩ ∧ W.cell? ⟨b, o + i, none⟩ = some (.slice (some ⟨g, p, none⟩) L c) ∧ W.cell? ⟨g, p + k, none⟩ = some (.int .u64 (J i k : Nat)) := by
  obtain ⟨b, o, rfl, _, hc⟩ := rdR h.rd (by rw [h.len]; omega)
  obtain ⟨h1, h2⟩ := h.row i hi
  obtain ⟨g, p, e, _, hd⟩ := rdV h2 (by simp; omega)
  have c1 := hc i (by rw [h.len]; exact hi)
  have c2 := hd k (by simp; exact hk)
  rw [vA_range _ hk] at c2
  rw [h1, e] at c1
  exact ⟨b, o, g, p, _, rfl, c1, c2⟩
/-- Which of three is apart, by smallest sets. -/
def apJ (J : Nat → Nat → Nat) (q r s : Nat) : Int := if (J r s).testBit q = false then 0 else if (J s q).testBit r = false then 1 else if (J q r).testBit s = false then 2 else -1
theorem Hier.apJ {L : Nat} {S : List Nat} (h : Hier L S) (hL : L ≤ 64) {q r s : Nat} (hq : q < L) (hr : r < L) (hs : s < L) : apJ (fun i k => jnS i k S) q r s = apN S q r s := by
  unfold Proofs.YtfgkjofdgohacaaGreatDoor.apJ apN
  rw [h.jn_ap hL hr hs, h.jn_ap hL hs hq, h.jn_ap hL hq hr]
  simp only [Bool.not_eq_true']
set_option maxRecDepth 100000 in
set_option maxHeartbeats 4000000 in
theorem apart_any (a : Option Addr) (L c q r s : Nat) (J : Nat → Nat → Nat) (rs : List Rw) (w : World) (hq : q < L) (hr : r < L) (hs : s < L) (hL : L ≤ 63) (hJ : ∀ i k, J i k < 18446744073709551616) (h : JnR w a L J rs) :
    Calls Tryz.prog 47 #[.slice a L c, .agg #[.int .i64 q, .int .i64 r, .int .i64 s]] w fun e w' => e = .returned (.int .i64 (apJ J q r s)) ∧ Below w.heap.size w w' := by
  have H := Lib.hid h
  have HJ := Lib.hid hJ
  clear h hJ
  go_enter Tryz.func47, Tryz.ntmps47
  go_wp2_with fail
  have HB1 := Lib.hid (bl_alloc (Below.refl _ w) (.cells #[.int .i64 q, .int .i64 r, .int .i64 s] 74))
  have HR1 := Lib.hid (Blk.new w #[.int .i64 q, .int .i64 r, .int .i64 s] 74)
  obtain ⟨R, hR⟩ : ∃ R, R = w.heap.size := ⟨_, rfl⟩
  rw [← hR] at HR1 HB1 ⊢
  have HRE := Lib.hid hR
  clear hR
  go_loopw [8] (fun x wr => ∃ k : Nat, k ≤ 3 ∧ x = .int .i64 k ∧ Hid ((0 < k → (J r s).testBit q = true) ∧ (1 < k → (J s q).testBit r = true) ∧ (2 < k → (J q r).testBit s = true)) ∧ Hid (Below R w wr) ∧ Hid (Blk wr R #[.int .i64 q, .int .i64 r, .int .i64 s] 74)) (fun x _ => 3 - (intOf x).toNat)
  case atStart => exact ⟨0, by omega, rfl, ⟨fun h => absurd h (by omega), fun h => absurd h (by omega), fun h => absurd h (by omega)⟩, HB1, HR1⟩
  case round =>
    clear HB1 HR1
    obtain ⟨k, hk, rfl, HE, HB, HR⟩ := hrel
    have HBw : Hid (Below w.heap.size w wr) := by show Below _ _ _; rw [← HRE.out]; exact HB.out
    have c0 : wr.cell? ⟨R, 0, none⟩ = some (.int .i64 q) := HR.out.cell 0
    have c1 : wr.cell? ⟨R, 1, none⟩ = some (.int .i64 r) := HR.out.cell 1
    have c2 : wr.cell? ⟨R, 2, none⟩ = some (.int .i64 s) := HR.out.cell 2
    obtain rfl | rfl | rfl | rfl : k = 0 ∨ k = 1 ∨ k = 2 ∨ k = 3 := by omega
    · obtain ⟨b, o, g, p, d, rfl, e1, e2⟩ := (H.out.bl HBw.out).get hr hs
      have hj := HJ.out r s
      have HB3 : Hid (∀ i, Below R w (wr.drewN i)) := fun i => bl_drew4 HB.out i
      by_cases htb : (J r s).testBit q = true
      · have HTB := Lib.hid htb
        have t1 : (bits .and .u64 (((J r s : Nat) : Int) / 2 ^ q) 1 == 0) = false := by rw [tb_eq0 hj, htb]; rfl
        have HE2 : Hid ((0 < 1 → (J r s).testBit q = true) ∧ (1 < 1 → (J s q).testBit r = true) ∧ (2 < 1 → (J q r).testBit s = true)) := ⟨fun _ => HTB.out, fun h => absurd h (by omega), fun h => absurd h (by omega)⟩
        clear HE htb HTB
        obtain ⟨z, hz⟩ : ∃ z, z = J r s := ⟨_, rfl⟩
        rw [← hz] at hj e2 t1
        clear hz
        go_wp2_with fail
        go_quiet (fail)
        go_wp2_with fail
        generalize nq = nq0
        go_quiet (fail)
        go_wp2_with fail
        exact ⟨⟨1, by omega, by go_num, HE2, by show Below _ _ _; simpa using HB3.out (nq0 + nq), by show Blk _ _ _ _; simpa using HR.out.drewN (nq0 + nq)⟩, by simp [intOf]⟩
      · have HTB := Lib.hid (show (J r s).testBit q = false by simpa using htb)
        have t1 : (bits .and .u64 (((J r s : Nat) : Int) / 2 ^ q) 1 == 0) = true := by rw [tb_eq0 hj, HTB.out]; rfl
        have HV : Hid (apJ J q r s = 0) := by
          show _ = _
          unfold apJ
          rw [if_pos HTB.out]
        clear HE htb HTB
        obtain ⟨z, hz⟩ : ∃ z, z = J r s := ⟨_, rfl⟩
        rw [← hz] at hj e2 t1
        clear hz
        go_wp2_with fail
        go_quiet (fail)
        go_wp2_with fail
        generalize nq = nq0
        go_quiet (fail)
        go_wp2_with fail
        go_ret
        exact ⟨by rw [HV.out]; rfl, by have h := bl_drew4 HBw.out (nq0 + nq); simpa using h⟩
    · obtain ⟨b, o, g, p, d, rfl, e1, e2⟩ := (H.out.bl HBw.out).get hs hq
      have hj := HJ.out s q
      have HB3 : Hid (∀ i, Below R w (wr.drewN i)) := fun i => bl_drew4 HB.out i
      by_cases htb : (J s q).testBit r = true
      · have HTB := Lib.hid htb
        have t1 : (bits .and .u64 (((J s q : Nat) : Int) / 2 ^ r) 1 == 0) = false := by rw [tb_eq0 hj, htb]; rfl
        have HE2 : Hid ((0 < 2 → (J r s).testBit q = true) ∧ (1 < 2 → (J s q).testBit r = true) ∧ (2 < 2 → (J q r).testBit s = true)) := ⟨fun _ => HE.out.1 (by omega), fun _ => HTB.out, fun h => absurd h (by omega)⟩
        clear HE htb HTB
        obtain ⟨z, hz⟩ : ∃ z, z = J s q := ⟨_, rfl⟩
        rw [← hz] at hj e2 t1
        clear hz
        go_wp2_with fail
        go_quiet (fail)
        go_wp2_with fail
        generalize nq = nq0
        go_quiet (fail)
        go_wp2_with fail
        exact ⟨⟨2, by omega, by go_num, HE2, by show Below _ _ _; simpa using HB3.out (nq0 + nq), by show Blk _ _ _ _; simpa using HR.out.drewN (nq0 + nq)⟩, by simp [intOf]⟩
      · have HTB := Lib.hid (show (J s q).testBit r = false by simpa using htb)
        have t1 : (bits .and .u64 (((J s q : Nat) : Int) / 2 ^ r) 1 == 0) = true := by rw [tb_eq0 hj, HTB.out]; rfl
        have HV : Hid (apJ J q r s = 1) := by
          show _ = _
          unfold apJ
          rw [if_neg (by rw [HE.out.1 (by omega)]; simp), if_pos HTB.out]
        clear HE htb HTB
        obtain ⟨z, hz⟩ : ∃ z, z = J s q := ⟨_, rfl⟩
        rw [← hz] at hj e2 t1
        clear hz
        go_wp2_with fail
        go_quiet (fail)
        go_wp2_with fail
        generalize nq = nq0
        go_quiet (fail)
        go_wp2_with fail
        go_ret
        exact ⟨by rw [HV.out]; rfl, by have h := bl_drew4 HBw.out (nq0 + nq); simpa using h⟩
    · obtain ⟨b, o, g, p, d, rfl, e1, e2⟩ := (H.out.bl HBw.out).get hq hr
      have hj := HJ.out q r
      have HB3 : Hid (∀ i, Below R w (wr.drewN i)) := fun i => bl_drew4 HB.out i
      by_cases htb : (J q r).testBit s = true
      · have HTB := Lib.hid htb
        have t1 : (bits .and .u64 (((J q r : Nat) : Int) / 2 ^ s) 1 == 0) = false := by rw [tb_eq0 hj, htb]; rfl
        have HE2 : Hid ((0 < 3 → (J r s).testBit q = true) ∧ (1 < 3 → (J s q).testBit r = true) ∧ (2 < 3 → (J q r).testBit s = true)) := ⟨fun _ => HE.out.1 (by omega), fun _ => HE.out.2.1 (by omega), fun _ => HTB.out⟩
        clear HE htb HTB
        obtain ⟨z, hz⟩ : ∃ z, z = J q r := ⟨_, rfl⟩
        rw [← hz] at hj e2 t1
        clear hz
        go_wp2_with fail
        go_quiet (fail)
        go_wp2_with fail
        generalize nq = nq0
        go_quiet (fail)
        go_wp2_with fail
        exact ⟨⟨3, by omega, by go_num, HE2, by show Below _ _ _; simpa using HB3.out (nq0 + nq), by show Blk _ _ _ _; simpa using HR.out.drewN (nq0 + nq)⟩, by simp [intOf]⟩
      · have HTB := Lib.hid (show (J q r).testBit s = false by simpa using htb)
        have t1 : (bits .and .u64 (((J q r : Nat) : Int) / 2 ^ s) 1 == 0) = true := by rw [tb_eq0 hj, HTB.out]; rfl
        have HV : Hid (apJ J q r s = 2) := by
          show _ = _
          unfold apJ
          rw [if_neg (by rw [HE.out.1 (by omega)]; simp), if_neg (by rw [HE.out.2.1 (by omega)]; simp), if_pos HTB.out]
        clear HE htb HTB
        obtain ⟨z, hz⟩ : ∃ z, z = J q r := ⟨_, rfl⟩
        rw [← hz] at hj e2 t1
        clear hz
        go_wp2_with fail
        go_quiet (fail)
        go_wp2_with fail
        generalize nq = nq0
        go_quiet (fail)
        go_wp2_with fail
        go_ret
        exact ⟨by rw [HV.out]; rfl, by have h := bl_drew4 HBw.out (nq0 + nq); simpa using h⟩
    · have HV : Hid (apJ J q r s = -1) := by
        show _ = _
        unfold apJ
        rw [if_neg (by rw [HE.out.1 (by omega)]; simp), if_neg (by rw [HE.out.2.1 (by omega)]; simp), if_neg (by rw [HE.out.2.2 (by omega)]; simp)]
      go_wp2_with fail
      go_ret
      exact ⟨by rw [HV.out]; rfl, HBw.out⟩
end Go.Proofs.YtfgkjofdgohacaaGreatDoor
namespace Go.Proofs.YtfgkjofdgohacaaGreatDoor
open Go Go.RowKit Go.Shelf Go.Maps
set_option maxRecDepth 100000 in
set_option maxHeartbeats 2000000 in
theorem rhas_any (a : Option Addr) (n c x : Nat) (l : List Nat) (w : World) (hn : l.length = n) (hN : n ≤ 1048576) (hA : Rd w a (fl encV l)) :
    Calls Tryz.prog 66 #[.slice a n c, .int .u64 (x : Int)] w fun e w' => e = .returned (.bool (decide (x ∈ l))) ∧ w' = w := by
  have HN := Lib.hid hn
  have HA := Lib.hid hA
  clear hn hA
  go_enter Tryz.func66, Tryz.ntmps66
  go_wp2_with fail
  go_loopw [5] (fun y wr => ∃ k : Nat, k ≤ n ∧ y = .int .i64 k ∧ Hid (∀ i, i < k → vA l i ≠ x) ∧ wr = w) (fun y _ => n - (intOf y).toNat)
  case atStart => exact ⟨0, by omega, rfl, fun i hi => absurd hi (by omega), rfl⟩
  case round =>
    obtain ⟨k, hk, rfl, HE, rfl⟩ := hrel
    by_cases hlt : k < n
    · obtain ⟨b, o, rfl, _, hc⟩ := rdV HA.out (by rw [HN.out]; omega)
      have c1 := hc k (by rw [HN.out]; exact hlt)
      clear hc
      have hmem : vA l k ∈ l := by
        have h : vA l k = l[k]'(by rw [HN.out]; exact hlt) := by simp [vA, HN.out, hlt]
        rw [h]; exact List.getElem_mem _
      obtain ⟨z, hz⟩ : ∃ z, z = vA l k := ⟨_, rfl⟩
      rw [← hz] at c1 hmem
      have HZ := Lib.hid hz
      clear hz
      by_cases e : z = x
      · have HR : Hid (decide (x ∈ l) = true) := decide_eq_true (by rw [← e]; exact hmem)
        have t1 : ((z : Int) == (x : Int)) = true := by simp [e]
        have t2 : decide ((z : Int) = (x : Int)) = true := by simp [e]
        clear e hmem
        go_wp2_with fail
        go_ret
        exact ⟨by rw [HR.out]; rfl, rfl⟩
      · have HE2 : Hid (∀ i, i < k + 1 → vA l i ≠ x) := fun i hi => by
          by_cases e2 : i < k
          · exact HE.out i e2
          · obtain rfl : i = k := by omega
            rw [← HZ.out]; exact e
        have t1 : ((z : Int) == (x : Int)) = false := by simp; omega
        have t2 : decide ((z : Int) = (x : Int)) = false := by simp; omega
        clear e hmem HE
        go_wp2_with fail
        exact ⟨⟨k + 1, by omega, by go_num, HE2, trivial⟩, by simp [intOf]; omega⟩
    · obtain rfl : k = n := by omega
      have HR : Hid (decide (x ∈ l) = false) := decide_eq_false fun h => by
        obtain ⟨i, hi, e⟩ := List.getElem_of_mem h
        exact HE.out i (by rw [← HN.out]; exact hi) (by simp [vA, hi, e])
      go_wp2_with fail
      go_ret
      exact ⟨by rw [HR.out]; rfl, rfl⟩
set_option maxRecDepth 100000 in
set_option maxHeartbeats 2000000 in
theorem lhas_any (a : Option Addr) (n c x : Nat) (l : List Nat) (w : World) (hn : l.length = n) (hN : n ≤ 1048576) (hA : Rd w a (fl encV l)) :
    Calls Tryz.prog 27 #[.slice a n c, .int .u64 (x : Int)] w fun e w' => e = .returned (.bool (decide (x ∈ l))) ∧ w' = w := by
  have HN := Lib.hid hn
  have HA := Lib.hid hA
  clear hn hA
  go_enter Tryz.func27, Tryz.ntmps27
  go_wp2_with fail
  go_loopw [5] (fun y wr => ∃ k : Nat, k ≤ n ∧ y = .int .i64 k ∧ Hid (∀ i, i < k → vA l i ≠ x) ∧ wr = w) (fun y _ => n - (intOf y).toNat)
  case atStart => exact ⟨0, by omega, rfl, fun i hi => absurd hi (by omega), rfl⟩
  case round =>
    obtain ⟨k, hk, rfl, HE, rfl⟩ := hrel
    by_cases hlt : k < n
    · obtain ⟨b, o, rfl, _, hc⟩ := rdV HA.out (by rw [HN.out]; omega)
      have c1 := hc k (by rw [HN.out]; exact hlt)
      clear hc
      have hmem : vA l k ∈ l := by
        have h : vA l k = l[k]'(by rw [HN.out]; exact hlt) := by simp [vA, HN.out, hlt]
        rw [h]; exact List.getElem_mem _
      obtain ⟨z, hz⟩ : ∃ z, z = vA l k := ⟨_, rfl⟩
      rw [← hz] at c1 hmem
      have HZ := Lib.hid hz
      clear hz
      by_cases e : z = x
      · have HR : Hid (decide (x ∈ l) = true) := decide_eq_true (by rw [← e]; exact hmem)
        have t1 : ((z : Int) == (x : Int)) = true := by simp [e]
        have t2 : decide ((z : Int) = (x : Int)) = true := by simp [e]
        clear e hmem
        go_wp2_with fail
        go_ret
        exact ⟨by rw [HR.out]; rfl, rfl⟩
      · have HE2 : Hid (∀ i, i < k + 1 → vA l i ≠ x) := fun i hi => by
          by_cases e2 : i < k
          · exact HE.out i e2
          · obtain rfl : i = k := by omega
            rw [← HZ.out]; exact e
        have t1 : ((z : Int) == (x : Int)) = false := by simp; omega
        have t2 : decide ((z : Int) = (x : Int)) = false := by simp; omega
        clear e hmem HE
        go_wp2_with fail
        exact ⟨⟨k + 1, by omega, by go_num, HE2, trivial⟩, by simp [intOf]; omega⟩
    · obtain rfl : k = n := by omega
      have HR : Hid (decide (x ∈ l) = false) := decide_eq_false fun h => by
        obtain ⟨i, hi, e⟩ := List.getElem_of_mem h
        exact HE.out i (by rw [← HN.out]; exact hi) (by simp [vA, hi, e])
      go_wp2_with fail
      go_ret
      exact ⟨by rw [HR.out]; rfl, rfl⟩
/-- Where a string is in a list, or -1. -/
def plI (l : List ByteArray) (s : ByteArray) : Int := idxF (fun x => decide (x = s)) l
set_option maxRecDepth 100000 in
set_option maxHeartbeats 2000000 in
theorem place_any (a : Option Addr) (n c : Nat) (s : ByteArray) (l : List ByteArray) (w : World) (hn : l.length = n) (hN : n ≤ 1048576) (hA : Rd w a (fl encS l)) :
    Calls Tryz.prog 74 #[.slice a n c, .string s] w fun e w' => e = .returned (.int .i64 (plI l s)) ∧ w' = w := by
  have HN := Lib.hid hn
  have HA := Lib.hid hA
  clear hn hA
  go_enter Tryz.func74, Tryz.ntmps74
  go_wp2_with fail
  go_loopw [5] (fun y wr => ∃ k : Nat, k ≤ n ∧ y = .int .i64 k ∧ Hid (NoneBefore (fun x => decide (x = s)) l k) ∧ wr = w) (fun y _ => n - (intOf y).toNat)
  case atStart => exact ⟨0, by omega, rfl, NoneBefore.zero _ _, rfl⟩
  case round =>
    obtain ⟨k, hk, rfl, HE, rfl⟩ := hrel
    by_cases hlt : k < n
    · obtain ⟨b, o, rfl, _, hc⟩ := rdS HA.out (by rw [HN.out]; omega)
      have c1 := hc k (by rw [HN.out]; exact hlt)
      clear hc
      have hkl : k < l.length := by rw [HN.out]; exact hlt
      have hz0 : sA l k = l[k] := by simp [sA, hkl]
      obtain ⟨z, hz⟩ : ∃ z, z = sA l k := ⟨_, rfl⟩
      rw [← hz] at c1 hz0
      clear hz
      by_cases e : z = s
      · have HR : Hid (plI l s = (k : Int)) := HE.out.found hkl (by rw [← hz0]; exact decide_eq_true e)
        have t1 : (z.toList == s.toList) = true := by simp [e]
        clear e hz0
        go_wp2_with fail
        go_ret
        exact ⟨by rw [HR.out]; rfl, rfl⟩
      · have HE2 : Hid (NoneBefore (fun x => decide (x = s)) l (k + 1)) := HE.out.next hkl (by rw [← hz0]; exact decide_eq_false e)
        have t1 : (z.toList == s.toList) = false := by simp [ba_inj, e]
        clear e hz0 HE
        go_wp2_with fail
        exact ⟨⟨k + 1, by omega, by go_num, HE2, trivial⟩, by simp [intOf]; omega⟩
    · obtain rfl : k = n := by omega
      have HR : Hid (plI l s = -1) := HE.out.none (by rw [HN.out]; exact Nat.le_refl _)
      go_wp2_with fail
      go_ret
      exact ⟨by rw [HR.out]; rfl, rfl⟩
end Go.Proofs.YtfgkjofdgohacaaGreatDoor
namespace Go.Proofs.YtfgkjofdgohacaaGreatDoor
open Go Go.RowKit Go.Shelf Go.Maps
theorem own1_cells {W : World} {base e g n cap : Nat} {xs : List Value} (h : W.ownsRow base e 1 (.slice (some ⟨g, 0, none⟩) n cap) n xs) {t : Nat} (ht : t < n) : W.cell? ⟨g, t, none⟩ = some (xs.getD t undef) ∧ W.frozen? ⟨g, t, none⟩ = false := by
  obtain ⟨hl, hr⟩ := h
  rcases hr with ⟨hv, _⟩ | ⟨g', cap', cur, hv, hg, hh, hn, hmx, hcs, hx⟩
  · cases hv
  · cases hv
    have h1 : t < cur.size := by omega
    refine ⟨?_, ?_⟩
    · have h2 := congrArg (fun l => l[t]?) hx
      simp [ht, h1] at h2
      simp [World.cell?, hh, h1, List.getD_eq_getElem?_getD, ← h2]
    · simp [World.frozen?, hh]
theorem own1_set {W : World} {base e g n cap : Nat} {xs : List Value} (h : W.ownsRow base e 1 (.slice (some ⟨g, 0, none⟩) n cap) n xs) (i : Nat) (u : Value) : (W.setCell ⟨g, i, none⟩ u).ownsRow base e 1 (.slice (some ⟨g, 0, none⟩) n cap) n (xs.set i u) := by
  obtain ⟨hl, hr⟩ := h
  rcases hr with ⟨hv, _⟩ | ⟨g', cap', cur, hv, hg, hh, hn, hmx, hcs, hx⟩
  · cases hv
  · cases hv
    refine ⟨by simpa using hl, .inr ⟨g, cap, cur.setIfInBounds i u, rfl, hg, heap_setCell_same W g i cur e u hh, hn, hmx, by simpa using hcs, ?_⟩⟩
    rw [← hx]
    rw [Array.toList_setIfInBounds, List.take_set]
theorem own1_drew {W : World} {base e g n cap : Nat} {xs : List Value} (h : W.ownsRow base e 1 (.slice (some ⟨g, 0, none⟩) n cap) n xs) (q : Nat) : (W.drewN q).ownsRow base e 1 (.slice (some ⟨g, 0, none⟩) n cap) n xs := h
theorem set_two {α : Type} (P R : List α) (a b c d : α) : (((P ++ a :: b :: R).set (P.length + 1) c).set P.length d) = P ++ d :: c :: R := by
  rw [List.set_append_right _ _ (by omega), Nat.add_sub_cancel_left, List.set_cons_succ, List.set_cons_zero, List.set_append_right _ _ (Nat.le_refl _), Nat.sub_self, List.set_cons_zero]
/-- Two neighbours exchanged. -/
theorem own1_swap {α : Type} (f : α → Value) {W : World} {base e g n cap q : Nat} {P R : List α} {a b : α} (h : W.ownsRow base e 1 (.slice (some ⟨g, 0, none⟩) n cap) n ((P ++ a :: b :: R).map f)) :
    (((W.drewN q).setCell ⟨g, P.length + 1, none⟩ (f a)).setCell ⟨g, P.length, none⟩ (f b)).ownsRow base e 1 (.slice (some ⟨g, 0, none⟩) n cap) n ((P ++ b :: a :: R).map f) := by
  have h1 := own1_set (own1_set (own1_drew h q) (P.length + 1) (f a)) P.length (f b)
  have h2 := set_two (P.map f) (R.map f) (f a) (f b) (f a) (f b)
  rw [List.length_map] at h2
  rw [List.map_append, List.map_cons, List.map_cons, h2] at h1
  rw [List.map_append, List.map_cons, List.map_cons]
  exact h1
theorem bl_set2 {w W : World} {g i k q : Nat} {u v : Value} (h : Below w.heap.size w W) (hg : w.heap.size ≤ g) : Below w.heap.size w (((W.drewN q).setCell ⟨g, i, none⟩ u).setCell ⟨g, k, none⟩ v) :=
  bl_set (bl_set (bl_drewN h q) _ _ _ _ hg) _ _ _ _ hg
theorem getD_mid {α : Type} (P R : List α) (a d : α) : (P ++ a :: R).getD P.length d = a := by simp [List.getD_eq_getElem?_getD]
end Go.Proofs.YtfgkjofdgohacaaGreatDoor
namespace Go.Proofs.YtfgkjofdgohacaaGreatDoor
open Go Go.RowKit Go.Shelf Go.Maps
theorem ins_pw4 {P1 P2 : List ByteArray} {x : ByteArray} (h : (P1 ++ P2).Pairwise LtB) (h1 : ∀ y ∈ P1, LtB y x) (h2 : ∀ y ∈ P2, LtB x y) : (P1 ++ x :: P2).Pairwise LtB := by
  rw [List.pairwise_append] at h ⊢
  obtain ⟨a, b, c⟩ := h
  refine ⟨a, List.pairwise_cons.2 ⟨h2, b⟩, fun u hu v hv => ?_⟩
  rcases List.mem_cons.1 hv with rfl | hv
  · exact h1 u hu
  · exact c u hu v hv
/-- The last of the lower part is below x: all of it are. -/
theorem low_all4 {P : List ByteArray} {y x : ByteArray} (h : (P ++ [y]).Pairwise LtB) (hy : LtB y x) : ∀ z ∈ P ++ [y], LtB z x := by
  intro z hz
  rcases List.mem_append.1 hz with hz | hz
  · exact ((List.pairwise_append.1 h).2.2 z hz y (by simp)).trans hy
  · rw [List.mem_singleton.1 hz]; exact hy
theorem owns_empty4 (W : World) {B : Nat} (hB : B ≤ W.heap.size) (e k : Nat) : (W.alloc (.cells #[] e)).ownsRow B e k (.slice (some ⟨W.heap.size, 0, none⟩) 0 0) 0 [] := by
  have := owns_made (w := W) (base := B) (e := e) (k := k) (n := 0) (cs := #[]) hB (by simp) (by omega)
  exact this
theorem encS_one (x : ByteArray) : ∀ u ∈ encS x, u.oneCell' = true := by
  simp only [encS, List.mem_cons, List.not_mem_nil, or_false]
  rintro u rfl
  rfl
theorem sA_map {l : List ByteArray} {n t : Nat} (hl : l.length = n) (ht : t < n) : (l.map Value.string).getD t undef = .string (sA l t) := by
  subst hl
  simp [sA, List.getD_eq_getElem?_getD, ht]
theorem fl_S1 (l : List ByteArray) : fl encS l = l.map Value.string := by
  induction l with
  | nil => rfl
  | cons x l ih => show encS x ++ fl encS l = _; rw [ih]; rfl
set_option maxRecDepth 100000 in
set_option maxHeartbeats 4000000 in
theorem rsorted_any (a : Option Addr) (n c : Nat) (l : List ByteArray) (w : World) (hn : l.length = n) (hN : n < 1048576) (hA : Rd w a (fl encS l)) (h0 : a = none → n = 0) (hnd : l.Nodup) :
    Calls Tryz.prog 77 #[.slice a n c] w fun e w' => ∃ v, e = .returned v ∧ w'.ownsRow w.heap.size 9 1 v n (fl encS (srtB l)) ∧ Below w.heap.size w w' := by
  have HN := Lib.hid hn
  have HB1 := Lib.hid (bl_alloc (Below.refl _ w) (.cells #[] 9))
  have HA := Lib.hid (hA.bl HB1.out)
  have HO := Lib.hid (owns_empty4 w (Nat.le_refl _) 9 1)
  go_enter Tryz.func77, Tryz.ntmps77
  go_upto_region 2 with first | fail | (at_builtin; refine wpList_pushs (enc := encS) rfl encS_len (by decide) encS_one Tryz.underlying46 info_S4 rfl (.tmp 6) (.tmp 7) rfl (.slice (some ⟨w.heap.size, 0, none⟩) 0 0) [] 0 rfl rfl HO.out a n c l hn.symm rfl HA.out h0 (by omega) (by decide) (by rw [World.size_alloc]; exact Nat.le_succ _) ?_; intro v9 w9 h91 h92 h93; have H91 := Lib.hid h91; have H92 := Lib.hid h92; clear h91 h92 h93)
  obtain ⟨A9, c9, rfl⟩ := owns_sl H91.out
  have HB9 := Lib.hid (bl_grown HB1.out H92.out (fun r e => by have h : w.heap.size = r := Option.some.inj e; omega))
  have HP0 : Hid (∃ cur P rest : List ByteArray, cur = P ++ rest ∧ P.length = 0 ∧ P.Pairwise LtB ∧ cur.Perm l ∧ w9.ownsRow w.heap.size 9 1 (.slice A9 n c9) n (fl encS cur)) :=
    ⟨l, [], l, rfl, rfl, List.Pairwise.nil, List.Perm.refl _, by have h := H91.out; rw [Nat.zero_add, List.nil_append] at h; exact h⟩
  rw [Nat.zero_add]
  clear hn hA h0 HA HO H91 H92 HB1
  have HND := Lib.hid hnd
  clear hnd
  go_wp2_with fail
  go_loopw [4] (fun x wr => ∃ i : Nat, i ≤ n ∧ x = .int .i64 i ∧ Hid (Below w.heap.size w wr) ∧ Hid (∃ cur P rest : List ByteArray, cur = P ++ rest ∧ P.length = i ∧ P.Pairwise LtB ∧ cur.Perm l ∧ wr.ownsRow w.heap.size 9 1 (.slice A9 n c9) n (fl encS cur))) (fun x _ => n - (intOf x).toNat)
  case atStart => exact ⟨0, by omega, rfl, HB9, HP0⟩
  case round =>
    clear HB9 HP0
    obtain ⟨i, hi, rfl, HB, HP⟩ := hrel
    by_cases hlt : i < n
    · obtain ⟨cur, P, rest, e, hl, hpw, hperm, ho⟩ := HP.out
      obtain ⟨g, rfl⟩ : ∃ g, A9 = some ⟨g, 0, none⟩ := by
        obtain ⟨_, hr⟩ := ho
        rcases hr with ⟨_, h0⟩ | ⟨g, _, _, hv, _⟩
        · omega
        · injection hv with h1 _ _; exact ⟨g, h1⟩
      have hcl : cur.length = n := by rw [hperm.length_eq, HN.out]
      have hgz : w.heap.size ≤ g := by
        obtain ⟨_, hr⟩ := ho
        rcases hr with ⟨hv, _⟩ | ⟨g', _, _, hv, hg, _⟩
        · cases hv
        · cases hv; exact hg
      cases rest with
      | nil =>
        have := congrArg List.length e
        rw [List.append_nil, hl, hcl] at this
        omega
      | cons x rest =>
        have HPI : Hid (∃ P1 P2 : List ByteArray, P1.length = i ∧ P1.length + P2.length = i ∧ (P1 ++ P2).Pairwise LtB ∧ (∀ y ∈ P2, LtB x y) ∧ (P1 ++ x :: P2 ++ rest).Perm l ∧ wr.ownsRow w.heap.size 9 1 (.slice (some ⟨g, 0, none⟩) n c9) n (fl encS (P1 ++ x :: P2 ++ rest))) :=
          ⟨P, [], hl, by simpa using hl, by simpa using hpw, by simp, by simpa [e] using hperm, by simpa [e] using ho⟩
        clear hpw hperm ho e hl hcl HP cur P
        go_wp2_with fail
        go_loopw [5] (fun y wr2 => ∃ k : Nat, k ≤ i ∧ y = .int .i64 k ∧ Hid (Below w.heap.size w wr2) ∧ Hid (∃ P1 P2 : List ByteArray, P1.length = k ∧ P1.length + P2.length = i ∧ (P1 ++ P2).Pairwise LtB ∧ (∀ y ∈ P2, LtB x y) ∧ (P1 ++ x :: P2 ++ rest).Perm l ∧ wr2.ownsRow w.heap.size 9 1 (.slice (some ⟨g, 0, none⟩) n c9) n (fl encS (P1 ++ x :: P2 ++ rest)))) (fun y _ => (intOf y).toNat)
        case atStart => exact ⟨i, Nat.le_refl _, rfl, HB, HPI⟩
        case round =>
          clear HB HPI
          obtain ⟨k, hk, rfl, HB, HPI⟩ := hrel
          obtain ⟨P1, P2, hk1, hki, hpw, hlow, hperm, ho⟩ := HPI.out
          have OUT : Hid ((∀ y ∈ P1, LtB y x) → ∀ q, ∃ i' : Nat, i' ≤ n ∧ Value.int .i64 ((i : Int) + 1) = .int .i64 (i' : Nat) ∧ Hid (Below w.heap.size w (wr.drewN q)) ∧ Hid (∃ cur P rest : List ByteArray, cur = P ++ rest ∧ P.length = i' ∧ P.Pairwise LtB ∧ cur.Perm l ∧ (wr.drewN q).ownsRow w.heap.size 9 1 (.slice (some ⟨g, 0, none⟩) n c9) n (fl encS cur))) := fun hall q =>
            ⟨i + 1, by omega, by go_num, bl_drewN HB.out q, P1 ++ x :: P2 ++ rest, P1 ++ x :: P2, rest, rfl, by simp; omega, ins_pw4 hpw hall hlow, hperm, own1_drew ho q⟩
          have hcl : (P1 ++ x :: P2 ++ rest).length = n := by rw [hperm.length_eq, HN.out]
          have hcs : ∀ t, t < n → wr.cell? ⟨g, t, none⟩ = some (.string (sA (P1 ++ x :: P2 ++ rest) t)) := fun t ht => by
            have h := (own1_cells ho ht).1
            rw [h, fl_S1]
            exact congrArg some (sA_map hcl ht)
          have hfr : ∀ t, t < n → wr.frozen? ⟨g, t, none⟩ = false := fun t ht => (own1_cells ho ht).2
          have HO := Lib.hid ho
          have HPM := Lib.hid hperm
          have HPW := Lib.hid hpw
          have HLW := Lib.hid hlow
          have HK1 := Lib.hid hk1
          have HKI := Lib.hid hki
          by_cases hk0 : 0 < k
          · obtain ⟨P0, y, rfl⟩ : ∃ P0 y, P1 = P0 ++ [y] := ⟨P1.dropLast, P1.getLast (by intro e; rw [e] at hk1; simp at hk1; omega), (List.dropLast_concat_getLast _).symm⟩
            have hp0 : P0.length = k - 1 := by simp at hk1; omega
            have HP0 := Lib.hid hp0
            have gx : sA (P0 ++ [y] ++ x :: P2 ++ rest) k = x := by
              rw [← hk1]
              have := getD_mid (P0 ++ [y]) (P2 ++ rest) x ByteArray.empty
              unfold sA
              rw [List.append_assoc]
              exact this
            have gy : sA (P0 ++ [y] ++ x :: P2 ++ rest) (k - 1) = y := by
              rw [← hp0]
              have := getD_mid P0 (x :: P2 ++ rest) y ByteArray.empty
              unfold sA
              rw [List.append_assoc, List.append_assoc]
              exact this
            obtain ⟨G, hG⟩ : ∃ G : Nat → ByteArray, ∀ t, G t = sA (P0 ++ [y] ++ x :: P2 ++ rest) t := ⟨_, fun _ => rfl⟩
            have hcw : ∀ t, t < n → wr.cell? ⟨g, t, none⟩ = some (.string (G t)) := fun t ht => by rw [hG]; exact hcs t ht
            have HGX : Hid (G k = x) := (hG k).trans gx
            have HGY : Hid (G (k - 1) = y) := (hG (k - 1)).trans gy
            clear hG hcs gx gy hk1 hki hpw hlow hperm ho hcl hp0
            have hkn : k < n := by omega
            have hwk : IntKind.i64.wrap ((k : Int) - 1) = ((k - 1 : Nat) : Int) := wrap_nat _ (k - 1) (by omega) (by omega)
            have hk1n : k - 1 < n := by omega
            rcases Bool.eq_false_or_eq_true (ltB (G k) (G (k - 1))) with hq | hq
            · have hb : Op.bytesLess (G k).toList (G (k - 1)).toList = true := by rw [bytesL_eq, ByteArray.toList_eq, ByteArray.toList_eq]; exact hq
              have HQ := Lib.hid hq
              clear hq
              go_wp2_with fail
              go_quiet (fail)
              go_wp2_with fail
              go_region
              all_goals go_wp2_with fail
              refine ⟨⟨k - 1, by omega, rfl, ?_, ?_⟩, by simp [intOf]; omega⟩
              · exact bl_set2 HB.out hgz
              · refine ⟨P0, y :: P2, HP0.out, ?_, ?_, ?_, ?_, ?_⟩
                · have := HKI.out; simp at this ⊢; omega
                · have := HPW.out; simpa using this
                · intro z hz
                  rcases List.mem_cons.1 hz with rfl | hz
                  · rw [← HGX.out, ← HGY.out]; exact ltB_iff.1 HQ.out
                  · exact HLW.out z hz
                · have := HPM.out
                  refine List.Perm.trans ?_ this
                  simp only [List.append_assoc, List.cons_append]
                  exact List.Perm.append_left _ (List.Perm.swap y x _)
                · have h := own1_swap Value.string (q := nq + 1) (P := P0) (R := P2 ++ rest) (a := y) (b := x) (by rw [← fl_S1]; have h := HO.out; simpa using h)
                  rw [← fl_S1] at h
                  have e1 : P0.length + 1 = k := by rw [HP0.out]; omega
                  rw [e1, HP0.out] at h
                  rw [HGX.out, HGY.out]
                  simpa using h
            · have hb : Op.bytesLess (G k).toList (G (k - 1)).toList = false := by rw [bytesL_eq, ByteArray.toList_eq, ByteArray.toList_eq]; exact hq
              have HQ := Lib.hid hq
              have HALL : Hid (∀ z ∈ P0 ++ [y], LtB z x) := low_all4 (List.pairwise_append.1 HPW.out).1 (by
                have h1 : ¬ LtB x y := fun h => by
                  have h2 := HQ.out
                  rw [HGX.out, HGY.out, ltB_iff.2 h] at h2
                  cases h2
                refine LtB.tot h1 fun e => ?_
                have h3 := (HPM.out.nodup_iff).2 HND.out
                rw [e] at h3
                simp [List.nodup_append] at h3)
              clear hq
              go_wp2_with fail
              go_quiet (fail)
              go_wp2_with fail
              exact ⟨OUT.out HALL.out _, by simp [intOf]; omega⟩
          · have h0 : P1 = [] := List.eq_nil_of_length_eq_zero (by omega)
            subst h0
            clear hcs hfr hk1 hki hpw hlow hperm ho hcl HO HPM HPW HLW HK1 HKI
            go_wp2_with fail
            go_quiet (fail)
            go_wp2_with fail
            exact ⟨OUT.out (by simp) _, by simp [intOf]; omega⟩
    · obtain rfl : i = n := by omega
      go_wp2_with fail
      go_ret
      obtain ⟨cur, P, rest, e, hl, hpw, hperm, ho⟩ := HP.out
      refine ⟨_, rfl, ?_, HB.out⟩
      have hrest : rest = [] := by
        have h1 := hperm.length_eq
        rw [e, List.length_append, hl, HN.out] at h1
        exact List.eq_nil_of_length_eq_zero (by omega)
      rw [hrest, List.append_nil] at e
      have hs : cur = srtB l := srtB_ext (by rw [e]; exact hpw) (srtB_pw HND.out) fun x => by rw [hperm.mem_iff, srtB_mem]
      rw [← hs]
      exact ho
end Go.Proofs.YtfgkjofdgohacaaGreatDoor
namespace Go.Proofs.YtfgkjofdgohacaaGreatDoor
open Go Go.RowKit Go.Shelf Go.Maps
theorem owns_nil0 {w : World} {base e k n c : Nat} {a : Option Addr} {xs : List Value} (h : w.ownsRow base e k (.slice a n c) n xs) (ha : a = none) : n = 0 := by
  subst ha
  obtain ⟨_, ⟨_, h0⟩ | ⟨_, _, _, hv, _⟩⟩ := h
  · exact h0
  · cases hv
set_option maxRecDepth 100000 in
set_option maxHeartbeats 4000000 in
theorem rnames_any (a : Option Addr) (n c : Nat) (t : List Nd) (w : World) (hn : t.length = n) (hA : Rd w a (fl encNd t)) (hS : ∀ v, v < n → (nS t v).size ≤ 9223372036854775807) (hok : TreeOk t) :
    Calls Tryz.prog 50 #[.slice a n c] w fun e w' => ∃ v, e = .returned v ∧ w'.ownsRow w.heap.size 9 1 v (lvT t).length (fl encS (nmsL t)) ∧ Below w.heap.size w w' := by
  have hn63 : n ≤ 63 := by rw [← hn]; exact hok.2.1
  have HN := Lib.hid hn
  have HOK := Lib.hid hok
  have HA := Lib.hid hA
  have HLV := Lib.hid (rLeaves_any a n c t w hn (by omega) hA hS)
  have HE : Hid (chkE t = 0) := chkE_good hok
  obtain ⟨L, hL⟩ : ∃ L, L = (lvT t).length := ⟨_, rfl⟩
  have HLL := Lib.hid hL
  have HLB : Hid (L ≤ 63) := by show L ≤ 63; rw [hL]; exact lvT_le63 hok
  rw [← hL] at HLV ⊢
  rw [HE.out] at HLV
  have HND := Lib.hid (nms_nodup hn hok)
  clear hn hA hS hok hL
  have hL63 : L ≤ 63 := HLB.out
  go_enter Tryz.func50, Tryz.ntmps50
  go_wp2_with (go_at_call 88; refine HLV.out.mono ?_; rintro e w2 ⟨v, rfl, ho, hb2⟩; obtain ⟨al, c2, rfl⟩ := owns_sl ho; have HO := Lib.hid ho; have HB2 := Lib.hid hb2; clear ho hb2)
  have HRL := Lib.hid (rd_of_owns HO.out)
  obtain ⟨nm, hnm⟩ : ∃ nm : Nat → List ByteArray, nm = fun k => ((lvT t).take k).map (nS t) := ⟨_, rfl⟩
  have HLU : Hid (∀ k, k < L → vA (lvT t) k < n ∧ nm (k + 1) = nm k ++ [nS t (vA (lvT t) k)] ∧ (nm k).length = k) := fun k hk => by
    have hkl : k < (lvT t).length := by rw [← HLL.out]; exact hk
    refine ⟨(tok_leaf HN.out HOK.out hkl).1, ?_, ?_⟩
    · rw [hnm]
      show ((lvT t).take (k + 1)).map (nS t) = _
      rw [take_snocV hkl, List.map_append]; rfl
    · rw [hnm]
      show (((lvT t).take k).map (nS t)).length = k
      rw [List.length_map, List.length_take]; omega
  have HN0 : Hid (nm 0 = []) := by show _ = _; rw [hnm]; rfl
  have HNA : Hid (nm L = (lvT t).map (nS t)) := by
    show _ = _
    rw [hnm, HLL.out]
    show ((lvT t).take (lvT t).length).map (nS t) = _
    rw [List.take_length]
  clear hnm HLV HO
  go_wp2_with fail
  go_loopw [5, 6] (fun y x wr => ∃ (k cA : Nat) (A : Option Addr), k ≤ L ∧ x = .int .i64 k ∧ y = .slice A k cA ∧ Hid (wr.ownsRow w2.heap.size 9 1 (.slice A k cA) k (fl encS (nm k))) ∧ Hid (Below w2.heap.size w2 wr)) (fun _ x _ => L - (intOf x).toNat)
  case atStart => exact ⟨0, 0, none, by omega, rfl, rfl, by rw [HN0.out]; exact World.ownsRow_nil _ _ _ _, Below.refl _ _⟩
  case round =>
    obtain ⟨k, cA, A, hk, rfl, rfl, HV, HBW⟩ := hrel
    by_cases hlt : k < L
    · obtain ⟨hu, hnx, hnl⟩ := HLU.out k hlt
      have HNX := Lib.hid hnx
      have HNL := Lib.hid hnl
      clear hnx hnl
      obtain ⟨bl, ol, rfl, _, hcl⟩ := rdI (HRL.out.bl HBW.out) (by rw [iN_len, ← HLL.out]; omega)
      have c1 := hcl k (by rw [iN_len, ← HLL.out]; exact hlt)
      rw [iN_get] at c1
      clear hcl
      generalize vA (lvT t) k = u at *
      obtain ⟨bn, on, rfl, _, hcn⟩ := rdNd (HA.out.bl (bl_trans HB2.out HBW.out)) (by rw [HN.out]; omega)
      have c2 := (hcn u (by rw [HN.out]; exact hu)).2
      clear hcn
      generalize nS t u = s at *
      have hsz1 : w2.heap.size ≤ (wr.alloc (.cells #[.string s] 9)).heap.size := (bl_alloc HBW.out _).size
      go_wp2_with (at_builtin; refine push_S4 rfl (.tmp 18) (.tmp 27) rfl w2.heap.size (.slice A k cA) (nm k) k HNL.out.symm rfl (HV.out.alloc _) _ _ s rfl (Blk.new _ _ _) (by omega) hsz1 ?_; intro g cap w8 h1 h2 h3 h4; have H81 := Lib.hid h1; have H82 := Lib.hid (bl_grown (bl_alloc HBW.out _) h2 (fun r e => (HV.out.lt r e).1)); clear h1 h2 h3 h4)
      go_roundw
      case rel => exact ⟨k + 1, cap, _, by omega, by go_num, rfl, by rw [HNX.out]; exact H81.out, H82⟩
      case measure => simp [intOf]; omega
    · obtain rfl : k = L := by omega
      have HNK : Hid (srtB (nm k) = nmsL t) := by
        show _ = _
        rw [HNA.out]; rfl
      have HC := Lib.hid (rsorted_any A k cA (nm k) wr (by rw [HNA.out, List.length_map, ← HLL.out]) (by omega) (rd_of_owns HV.out) (owns_nil0 HV.out) (by rw [HNA.out]; exact HND.out))
      rw [HNK.out] at HC
      go_wp2_with (go_at_call 77; refine HC.out.mono ?_; rintro e w5 ⟨v5, rfl, h1, h2⟩; have H51 := Lib.hid (owns_base4 h1 (Nat.le_trans HB2.out.size HBW.out.size)); have HB5 := Lib.hid (bl_trans (bl_trans HB2.out HBW.out) h2); clear h1 h2)
      go_ret
      exact ⟨_, rfl, H51.out, HB5.out⟩
/-- The bits of a clade's first k leaves, in the order of the names. -/
def clQ (t : List Nd) (v : Nat) : Nat → Nat
  | 0 => 0
  | k + 1 => if (cl t v).testBit k then clQ t v k ||| 2 ^ pl4 t (vA (lvT t) k) else clQ t v k
theorem clQ_lt {t : List Nd} {n : Nat} (hn : t.length = n) (hok : TreeOk t) (v : Nat) : ∀ k, k ≤ (lvT t).length → clQ t v k < 2 ^ (lvT t).length
  | 0, _ => Nat.two_pow_pos _
  | k + 1, hk => by
    have ih := clQ_lt hn hok v k (by omega)
    unfold clQ
    split
    · obtain ⟨h1, h2⟩ := tok_leaf hn hok (show k < (lvT t).length by omega)
      exact Nat.or_lt_two_pow ih (Nat.pow_lt_pow_right (by omega) (pl4_lt hn hok h1 h2))
    · exact ih
theorem clQ_bit {t : List Nd} {v i : Nat} : ∀ k, (clQ t v k).testBit i = true ↔ ∃ j, j < k ∧ (cl t v).testBit j = true ∧ pl4 t (vA (lvT t) j) = i
  | 0 => by simp [clQ]
  | k + 1 => by
    have ih := clQ_bit (t := t) (v := v) (i := i) k
    unfold clQ
    by_cases q : (cl t v).testBit k = true
    · rw [if_pos q, Nat.testBit_or, Bool.or_eq_true, ih, Nat.testBit_two_pow, decide_eq_true_eq]
      constructor
      · rintro (⟨j, h1, h2, h3⟩ | h)
        · exact ⟨j, by omega, h2, h3⟩
        · exact ⟨k, by omega, q, h⟩
      · rintro ⟨j, h1, h2, h3⟩
        by_cases e : j = k
        · subst e; exact .inr h3
        · exact .inl ⟨j, by omega, h2, h3⟩
    · rw [if_neg q, ih]
      constructor
      · rintro ⟨j, h1, h2, h3⟩; exact ⟨j, by omega, h2, h3⟩
      · rintro ⟨j, h1, h2, h3⟩
        by_cases e : j = k
        · subst e; exact absurd h2 q
        · exact ⟨j, by omega, h2, h3⟩
theorem lvT_nodup4 {t : List Nd} {n : Nat} (hn : t.length = n) (hok : TreeOk t) : (lvT t).Nodup :=
  (List.pairwise_map.1 (nms_nodup hn hok)).imp fun hne e => hne (by rw [e])
theorem clQ_all {t : List Nd} {n v : Nat} (hn : t.length = n) (hok : TreeOk t) (hv : v < n) : clQ t v (lvT t).length = cl4 t v := by
  refine cl4_ext hn hok (clQ_lt hn hok v _ (Nat.le_refl _)) (cl4_lt hn hok hv) fun u hu hl => ?_
  have hm := (lv_mem hn hok (u := u)).2 ⟨hu, hl⟩
  obtain ⟨k, hk, e⟩ := List.getElem_of_mem hm
  have e : vA (lvT t) k = u := by rw [vA_get hk]; exact e
  rw [← e, cl4_cl hn hok hk hv, Bool.eq_iff_iff, clQ_bit]
  constructor
  · rintro ⟨j, h1, h2, h3⟩
    obtain ⟨a1, a2⟩ := tok_leaf hn hok h1
    obtain ⟨b1, b2⟩ := tok_leaf hn hok hk
    have h4 := pl4_inj hn hok a1 a2 b1 b2 h3
    have h5 : j = k := by
      have hnd := lvT_nodup4 hn hok
      rw [vA_get h1, vA_get hk] at h4
      have hp := List.pairwise_iff_getElem.1 hnd
      rcases Nat.lt_trichotomy j k with r | r | r
      · exact absurd h4 (hp j k h1 hk r)
      · exact r
      · exact absurd h4.symm (hp k j hk h1 r)
    rw [← h5]; exact h2
  · intro h; exact ⟨k, hk, h, rfl⟩
theorem plI_at {l : List ByteArray} {s : ByteArray} (h : s ∈ l) : plI l s = (plN l s : Nat) := by
  unfold plI idxF plN
  rw [if_pos]
  rw [List.any_eq_true]
  exact ⟨s, h, by simp⟩
theorem pow64 {p : Nat} (hp : p ≤ 63) : IntKind.u64.wrap ((2 : Int) ^ p) = ((2 ^ p : Nat) : Int) := by
  have h64 : 2 ^ p ≤ 2 ^ 63 := Nat.pow_le_pow_right (by omega) (by omega)
  have hpp : (2 : Int) ^ p = ((2 ^ p : Nat) : Int) := by simp
  rw [hpp, IntKind.wrap_u64]
  generalize 2 ^ p = z at *
  omega
set_option maxRecDepth 100000 in
set_option maxHeartbeats 4000000 in
theorem rclade34_any (a : Option Addr) (n c v : Nat) (t : List Nd) (w : World) (hn : t.length = n) (hok : TreeOk t) (hv : v < n) (hA : Rd w a (fl encNd t)) (hS : ∀ v, v < n → (nS t v).size ≤ 9223372036854775807) :
    Calls Tryz.prog 59 #[.slice a n c, .int .i64 v] w fun e w' => e = .returned (.int .u64 (cl4 t v : Nat)) ∧ Below w.heap.size w w' := by
  have hn63 : n ≤ 63 := by rw [← hn]; exact hok.2.1
  have HLV := Lib.hid (rLeaves_any a n c t w hn (by omega) hA hS)
  have HNM := Lib.hid (fun W (hb : Below w.heap.size w W) => rnames_any a n c t W hn (hA.bl hb) hS hok)
  have HCL := Lib.hid (fun W (hb : Below w.heap.size w W) => rclade_any a n c v t W hn hok hv (hA.bl hb) hS)
  have HE : Hid (chkE t = 0) := chkE_good hok
  obtain ⟨L, hL⟩ : ∃ L, L = (lvT t).length := ⟨_, rfl⟩
  have HLL := Lib.hid hL
  have HLB : Hid (L ≤ 63) := by show L ≤ 63; rw [hL]; exact lvT_le63 hok
  rw [← hL] at HLV HNM HCL
  rw [HE.out] at HLV
  have HCC : Hid (clF t n v L = cl t v) := by show _ = _; rw [hL]; exact clF_cl hn hok hv
  rw [HCC.out] at HCL
  have HC0 : Hid (clQ t v 0 = 0) := rfl
  have HCA : Hid (clQ t v L = cl4 t v) := by show _ = _; rw [hL]; exact clQ_all hn hok hv
  have HCB : Hid (∀ k, k ≤ L → clQ t v k < 18446744073709551616) := fun k hk => Nat.lt_of_lt_of_le (clQ_lt hn hok v k (by rw [← hL]; exact hk)) (by
    have h64 : 2 ^ (lvT t).length ≤ 2 ^ 63 := Nat.pow_le_pow_right (by omega) (lvT_le63 hok)
    omega)
  have HZB : Hid (cl t v < 18446744073709551616) := by
    have h := tok_lt hn hok hv
    have h64 : 2 ^ (lvT t).length ≤ 2 ^ 63 := Nat.pow_le_pow_right (by omega) (lvT_le63 hok)
    show _ < _
    omega
  have HLU : Hid (∀ k, k < L → vA (lvT t) k < n ∧ nS t (vA (lvT t) k) ∈ nmsL t ∧ pl4 t (vA (lvT t) k) ≤ 63 ∧ clQ t v (k + 1) = if (cl t v).testBit k then clQ t v k ||| 2 ^ pl4 t (vA (lvT t) k) else clQ t v k) := fun k hk => by
    have hkl : k < (lvT t).length := by rw [← HLL.out]; exact hk
    obtain ⟨h1, h2⟩ := tok_leaf hn hok hkl
    have h3 := pl4_lt hn hok h1 h2
    have h4 := lvT_le63 hok
    exact ⟨h1, nms_mem hn hok h1 h2, by omega, rfl⟩
  have HN := Lib.hid hn
  have HA := Lib.hid hA
  have hL63 : L ≤ 63 := HLB.out
  have hLn : (nmsL t).length = L := by rw [nmsL_len, hL]
  have HLN := Lib.hid hLn
  clear hn hA hS hok hL hv hLn
  obtain ⟨Z, hZ⟩ : ∃ Z, Z = cl t v := ⟨_, rfl⟩
  rw [← hZ] at HCL HZB HLU
  clear hZ HE HCC
  go_enter Tryz.func59, Tryz.ntmps59
  go_wp2_with (go_at_call 88; refine HLV.out.mono ?_; rintro e w2 ⟨vl, rfl, ho, hb2⟩; obtain ⟨al, c2, rfl⟩ := owns_sl ho; have HRL := Lib.hid (rd_of_owns ho); have HB2 := Lib.hid hb2; clear ho hb2)
  go_wp2_with (go_at_call 50; refine (HNM.out _ HB2.out).mono ?_; rintro e w3 ⟨vn, rfl, ho, hb3⟩; obtain ⟨an, c3, rfl⟩ := owns_sl ho; have HRN := Lib.hid (rd_of_owns ho); have HB3 := Lib.hid (bl_trans HB2.out hb3); have HRL := Lib.hid (HRL.out.bl hb3); clear ho hb3)
  go_wp2_with (go_at_call 91; refine (HCL.out _ HB3.out).mono ?_; rintro e w4 ⟨rfl, hb4⟩; have HRN := Lib.hid (HRN.out.bl hb4); have HB4 := Lib.hid (bl_trans HB3.out hb4); have HRL := Lib.hid (HRL.out.bl hb4); clear hb4)
  clear HLV HNM HCL HB2 HB3
  go_wp2_with fail
  go_loopw [10, 11] (fun y x wr => ∃ k : Nat, k ≤ L ∧ x = .int .i64 k ∧ y = .int .u64 (clQ t v k : Nat) ∧ Hid (Below w4.heap.size w4 wr)) (fun _ x _ => L - (intOf x).toNat)
  case atStart => exact ⟨0, by omega, rfl, by rw [HC0.out]; rfl, Below.refl _ _⟩
  case round =>
    obtain ⟨k, hk, rfl, rfl, HBW⟩ := hrel
    have hcb := HCB.out k hk
    by_cases hlt : k < L
    · obtain ⟨hu, hmem, hpl, hnx⟩ := HLU.out k hlt
      have hcb1 := HCB.out (k + 1) hlt
      have HNX := Lib.hid hnx
      have hcb0 := Lib.hid hcb1
      clear hnx hcb1
      obtain ⟨bl, ol, rfl, _, hcl⟩ := rdI (HRL.out.bl HBW.out) (by rw [iN_len, ← HLL.out]; omega)
      have c1 := hcl k (by rw [iN_len, ← HLL.out]; exact hlt)
      rw [iN_get] at c1
      clear hcl
      generalize vA (lvT t) k = u at *
      obtain ⟨bn, on, rfl, _, hcn⟩ := rdNd (HA.out.bl (bl_trans HB4.out HBW.out)) (by rw [HN.out]; omega)
      have c2 := (hcn u (by rw [HN.out]; exact hu)).2
      clear hcn
      have HPL := Lib.hid (fun W (hb : Below wr.heap.size wr W) => place_any an L c3 (nS t u) (nmsL t) W HLN.out (by omega) ((HRN.out.bl HBW.out).bl hb))
      have hpe : plI (nmsL t) (nS t u) = (pl4 t u : Nat) := plI_at hmem
      rw [hpe] at HPL
      clear hpe hmem
      generalize nS t u = s at *
      generalize pl4 t u = p at *
      obtain ⟨C, hC⟩ : ∃ C, C = clQ t v k := ⟨_, rfl⟩
      rw [← hC] at hcb HNX ⊢
      clear hC
      have hp2 : 2 ^ p < 18446744073709551616 := by
        have h64 : 2 ^ p ≤ 2 ^ 63 := Nat.pow_le_pow_right (by omega) hpl
        omega
      have hpw := pow64 hpl
      have hor := bits_or hcb hp2
      obtain ⟨y, hy⟩ : ∃ y, y = 2 ^ p := ⟨_, rfl⟩
      rw [← hy] at hor HNX hpw
      clear hy hp2
      have hk64 : k < 64 := by omega
      have htb := tb_eq1 (q := k) HZB.out
      cases hb : Z.testBit k
      · rw [hb] at htb HNX
        simp only [Bool.false_eq_true, if_false] at HNX
        clear hb
        go_wp2_with fail
        go_roundw
        case rel => exact ⟨k + 1, by omega, by go_num, by rw [HNX.out], HBW⟩
        case measure => simp [intOf]; omega
      · rw [hb] at htb HNX
        simp only [if_true] at HNX
        clear hb
        go_wp2_with (go_at_call 74; refine (HPL.out _ (Below.refl _ _)).mono ?_; rintro e w7 ⟨rfl, hw7⟩; subst w7)
        go_roundw
        case rel => exact ⟨k + 1, by omega, by go_num, by rw [HNX.out], HBW⟩
        case measure => simp [intOf]; omega
    · obtain rfl : k = L := by omega
      rw [HCA.out]
      go_wp2_with fail
      go_ret
      exact ⟨rfl, bl_trans HB4.out HBW.out⟩
end Go.Proofs.YtfgkjofdgohacaaGreatDoor
namespace Go.Proofs.YtfgkjofdgohacaaGreatDoor
open Go Go.RowKit Go.Shelf Go.Maps
theorem ins_sd {S P1 P2 : List Nat} {x : Nat} (hS : S.Pairwise (· < ·)) (e : P1 ++ P2 = S) (h1 : ∀ y ∈ P1, y < x) (h2 : ∀ y ∈ P2, x < y) : P1 ++ x :: P2 = insU x S := by
  subst e
  refine sd_ext ?_ (insU_pw hS) fun z => ?_
  · rw [List.pairwise_append] at hS ⊢
    obtain ⟨a, b, c⟩ := hS
    refine ⟨a, List.pairwise_cons.2 ⟨h2, b⟩, fun u hu v hv => ?_⟩
    rcases List.mem_cons.1 hv with rfl | hv
    · exact h1 u hu
    · exact c u hu v hv
  · rw [insU_mem]; simp [or_left_comm]
theorem insU_self {S : List Nat} {x : Nat} (hS : S.Pairwise (· < ·)) (hx : x ∈ S) : insU x S = S :=
  sd_ext (insU_pw hS) hS fun z => by
    rw [insU_mem]
    constructor
    · rintro (rfl | h)
      · exact hx
      · exact h
    · exact .inr
theorem insU_len {S : List Nat} {x : Nat} (hS : S.Pairwise (· < ·)) (hx : x ∉ S) : (insU x S).length = S.length + 1 := by
  have h : (insU x S).Perm (x :: S) := by
    refine (List.perm_ext_iff_of_nodup (sd_nodup (insU_pw hS)) (List.nodup_cons.2 ⟨hx, sd_nodup hS⟩)).2 fun z => ?_
    rw [insU_mem, List.mem_cons]
  rw [h.length_eq]; rfl
theorem low_allV {P : List Nat} {y x : Nat} (h : (P ++ [y]).Pairwise (· < ·)) (hy : y < x) : ∀ z ∈ P ++ [y], z < x := by
  intro z hz
  rcases List.mem_append.1 hz with hz | hz
  · exact Nat.lt_trans ((List.pairwise_append.1 h).2.2 z hz y (by simp)) hy
  · rw [List.mem_singleton.1 hz]; exact hy
theorem fl_V1 (l : List Nat) : fl encV l = l.map fun x : Nat => Value.int .u64 (x : Int) := by
  induction l with
  | nil => rfl
  | cons x l ih => show encV x ++ fl encV l = _; rw [ih]; rfl
theorem vA_map {l : List Nat} {n t : Nat} (hl : l.length = n) (ht : t < n) : (l.map fun x : Nat => Value.int .u64 (x : Int)).getD t undef = .int .u64 (vA l t) := by
  subst hl
  simp [vA, List.getD_eq_getElem?_getD, ht]
/-- The clades of the first v nodes. -/
def clsK (t : List Nd) (v : Nat) : List Nat := sdU ((List.range v).map (cl4 t))
theorem clsK_succ (t : List Nd) (v : Nat) : clsK t (v + 1) = insU (cl4 t v) (clsK t v) := by
  unfold clsK
  rw [List.range_succ, List.map_append]
  exact sdU_snoc _ _
theorem clsK_pw (t : List Nd) (v : Nat) : (clsK t v).Pairwise (· < ·) := sdU_pw _
theorem clsK_le (t : List Nd) (v : Nat) : (clsK t v).length ≤ v := by
  have := sdU_le ((List.range v).map (cl4 t))
  rw [List.length_map, List.length_range] at this
  exact this
set_option maxRecDepth 100000 in
set_option maxHeartbeats 4000000 in
theorem rclades_any (a : Option Addr) (n c : Nat) (t : List Nd) (w : World) (hn : t.length = n) (hok : TreeOk t) (hA : Rd w a (fl encNd t)) (hS : ∀ v, v < n → (nS t v).size ≤ 9223372036854775807) :
    Calls Tryz.prog 49 #[.slice a n c] w fun e w' => ∃ v, e = .returned v ∧ w'.ownsRow w.heap.size 41 1 v (clsL t).length (fl encV (clsL t)) ∧ Below w.heap.size w w' := by
  have hn63 : n ≤ 63 := by rw [← hn]; exact hok.2.1
  have HCL := Lib.hid (fun v W (hv : v < n) (hb : Below w.heap.size w W) => rclade34_any a n c v t W hn hok hv (hA.bl hb) hS)
  have HX := Lib.hid (fun v (hv : v < n) => cl4_lt hn hok hv)
  have HL63 := Lib.hid (lvT_le63 hok)
  have HCK : Hid (clsK t n = clsL t) := by show _ = _; unfold clsK clsL; rw [hn]
  rw [← HCK.out]
  have HC0 : Hid (clsK t 0 = []) := rfl
  have HB0 := Lib.hid (Below.refl w.heap.size w)
  clear hn hA hS hok
  go_enter Tryz.func49, Tryz.ntmps49
  go_wp2_with fail
  go_loopw [3, 4] (fun y x wr => ∃ (v m cA : Nat) (A : Option Addr), v ≤ n ∧ x = .int .i64 v ∧ y = .slice A m cA ∧ m ≤ v ∧ Hid (m = (clsK t v).length) ∧ Hid (wr.ownsRow w.heap.size 41 1 (.slice A m cA) m (fl encV (clsK t v))) ∧ Hid (Below w.heap.size w wr)) (fun _ x _ => n - (intOf x).toNat)
  case atStart => exact ⟨0, 0, 0, none, by omega, rfl, rfl, by omega, by rw [HC0.out]; rfl, by rw [HC0.out]; exact World.ownsRow_nil _ _ _ _, HB0⟩
  case round =>
    clear HB0
    obtain ⟨v, m, cA, A, hv, rfl, rfl, hmv, HM, HO, HB⟩ := hrel
    by_cases hlt : v < n
    · have HNX := Lib.hid (clsK_succ t v)
      have HPW := Lib.hid (clsK_pw t v)
      have HXB : Hid (cl4 t v < 18446744073709551616) := by
        have h1 := HX.out v hlt
        have h64 : 2 ^ (lvT t).length ≤ 2 ^ 63 := Nat.pow_le_pow_right (by omega) HL63.out
        show _ < _
        omega
      have HC1 := Lib.hid (HCL.out v wr hlt HB.out)
      obtain ⟨S, hS⟩ : ∃ S, S = clsK t v := ⟨_, rfl⟩
      rw [← hS] at HM HO HNX HPW
      obtain ⟨x, hx⟩ : ∃ x, x = cl4 t v := ⟨_, rfl⟩
      rw [← hx] at HXB HC1 HNX
      clear hx hS
      go_wp2_with (go_at_call 59; refine HC1.out.mono ?_; rintro e w2 ⟨rfl, hb2⟩; have HB2 := Lib.hid (bl_trans HB.out hb2); have HO2 := Lib.hid (owns_below HO.out hb2); clear hb2)
      refine (rhas_any A m cA x S w2 HM.out.symm (by omega) (rd_of_owns HO2.out)).mono ?_
      rintro e w3 ⟨rfl, rfl⟩
      by_cases hmem : x ∈ S
      · have d1 : decide (x ∈ S) = true := decide_eq_true hmem
        have HE : Hid (clsK t (v + 1) = S) := by rw [HNX.out]; exact insU_self HPW.out hmem
        rw [d1]
        clear hmem d1
        go_wp2_with fail
        exact ⟨⟨v + 1, m, cA, A, by omega, by go_num, rfl, by omega, by rw [HE.out]; exact HM.out, by rw [HE.out]; exact HO2.out, HB2⟩, by simp [intOf]; omega⟩
      · have d1 : decide (x ∈ S) = false := decide_eq_false hmem
        have HNM := Lib.hid hmem
        have HLEN : Hid ((insU x S).length = m + 1) := by show _ = _; rw [insU_len HPW.out hmem, ← HM.out]
        rw [d1]
        clear hmem d1
        have hsz1 : w.heap.size ≤ (w3.alloc (.cells #[.int .u64 x] 41)).heap.size := (bl_alloc HB2.out _).size
        go_upto_region 8 with (at_builtin; refine push_V rfl (.tmp 19) (.tmp 21) rfl w.heap.size (.slice A m cA) S m HM.out rfl (HO2.out.alloc _) _ _ x rfl (Blk.new _ _ _) (by omega) hsz1 ?_; intro g cap w8 h1 h2 h3 h4; have H81 := Lib.hid h1; have H82 := Lib.hid (bl_grown (bl_alloc HB2.out _) h2 (fun r e => (HO2.out.lt r e).1)); clear h1 h2 h3 h4)
        have hm63 : m ≤ 62 := by omega
        have HP0 : Hid (∃ P1 P2 : List Nat, P1.length = m ∧ P1 ++ P2 = S ∧ (∀ y ∈ P2, x < y) ∧ w8.ownsRow w.heap.size 41 1 (.slice (some ⟨g, 0, none⟩) (m + 1) cap) (m + 1) (fl encV (P1 ++ x :: P2))) :=
          ⟨S, [], HM.out.symm, by simp, by simp, H81.out⟩
        have hgz : w.heap.size ≤ g := by
          obtain ⟨_, hr⟩ := H81.out
          rcases hr with ⟨hv, _⟩ | ⟨g', _, _, hv, hg, _⟩
          · cases hv
          · cases hv; exact hg
        have hw1 : IntKind.i64.wrap (((m + 1 : Nat) : Int) - 1) = (m : Int) := wrap_nat _ m (by omega) (by omega)
        clear hsz1 HB2 HO2 HC1 HO HB
        go_wp2_with fail
        go_loopw [6] (fun y wr2 => ∃ k : Nat, k ≤ m ∧ y = .int .i64 k ∧ Hid (Below w.heap.size w wr2) ∧ Hid (∃ P1 P2 : List Nat, P1.length = k ∧ P1 ++ P2 = S ∧ (∀ y ∈ P2, x < y) ∧ wr2.ownsRow w.heap.size 41 1 (.slice (some ⟨g, 0, none⟩) (m + 1) cap) (m + 1) (fl encV (P1 ++ x :: P2)))) (fun y _ => (intOf y).toNat)
        case atStart => exact ⟨m, Nat.le_refl _, rfl, H82, HP0⟩
        case round =>
          clear H81 H82 HP0
          obtain ⟨k, hk, rfl, HB, HPI⟩ := hrel
          obtain ⟨P1, P2, hk1, hki, hlow, ho⟩ := HPI.out
          have OUT : Hid ((∀ y ∈ P1, y < x) → ∀ q, ∃ (v' m' cA' : Nat) (A' : Option Addr), v' ≤ n ∧ Value.int .i64 ((v : Int) + 1) = .int .i64 (v' : Nat) ∧ Value.slice (some ⟨g, 0, none⟩) (m + 1) cap = .slice A' m' cA' ∧ m' ≤ v' ∧ Hid (m' = (clsK t v').length) ∧ Hid ((wr.drewN q).ownsRow w.heap.size 41 1 (.slice A' m' cA') m' (fl encV (clsK t v'))) ∧ Hid (Below w.heap.size w (wr.drewN q))) := fun hall q => by
            have e := ins_sd HPW.out hki hall hlow
            refine ⟨v + 1, m + 1, cap, some ⟨g, 0, none⟩, by omega, by go_num, rfl, by omega, ?_, ?_, bl_drewN HB.out q⟩
            · show _ = _
              rw [HNX.out, HLEN.out]
            · show World.ownsRow _ _ _ _ _ _ _
              rw [HNX.out, ← e]
              exact own1_drew ho q
          have hml : m = S.length := HM.out
          have hcl : (P1 ++ x :: P2).length = m + 1 := by rw [hml, ← hki]; simp; omega
          have hcs : ∀ t, t < m + 1 → wr.cell? ⟨g, t, none⟩ = some (.int .u64 (vA (P1 ++ x :: P2) t : Int)) := fun t ht => by
            have h := (own1_cells ho ht).1
            rw [h, fl_V1]
            exact congrArg some (vA_map hcl ht)
          have hfr : ∀ t, t < m + 1 → wr.frozen? ⟨g, t, none⟩ = false := fun t ht => (own1_cells ho ht).2
          have HOW := Lib.hid ho
          have HKI := Lib.hid hki
          have HLW := Lib.hid hlow
          have HK1 := Lib.hid hk1
          by_cases hk0 : 0 < k
          · obtain ⟨P0, y, rfl⟩ : ∃ P0 y, P1 = P0 ++ [y] := ⟨P1.dropLast, P1.getLast (by intro e; rw [e] at hk1; simp at hk1; omega), (List.dropLast_concat_getLast _).symm⟩
            have hp0 : P0.length = k - 1 := by simp at hk1; omega
            have HP0 := Lib.hid hp0
            have gx : vA (P0 ++ [y] ++ x :: P2) k = x := by
              rw [← hk1]
              exact getD_mid (P0 ++ [y]) P2 x 0
            have gy : vA (P0 ++ [y] ++ x :: P2) (k - 1) = y := by
              rw [← hp0]
              have := getD_mid P0 (x :: P2) y 0
              unfold vA
              rw [List.append_assoc]
              exact this
            obtain ⟨G, hG⟩ : ∃ G : Nat → Nat, ∀ t, G t = vA (P0 ++ [y] ++ x :: P2) t := ⟨_, fun _ => rfl⟩
            have hcw : ∀ t, t < m + 1 → wr.cell? ⟨g, t, none⟩ = some (.int .u64 (G t : Int)) := fun t ht => by rw [hG]; exact hcs t ht
            have HGX : Hid (G k = x) := (hG k).trans gx
            have HGY : Hid (G (k - 1) = y) := (hG (k - 1)).trans gy
            clear hG hcs gx gy hk1 hki hlow ho hcl hp0 hml
            have hkn : k < m + 1 := by omega
            have hwk : IntKind.i64.wrap ((k : Int) - 1) = ((k - 1 : Nat) : Int) := wrap_nat _ (k - 1) (by omega) (by omega)
            have hk1n : k - 1 < m + 1 := by omega
            by_cases hq : G k < G (k - 1)
            · have hb : decide ((G k : Int) < (G (k - 1) : Int)) = true := decide_eq_true (by omega)
              have hb2 : decide (G k < G (k - 1)) = true := decide_eq_true hq
              have HQ := Lib.hid hq
              clear hq
              go_wp2_with fail
              go_quiet (fail)
              go_wp2_with fail
              go_region
              all_goals go_wp2_with fail
              refine ⟨⟨k - 1, by omega, rfl, ?_, ?_⟩, by simp [intOf]; omega⟩
              · exact bl_set2 HB.out hgz
              · refine ⟨P0, y :: P2, HP0.out, ?_, ?_, ?_⟩
                · have := HKI.out; simpa using this
                · intro z hz
                  rcases List.mem_cons.1 hz with rfl | hz
                  · rw [← HGX.out, ← HGY.out]; exact HQ.out
                  · exact HLW.out z hz
                · have h := own1_swap (fun x : Nat => Value.int .u64 (x : Int)) (q := nq + 1) (P := P0) (R := P2) (a := y) (b := x) (by rw [← fl_V1]; have h := HOW.out; simpa using h)
                  rw [← fl_V1] at h
                  have e1 : P0.length + 1 = k := by rw [HP0.out]; omega
                  rw [e1, HP0.out] at h
                  rw [HGX.out, HGY.out]
                  exact h
            · have hb : decide ((G k : Int) < (G (k - 1) : Int)) = false := decide_eq_false (by omega)
              have hb2 : decide (G k < G (k - 1)) = false := decide_eq_false hq
              have HALL : Hid (∀ z ∈ P0 ++ [y], z < x) := by
                have h1 := HPW.out
                have h2 := HNM.out
                rw [← HKI.out] at h1 h2
                refine low_allV (List.pairwise_append.1 h1).1 ?_
                have h3 : y ≠ x := fun e => h2 (by rw [e]; simp)
                have h4 : ¬ x < y := by rw [← HGX.out, ← HGY.out]; exact hq
                omega
              clear hq
              go_wp2_with fail
              go_quiet (fail)
              go_wp2_with fail
              exact ⟨OUT.out HALL.out _, by simp [intOf]; omega⟩
          · have h0 : P1 = [] := List.eq_nil_of_length_eq_zero (by omega)
            subst h0
            clear hcs hfr hk1 hki hlow ho hcl HOW HLW HK1 HKI hml
            go_wp2_with fail
            go_quiet (fail)
            go_wp2_with fail
            exact ⟨OUT.out (by simp) _, by simp [intOf]; omega⟩
    · obtain rfl : v = n := by omega
      go_wp2_with fail
      go_ret
      exact ⟨_, rfl, by rw [← HM.out]; exact HO.out, HB.out⟩
end Go.Proofs.YtfgkjofdgohacaaGreatDoor
