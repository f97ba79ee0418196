/- phylo.nodes: the iterator over the nodes and their sets. -/
import Derived.Test.YtnabbmdhhddfbaaDoorC3
namespace Go.Proofs.YtnabbmdhhddfbaaDoor
open Go.RowKit Go.Shelf
attribute [local go_sem] Oper.semAt_some
/-- From block n₀ on what is cells lies as it lay. -/
def KpN (n₀ : Nat) (W W' : World) : Prop := ∀ (B : Nat) (cs : Array Value) (t : TypeId) (fr : Nat × Nat), n₀ ≤ B → W.heap[B]? = some (.cells cs t fr) → W'.heap[B]? = some (.cells cs t fr)
theorem KpN.refl (n₀ : Nat) (W : World) : KpN n₀ W W := fun _ _ _ _ _ h => h
theorem KpN.trans {n₀ : Nat} {X Y Z : World} (h : KpN n₀ X Y) (k : KpN n₀ Y Z) : KpN n₀ X Z := fun B cs t fr hB hx => k B cs t fr hB (h B cs t fr hB hx)
def encQ (x : Nat × Nat) : Array Value := #[.int .i64 (x.1 : Int), .int .u64 (x.2 : Int)]
theorem bools_made (n : Nat) : madeCells #[Value.bool false] n = ofF n (fun _ => .bool false) := by
  apply Array.ext
  · simp [madeCells, ofF]
  · intro i h1 h2
    simp [madeCells, ofF, Nat.mod_one]
theorem u64s_made (n : Nat) : madeCells #[Value.int .u64 0] n = ofF n (fun _ => .int .u64 0) := by
  apply Array.ext
  · simp [madeCells, ofF]
  · intro i h1 h2
    simp [madeCells, ofF, Nat.mod_one]
theorem info_B : (Tryd.prog.info? 4).map (fun i => (i.zero, i.size, i.bytes)) = some (some (.bool false), 1, 1) := by kernel_rfl
theorem rd_dropNd {w : World} {b o : Nat} {t : List Nd} (h : Rd w (some ⟨b, o, none⟩) (fl encNd t)) (h1 : 0 < t.length) : ∀ i, i + 1 < t.length → w.cell? ⟨b, o + 2 + i * 2, none⟩ = some (.int .i64 (nP t (i + 1))) ∧ w.cell? ⟨b, o + 2 + i * 2 + 1, none⟩ = some (.string (nS t (i + 1))) := by
  intro i hi
  obtain ⟨b', o', e, _, hc⟩ := rdNd h h1
  have e2 := Option.some.inj e
  obtain rfl := (Addr.mk.inj e2).1
  obtain rfl := (Addr.mk.inj e2).2.1
  have := hc (i + 1) hi
  rw [show o + (i + 1) * 2 = o + 2 + i * 2 by omega] at this
  exact this
set_option maxRecDepth 100000 in
set_option maxHeartbeats 4000000 in
theorem nodes1_in (m n l X n₀ c : Nat) (a : Option Addr) (t : List Nd) (hn : t.length = n) (h1 : 1 ≤ n) (h63 : n ≤ 63) (hnc : n ≤ c) (hc : c ≤ 9223372036854775807) (hP : ∀ v, 0 < v → v < n → 0 ≤ nP t v ∧ nP t v < v) (hL : (lvsL t n).length ≤ 32) (hm : 1 ≤ m) (J Jx : List (Nat × Nat) → World → Prop)
    (hAb : ∀ W W', Below W.heap.size W W' → J [] W → J [] W')
    (hY : ∀ pre (x : Nat × Nat) W, x.1 < n → x.2 < 18446744073709551616 → J pre W → pre.length < 64 → YieldAt Fence.wide (m - 1) Tryd.prog l (encQ x) W fun e W' =>
      (e = .returned (.bool true) ∧ J (pre ++ [x]) W' ∧ KpN n₀ W W') ∨ (e = .returned (.bool false) ∧ Jx (pre ++ [x]) W'))
    (W : World) (hX : W.cell? ⟨X, 0, none⟩ = some (.slice a n c)) (hXl : X < W.heap.size) (hR : Rd W a (fl encNd t)) (hn0 : n₀ ≤ W.heap.size) (h0 : J [] W) :
    CallsIn Fence.wide m Tryd.prog 71 #[.func (.yield l) #[] #[], .pointer (some ⟨X, 0, none⟩)] W fun e W' => (∃ v, e = .returned v) ∧
      ((∃ ys, ys = ndsL t n ∧ J ys W') ∨ (∃ pre, (∃ k, k < n ∧ pre = ndsL t (k + 1)) ∧ Jx pre W')) := by
  have HY := Lib.hid hY
  have HN := Lib.hid hn
  have HP := Lib.hid hP
  have HR := Lib.hid hR
  have HL := Lib.hid hL
  have HAB := Lib.hid hAb
  have HJ := Lib.hid h0
  clear hY hn hP hR hL hAb h0
  obtain ⟨i0, hi0, hz0, hz1, hz2⟩ := info_parts info_G
  have hmk := fun w => run_make (P := Tryd.prog) w 62 61 i0 _ Tryd.underlying62 hi0 hz0 .i64 .i64 (n : Int) (n : Int) (by omega) (by omega) (by rw [hz2]; omega) (by omega)
  simp only [hz1, Int.toNat_natCast, Nat.mul_one] at hmk
  clear hi0 hz0 hz1 hz2
  obtain ⟨i1, hi0, hz0, hz1, hz2⟩ := info_parts info_B
  have hmb := fun w => run_make (P := Tryd.prog) w 43 4 i1 _ Tryd.underlying43 hi0 hz0 .i64 .i64 (n : Int) (n : Int) (by omega) (by omega) (by rw [hz2]; omega) (by omega)
  simp only [hz1, Int.toNat_natCast, Nat.mul_one] at hmb
  clear hi0 hz0 hz1 hz2
  have hk1 := hmk W
  have hk2 := hmb (W.alloc (.cells (madeCells #[.int .u64 0] n) 61))
  clear hmk hmb
  refine callsIn_of_wp Tryd.func71 rfl trivial ?_ rfl
  simp only [Tryd.ntmps71, List.size_toArray, List.length_cons, List.length_nil, Nat.reduceAdd, Nat.reduceSub, Array.replicate_succ, Array.replicate_zero, List.push_toArray, List.append_toArray, List.nil_append, List.cons_append]
  refine wpIn_wide.2 ?_
  go_upto_region 3 with fail
  have hS0 := (Blk.new W (madeCells #[.int .u64 0] n) 61).alloc (.cells (madeCells #[.bool false] n) 4)
  have hI0 := Blk.new2 W (.cells (madeCells #[.int .u64 0] n) 61) (madeCells #[.bool false] n) 4
  have hB0 : Below W.heap.size W ((W.alloc (.cells (madeCells #[.int .u64 0] n) 61)).alloc (.cells (madeCells #[.bool false] n) 4)) := bl_alloc (bl_alloc (Below.refl _ _) _) _
  have hz : ((W.alloc (.cells (madeCells #[.int .u64 0] n) 61)).alloc (.cells (madeCells #[.bool false] n) 4)).heap.size = W.heap.size + 2 := by simp
  obtain ⟨w3, hw3⟩ : ∃ x, x = (W.alloc (.cells (madeCells #[.int .u64 0] n) 61)).alloc (.cells (madeCells #[.bool false] n) 4) := ⟨_, rfl⟩
  obtain ⟨g, hg⟩ : ∃ x, x = W.heap.size := ⟨_, rfl⟩
  rw [← hw3] at hS0 hI0 hB0 hz ⊢
  rw [← hg] at hS0 hI0 hz hXl hn0 ⊢
  rw [u64s_made] at hS0
  rw [bools_made] at hI0
  have HG := Lib.hid hg
  have HS0 := Lib.hid hS0
  have HI0 : Hid (Blk w3 (g + 1) (ofF n (fun v => .bool (inB t 1 v))) 4) := by
    have e : ∀ v, inB t 1 v = false := fun v => by simp [inB, kidB]
    show Blk _ _ _ _
    rw [show (fun v => Value.bool (inB t 1 v)) = fun _ => Value.bool false by funext v; rw [e]]
    exact hI0
  have HB0 := Lib.hid hB0
  have hX3 : w3.cell? ⟨X, 0, none⟩ = some (.slice a n c) := (hB0.cell (p := ⟨X, 0, none⟩) (by show X < _; omega)).trans hX
  obtain ⟨b, o, rfl, hb, _⟩ := rdNd HR.out (by rw [HN.out]; omega)
  have HDR := Lib.hid (rd_dropNd HR.out (by rw [HN.out]; omega))
  rw [← HG.out] at hb
  clear hw3 hg hS0 hI0 hB0 hk1 hk2
  have HX0 := Lib.hid hX
  clear hX
  obtain ⟨o2, ho2⟩ : ∃ o2, (2 ≤ n → o2 = o + 2) ∧ ∀ W', Sem.run Tryd.prog (Instr.slice 27 (.slice (some ⟨b, o, none⟩) n c) (some (.int .i64 1)) none none) W' = .ok (.slice (some ⟨b, o2, none⟩) (n - 1) (c - 1)) W' := by
    refine ⟨if c = 1 then o else o + 2, fun h2 => if_neg (by omega), fun W' => ?_⟩
    have hl1 : (1 : Int) ≤ (n : Int) := by omega
    by_cases q : c = 1
    · subst q
      simp [go_sem, hl1]
    · simp [go_sem, hl1, q]
  obtain ⟨ho2a, ho2b⟩ := ho2
  have HO2 := Lib.hid ho2a
  clear ho2a
  go_wp2_with fail
  go_loopw [21] (fun x wr => ∃ j : Nat, j ≤ n - 1 ∧ x = .int .i64 j ∧ Hid (Blk wr g (ofF n (fun _ => .int .u64 0)) 61) ∧ Hid (Blk wr (g + 1) (ofF n (fun v => .bool (inB t (j + 1) v))) 4) ∧ Hid (Below W.heap.size W wr)) (fun x _ => n - (intOf x).toNat)
  case atStart => exact ⟨0, by omega, rfl, HS0, HI0, HB0⟩
  case round =>
    clear HS0 HI0 HB0 hX3 hz
    obtain ⟨j, hj, rfl, hS, hI, hB⟩ := hrel
    by_cases hlt : j < n - 1
    · obtain rfl : o2 = o + 2 := HO2.out (by omega)
      obtain ⟨G0, G1⟩ := HDR.out j (by rw [HN.out]; omega)
      have G0' := (hB.out.cell (p := ⟨b, o + 2 + j * 2, none⟩) (by rw [← HG.out]; exact hb)).trans G0
      have G1' := (hB.out.cell (p := ⟨b, o + 2 + j * 2 + 1, none⟩) (by rw [← HG.out]; exact hb)).trans G1
      obtain ⟨hp0, hpn⟩ := HP.out (j + 1) (by omega) (by omega)
      have hsn : Hid (∀ v, inB t (j + 2) v = (inB t (j + 1) v || (decide (0 < j + 1) && decide (nP t (j + 1) = (v : Int))))) := fun v => inB_succ t (j + 1) v
      clear G0 G1
      generalize nS t (j + 1) = s at *
      obtain ⟨p, hp⟩ : ∃ p : Nat, nP t (j + 1) = p := ⟨(nP t (j + 1)).toNat, by omega⟩
      rw [hp] at G0' hp0 hpn hsn
      have hpn' : p < n := by omega
      have hgI : Hid (g + 1 < wr.heap.size) := hI.out.lt
      have HI2 := Lib.hid (hI.out.alloc (.cells #[.int .i64 p, .string s] 60))
      have c3 : (wr.alloc (.cells #[.int .i64 p, .string s] 60)).cell? ⟨g + 1, p, none⟩ = some (.bool (inB t (j + 1) p)) := HI2.out.getF p hpn'
      have f3 : (wr.alloc (.cells #[.int .i64 p, .string s] 60)).frozen? ⟨g + 1, p, none⟩ = false := HI2.out.free p
      have hne : ¬ (g + 1 = wr.heap.size) := by have := hgI.out; omega
      clear hp hp0 hpn
      go_wp2_with fail
      have HI3 := Lib.hid (HI2.out.setF p (.bool true))
      have HS3 := Lib.hid ((hS.out.alloc (.cells #[.int .i64 p, .string s] 60)).other (show g ≠ g + 1 by omega) p (.bool true))
      have HB3 := Lib.hid (bl_set (bl_alloc hB.out (.cells #[.int .i64 p, .string s] 60)) (g + 1) p none (.bool true) (by rw [← HG.out]; omega))
      have hfn : (fun i => if i = p then Value.bool true else Value.bool (inB t (j + 1) i)) = fun v => Value.bool (inB t (j + 2) v) := by
        funext v
        rw [hsn.out]
        by_cases e : v = p
        · subst e; simp
        · rw [if_neg e, decide_eq_false (show ¬ ((p : Int) = (v : Int)) by omega)]; simp
      rw [hfn] at HI3
      clear hfn
      go_roundw
      case rel => exact ⟨j + 1, by omega, by go_num, HS3, HI3, HB3⟩
      case measure => simp [intOf]; omega
    · have hj2 : j = n - 1 := by omega
      have hI2 : Hid (Blk wr (g + 1) (ofF n (fun v => .bool (inB t n v))) 4) := by
        have h := hI.out
        rw [hj2, Nat.sub_add_cancel h1] at h
        exact h
      have d1 : decide (j < n - 1) = false := by simpa using hlt
      have hX3 : wr.cell? ⟨X, 0, none⟩ = some (.slice (some ⟨b, o, none⟩) n c) := (hB.out.cell (p := ⟨X, 0, none⟩) (by rw [← HG.out]; exact hXl)).trans HX0.out
      clear hI hj2 ho2b HO2 HDR
      go_wp2_with fail
      obtain ⟨wo, rfl⟩ : ∃ x : World, x = wr := ⟨_, rfl⟩
      have hS0' : Hid (Blk wo g (ofF n (fun v => .int .u64 ((if v < 0 then botS t v else 0 : Nat) : Int))) 61) := by
        show Blk _ _ _ _
        simp only [Nat.not_lt_zero, if_false]
        exact hS.out
      go_loopw [32, 4] (fun x y wr => ∃ k : Nat, k ≤ n ∧ x = .int .i64 k ∧ y = .int .u64 ((2 ^ (lvsL t k).length : Nat) : Int) ∧ Hid (Blk wr g (ofF n (fun v => .int .u64 ((if v < k then botS t v else 0 : Nat) : Int))) 61) ∧ Hid (Blk wr (g + 1) (ofF n (fun v => .bool (inB t n v))) 4) ∧ Hid (Below W.heap.size W wr)) (fun x _ _ => n - (intOf x).toNat)
      case atStart => exact ⟨0, by omega, rfl, rfl, hS0', hI2, hB⟩
      case round =>
        clear hS hS0' hI2 hB hX3
        obtain ⟨k, hk, rfl, rfl, hS, hI, hB⟩ := hrel
        have hX3 : wr.cell? ⟨X, 0, none⟩ = some (.slice (some ⟨b, o, none⟩) n c) := (hB.out.cell (p := ⟨X, 0, none⟩) (by rw [← HG.out]; exact hXl)).trans HX0.out
        by_cases hlt2 : k < n
        · have c3 : wr.cell? ⟨g + 1, k, none⟩ = some (.bool (inB t n k)) := hI.out.getF k hlt2
          have hlb : leafB t k = !inB t n k := by rw [← HN.out]; exact leafB_in t k
          have hsn := Lib.hid (lvsL_snoc t k)
          have hbt : Hid (botS t k = if leafB t k then 2 ^ (lvsL t k).length else 0) := rfl
          have hq := lvsL_mono t (show k ≤ n from hk)
          have hq32 : (lvsL t k).length ≤ 32 := by have := HL.out; omega
          have hle : Hid (leafB t k = true → (lvsL t k).length + 1 ≤ 32) := fun hh => by
            have h1 := lvsL_mono t (show k + 1 ≤ n from hlt2)
            rw [hsn.out, if_pos hh, List.length_append] at h1
            have := HL.out
            simp at h1
            omega
          have hlen : Hid ((lvsL t (k + 1)).length = (lvsL t k).length + if leafB t k then 1 else 0) := by
            show _ = _
            rw [hsn.out, List.length_append]; split <;> rfl
          have c4 : wr.cell? ⟨g, k, none⟩ = some (.int .u64 ((if k < k then botS t k else 0 : Nat) : Int)) := hS.out.getF k hlt2
          have f4 : wr.frozen? ⟨g, k, none⟩ = false := hS.out.free k
          clear hq
          generalize (lvsL t k).length = q at *
          rw [if_neg (by omega)] at c4
          obtain ⟨bi, hbi⟩ : ∃ x, inB t n k = x := ⟨_, rfl⟩
          rw [hbi] at c3 hlb
          rw [hlb] at hbt hle hlen
          clear hbi hlb hsn
          cases bi with
          | true =>
            have hb0 : Hid (botS t k = 0) := hbt.out
            have hfn : (fun v => Value.int .u64 ((if v < k + 1 then botS t v else 0 : Nat) : Int)) = fun v => Value.int .u64 ((if v < k then botS t v else 0 : Nat) : Int) := by
              funext v
              by_cases e : v = k
              · subst e; rw [if_pos (by omega), if_neg (by omega), hb0.out]
              · by_cases e2 : v < k
                · rw [if_pos (by omega), if_pos e2]
                · rw [if_neg (by omega), if_neg e2]
            have HFN := Lib.hid hfn
            have hl2 : Hid ((lvsL t (k + 1)).length = q) := hlen.out
            clear hfn
            go_wp2_with fail
            go_roundw
            case rel => exact ⟨k + 1, by omega, by go_num, by rw [hl2.out], by rw [HFN.out]; exact hS, hI, hB⟩
            case measure => simp [intOf]; omega
          | false =>
            have hle2 : q + 1 ≤ 32 := hle.out rfl
            have hb0 : Hid (botS t k = 2 ^ q) := hbt.out
            have hl2 : Hid ((lvsL t (k + 1)).length = q + 1) := hlen.out
            have hp2 : 2 ^ q ≤ 4294967296 := Nat.pow_le_pow_right (n := 2) (by omega) (show q ≤ 32 by omega)
            have e1 : ((2 : Int) ^ q) = ((2 ^ q : Nat) : Int) := by simp
            have hE2 : Hid (IntKind.u64.wrap (2 ^ q * 2) = ((2 ^ (q + 1) : Nat) : Int)) := by
              show _ = _
              rw [e1, show ((2 ^ q : Nat) : Int) * 2 = ((2 ^ (q + 1) : Nat) : Int) by rw [Nat.pow_succ]; simp, w64 _ (by rw [Nat.pow_succ]; omega)]
            have hE1 := Lib.hid e1
            clear e1
            go_wp2_with fail
            have hfn : (fun i => if i = k then Value.int .u64 (2 ^ q) else Value.int .u64 ((if i < k then botS t i else 0 : Nat) : Int)) = fun v => Value.int .u64 ((if v < k + 1 then botS t v else 0 : Nat) : Int) := by
              funext v
              by_cases e : v = k
              · subst e; rw [if_pos rfl, if_pos (by omega), hb0.out, hE1.out]
              · by_cases e2 : v < k
                · rw [if_neg e, if_pos e2, if_pos (by omega)]
                · rw [if_neg e, if_neg e2, if_neg (by omega)]
            have HS2 := Lib.hid (hS.out.setF k (.int .u64 (2 ^ q)))
            rw [hfn] at HS2
            have HI2 := Lib.hid (hI.out.other (show g + 1 ≠ g by omega) k (.int .u64 (2 ^ q)))
            have HB2 := Lib.hid (bl_set hB.out g k none (.int .u64 (2 ^ q)) (by rw [← HG.out]; exact Nat.le_refl _))
            clear hfn
            go_roundw
            case rel => exact ⟨k + 1, by omega, by go_num, by rw [hl2.out, hE2.out], HS2, HI2, HB2⟩
            case measure => simp [intOf]; omega
        · obtain rfl : n = k := by omega
          have hS2 : Hid (Blk wr g (ofF n (fun v => .int .u64 (upS t 0 v : Nat))) 61) := by
            show Blk _ _ _ _
            have e : ofF n (fun v => Value.int .u64 ((if v < n then botS t v else 0 : Nat) : Int)) = ofF n (fun v => Value.int .u64 (upS t 0 v : Nat)) := ofF_congr fun i hi => by rw [if_pos hi]; rfl
            rw [← e]; exact hS.out
          have e9 : ((n : Int) - 1) = ((n - 1 : Nat) : Int) := by omega
          have E9 := Lib.hid e9
          have hup : Hid (∀ j v, v < n → upS t j v < 18446744073709551616) := fun j v hv => Nat.lt_of_lt_of_le (upS_lt (n := 32) (by rw [HN.out]; exact HL.out) j v (by rw [HN.out]; exact hv)) (by decide)
          clear hS hI e9 hlt2 hlt hj d1
          obtain ⟨lf, hlf⟩ : ∃ z : Int, ((2 ^ (lvsL t n).length : Nat) : Int) = z := ⟨_, rfl⟩
          rw [hlf]
          clear hlf
          go_upto_region 16 with fail
          rw [E9.out]
          obtain ⟨wp, rfl⟩ : ∃ x : World, x = wr := ⟨_, rfl⟩
          go_loopw [9] (fun x wr => ∃ i : Nat, i ≤ n - 1 ∧ x = .int .i64 i ∧ Hid (Blk wr g (ofF n (fun v => .int .u64 (upS t (n - 1 - i) v : Nat))) 61) ∧ Hid (Below W.heap.size W wr)) (fun x _ => (intOf x).toNat)
          case atStart => exact ⟨n - 1, by omega, rfl, by rw [Nat.sub_self]; exact hS2, hB⟩
          case round =>
            clear hS2 hB hX3
            obtain ⟨i, hi, rfl, hS, hB⟩ := hrel
            have hX3 : wr.cell? ⟨X, 0, none⟩ = some (.slice (some ⟨b, o, none⟩) n c) := (hB.out.cell (p := ⟨X, 0, none⟩) (by rw [← HG.out]; exact hXl)).trans HX0.out
            by_cases hi0 : 0 < i
            · have d1 : decide (0 < i) = true := by simpa using hi0
              obtain ⟨b', o', e', _, hc'⟩ := rdNd HR.out (by rw [HN.out]; omega)
              have G := (hc' i (by rw [HN.out]; omega)).1
              obtain rfl := (Addr.mk.inj (Option.some.inj e')).1
              obtain rfl := (Addr.mk.inj (Option.some.inj e')).2.1
              have G' := (hB.out.cell (p := ⟨b, o + i * 2, none⟩) (by rw [← HG.out]; exact hb)).trans G
              obtain ⟨hp0, hpn⟩ := HP.out i hi0 (by omega)
              obtain ⟨p, hp⟩ : ∃ p : Nat, nP t i = p := ⟨(nP t i).toNat, by omega⟩
              rw [hp] at G' hp0 hpn
              have hpn' : p < n := by omega
              have hin : i < n := by omega
              obtain ⟨j, hj⟩ : ∃ j, n - 1 - i = j := ⟨_, rfl⟩
              have hji : n - 1 - j = i := by omega
              have hj1 : n - 1 - (i - 1) = j + 1 := by omega
              rw [hj] at hS
              have c1 : wr.cell? ⟨g, p, none⟩ = some (.int .u64 (upS t j p : Nat)) := hS.out.getF p hpn'
              have c2 : wr.cell? ⟨g, i, none⟩ = some (.int .u64 (upS t j i : Nat)) := hS.out.getF i hin
              have hx := hup.out j p hpn'
              have hy := hup.out j i hin
              have hbo := bits_or hx hy
              have HST : Hid (∀ v, upS t (j + 1) v = if (p : Int) = (v : Int) then upS t j v ||| upS t j i else upS t j v) := fun v => by rw [upS, HN.out, hji, hp]
              have HJ1 := Lib.hid hj1
              have hf4 : ∀ q, (wr.drewN q).frozen? ⟨g, p, none⟩ = false := fun q => hS.out.free p
              have HBO := Lib.hid hbo
              clear hc' e' G hp hp0 hpn hj hji hj1 hx hy hbo
              obtain ⟨A, hA⟩ : ∃ A, upS t j p = A := ⟨_, rfl⟩
              obtain ⟨B, hB2⟩ : ∃ B, upS t j i = B := ⟨_, rfl⟩
              rw [hA] at c1
              rw [hB2] at c2
              rw [hA, hB2] at HBO
              have HA := Lib.hid hA
              have HB2 := Lib.hid hB2
              clear hA hB2
              go_upto_region 18 with fail
              refine wp_quiet_tail_lit 14 (by kernel_rfl) (by kernel_rfl) ?_
              simp only [List.take_succ_cons, List.take_zero, List.drop_succ_cons, List.drop_zero]
              repeat (go_big_quiet_step (fail))
              refine wpQuiet_nil ?_
              intro _ hw'
              obtain ⟨nq, hw''⟩ := hw'
              subst hw''
              rw [HBO.out]
              have hfq := hf4 nq
              clear hf4
              go_wp2_with fail
              have hfn : (fun v => if v = p then Value.int .u64 ((A ||| B : Nat) : Int) else Value.int .u64 (upS t j v : Nat)) = fun v => Value.int .u64 (upS t (j + 1) v : Nat) := by
                funext v
                rw [HST.out]
                by_cases e : v = p
                · subst e; rw [if_pos rfl, if_pos rfl, HA.out, HB2.out]
                · rw [if_neg e, if_neg (by omega)]
              have HS2 := Lib.hid ((hS.out.drewN nq).setF p (.int .u64 ((A ||| B : Nat) : Int)))
              rw [hfn] at HS2
              have HB3 := Lib.hid (bl_set (bl_drewN hB.out nq) g p none (.int .u64 ((A ||| B : Nat) : Int)) (by rw [← HG.out]; exact Nat.le_refl _))
              clear hfn hfq
              go_roundw
              case rel => exact ⟨i - 1, by omega, by go_num, by rw [HJ1.out]; exact HS2, HB3⟩
              case measure => simp [intOf]; omega
            · have d1 : decide (0 < i) = false := by simpa using hi0
              have hS9 : Hid (Blk wr g (ofF n (fun v => .int .u64 (cl t v : Nat))) 61) := by
                have h := hS.out
                obtain rfl : i = 0 := by omega
                rw [Nat.sub_zero] at h
                show Blk _ _ _ _
                unfold cl
                rw [HN.out]; exact h
              have hcl : Hid (∀ v, v < n → cl t v < 18446744073709551616) := fun v hv => by
                have := hup.out (t.length - 1) v hv
                exact this
              clear hS hup
              go_upto_region 20 with fail
              refine (wpIn_wide (n := m)).1 ?_
              have hJ0 := HAB.out W wr hB.out HJ.out
              clear E9 hi hi0 d1 hX3
              obtain ⟨wp4, rfl⟩ : ∃ x : World, x = wr := ⟨_, rfl⟩
              gi_loopw [70] (fun x wx => ∃ k : Nat, k ≤ n ∧ x = .int .i64 k ∧ J (ndsL t k) wx ∧ Hid (Blk wx g (ofF n (fun v => .int .u64 (cl t v : Nat))) 61)) (fun x _ => n - (intOf x).toNat)
              case atStart => exact ⟨0, by omega, rfl, hJ0, hS9⟩
              case round =>
                clear hS9 hJ0 hB
                obtain ⟨k, hk, rfl, hJ, hS⟩ := hrel
                by_cases hlt : k < n
                · have c1 : wr.cell? ⟨g, k, none⟩ = some (.int .u64 (cl t k : Nat)) := hS.out.getF k hlt
                  obtain ⟨fn, tmps, assign, body, hy, hR2⟩ := HY.out (ndsL t k) (k, cl t k) wr hlt (hcl.out k hlt) hJ (by rw [ndsL_len]; omega)
                  dsimp only [encQ] at hy
                  have HNX := Lib.hid (ndsL_snoc t k)
                  gi_wp2
                  refine hR2.mono ?_
                  rintro e W3 (⟨rfl, hJ3, hk3⟩ | ⟨rfl, hJx3⟩)
                  · rw [← HNX.out] at hJ3
                    have hS3 := Lib.hid (hk3 g _ _ _ hn0 hS.out)
                    gi_wp2
                    go_roundw
                    case rel => exact ⟨k + 1, by omega, by go_num, hJ3, hS3⟩
                    case measure => simp [intOf]; omega
                  · gi_wp2
                    refine bodyPost_ret (results_none rfl _ _ _) rfl ?_
                    exact ⟨⟨_, rfl⟩, .inr ⟨_, ⟨k, hlt, by rw [HNX.out]⟩, hJx3⟩⟩
                · obtain rfl : k = n := by omega
                  gi_wp2
                  go_end0
                  exact ⟨⟨_, rfl⟩, .inl ⟨_, rfl, hJ⟩⟩
/-- A node's number and a set. -/
abbrev NQ (n : Nat) := Fin n × U64
def qN {n : Nat} (x : NQ n) : Nat × Nat := (x.1.val, x.2.val)
/-- The iterator keeps its word. -/
theorem nodes_stops (m n X n₀ c : Nat) (a : Option Addr) (t : List Nd) (w : World) (hn : t.length = n) (h1 : 1 ≤ n) (h63 : n ≤ 63) (hnc : n ≤ c) (hc : c ≤ 9223372036854775807) (hP : ∀ v, 0 < v → v < n → 0 ≤ nP t v ∧ nP t v < v) (hL : (lvsL t n).length ≤ 32) (hm : 1 ≤ m)
    (hX : w.cell? ⟨X, 0, none⟩ = some (.slice a n c)) (hXl : X < w.heap.size) (hR : Rd w a (fl encNd t)) (hn0 : n₀ ≤ w.heap.size) :
    SeqStopsK Fence.wide m Tryd.prog 71 #[.pointer (some ⟨X, 0, none⟩)] (fun x : NQ n => encQ (qN x)) (KpN n₀) (fun ys => ys.map qN = ndsL t n) (fun ys => ∃ k, k < n ∧ ys.map qN = ndsL t (k + 1)) 64 w := fun l J Jx W hW hA _ hY h0 => by
  refine (nodes1_in m n l X n₀ c a t hn h1 h63 hnc hc hP hL hm (fun l W => ∃ ys : List (NQ n), ys.map qN = l ∧ J ys W) (fun l W => ∃ ys : List (NQ n), ys.map qN = l ∧ Jx ys W) ?_ ?_ W ((hW.cell (p := ⟨X, 0, none⟩) hXl).trans hX) (Nat.lt_of_lt_of_le hXl hW.size) (hR.bl hW) (Nat.le_trans hn0 hW.size) ⟨[], rfl, h0⟩).mono ?_
  · rintro W1 W2 hb ⟨ys, hy, hJ⟩
    exact ⟨ys, hy, hA ys W1 W2 none hJ ⟨hb.os, hb.tape, hb.output, hb.size, fun k hk _ => hb.block k hk⟩ (fun r e => by cases e)⟩
  · rintro pre ⟨x, y⟩ W1 hx hy ⟨ys, rfl, hJ⟩ hl
    obtain ⟨fn, tmps, assign, body, hy1, hR⟩ := hY ys (⟨x, hx⟩, ⟨y, hy⟩) W1 hJ (by rwa [List.length_map] at hl)
    refine ⟨fn, tmps, assign, body, hy1, hR.mono ?_⟩
    rintro e W' (⟨he, hJ', hk⟩ | ⟨he, hJx⟩)
    · exact .inl ⟨he, ⟨_, by rw [List.map_append]; rfl, hJ'⟩, hk⟩
    · exact .inr ⟨he, _, by rw [List.map_append]; rfl, hJx⟩
  · rintro e W' ⟨he, ⟨ys, rfl, zs, hz, hJ⟩ | ⟨pre, ⟨k, hk, rfl⟩, zs, hz, hJx⟩⟩
    · exact ⟨he, .inl ⟨zs, hz, hJ⟩⟩
    · exact ⟨he, .inr ⟨zs, ⟨k, hk, hz⟩, hJx⟩⟩
theorem nodes_any (a : Option Addr) (n c : Nat) (w : World) :
    Calls Tryd.prog 50 #[.slice a n c] w fun e w' => e = .returned (.func (.func 71) #[] #[.pointer (some ⟨w.heap.size, 0, none⟩)]) ∧ w' = w.alloc (.cells #[.slice a n c] 27) := by
  go_enter Tryd.func50, Tryd.ntmps50
  go_wp2
  go_ret
  exact ⟨rfl, rfl⟩
end Go.Proofs.YtnabbmdhhddfbaaDoor
