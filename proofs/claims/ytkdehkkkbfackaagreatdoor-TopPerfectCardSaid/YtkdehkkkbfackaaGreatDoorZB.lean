/- phylo.groups: the walk. phylo.Groups. The groups of the document, by insertion, are those of the program, sorted: plain. The first conflict of a table, in the program and in the document. A drawn region: reads first, then operations that keep a condition, of which two at a time may come up; then the forced end. The tree of a table: plain; the closure that adds a node. tree: letters, names; maps of the call's own with strings as keys; tree.Check at every list of nodes. slices.IndexFunc and ContainsFunc of ints; phylo.Largest's test and its recursive closure. tree: the children of all nodes, the leaves; rows in blocks of their own. tree.Leaves; phylo.check. -/
import Derived.Test.YtkdehkkkbfackaaGreatDoorZA
import Derived.Test.YtkdehkkkbfackaaGreatDoorProg
import Derived.Maps.OwnOps
import Derived.Maps.OwnSet
import Derived.Maps.Views
import Derived.Carry
import Derived.StringKeys
namespace Go.Proofs.YtkdehkkkbfackaaGreatDoor
open Go.RowKit Go.Shelf Go.Sort
/-- The groups in order, each once. -/
def grpsU (L : Nat) (l : List Nat) : List U64 := cmpU (srtU (toU (grpL L l l.length)).toArray)
theorem grpsU_nil {L : Nat} {l : List Nat} (h : grpL L l l.length = []) : grpsU L l = [] := by
  unfold grpsU
  rw [h]
  have h1 := cmpU_le (srtU (toU []).toArray)
  rw [srtU_size] at h1
  exact List.eq_nil_of_length_eq_zero (Nat.le_zero.1 h1)
theorem grpL_lt {L : Nat} {l : List Nat} (hF : ∀ i, i < l.length → vA l i < 18446744073709551616) (k : Nat) : ∀ x, x ∈ grpL L l k → x < 18446744073709551616 := by
  intro x hx
  have h1 : x ∈ l := List.mem_of_mem_take (List.mem_filter.1 hx).1
  obtain ⟨i, hi, rfl⟩ := List.mem_iff_getElem.1 h1
  have := hF i hi
  rwa [vA_get hi] at this
set_option maxHeartbeats 1000000 in
theorem compact_none (p : Option Addr) (cap : Nat) (w : World) :
    Calls Tryz.prog 24 #[.slice p 0 cap] w fun e w' => e = .returned (.slice p 0 cap) ∧ w' = w := by
  go_enter Tryz.func24, Tryz.ntmps24
  go_wp2_with fail
  go_ret
  exact ⟨rfl, rfl⟩
set_option maxRecDepth 100000 in
set_option maxHeartbeats 2000000 in
theorem groups_any (L : Nat) (a : Option Addr) (N c : Nat) (l : List Nat) (w : World) (hl : l.length = N) (hN : N ≤ 64) (hL : L ≤ 32) (hA : Rd w a (fl encV l)) (hF : ∀ i, i < l.length → vA l i < 18446744073709551616) :
    Calls Tryz.prog 10 #[.agg #[.int .i64 L, .slice a N c]] w fun e w' => ∃ v', e = .returned v' ∧ w'.ownsRow w.heap.size 41 1 v' (grpsU L l).length ((grpsU L l).map encU) ∧ Below w.heap.size w w' := by
  have HL := Lib.hid hl
  have HF := Lib.hid hF
  have HW := Lib.hid (wrap_all hL)
  have hB := Blk.new w #[.int .i64 L, .slice a N c] 24
  have hb0 : Below w.heap.size w (w.alloc (.cells #[.int .i64 L, .slice a N c] 24)) := bl_alloc (Below.refl _ _) _
  have e0 := hB.cell 0
  have e1 := hB.cell 1
  obtain ⟨X, hX⟩ : ∃ X, X = w.heap.size := ⟨_, rfl⟩
  obtain ⟨w1, hw1⟩ : ∃ w1, w1 = w.alloc (.cells #[.int .i64 L, .slice a N c] 24) := ⟨_, rfl⟩
  rw [← hw1] at e0 e1 hb0 hB
  have HA1 := Lib.hid (hA.bl hb0)
  rw [← hX] at e0 e1 hB
  have e0' : w1.cell? ⟨X, 0, none⟩ = some (.int .i64 L) := e0
  have e1' : w1.cell? ⟨X, 1, none⟩ = some (.slice a N c) := e1
  have HBX := Lib.hid hB
  have HB0 := Lib.hid hb0
  clear hB e0 e1 hb0 hl hF hA
  go_enter Tryz.func10, Tryz.ntmps10
  go_upto_region 1 with fail
  rw [← hw1, ← hX]
  clear hw1
  have HXS := Lib.hid hX
  clear hX
  go_upto_region 2 with fail
  rw [HW.out]
  go_wp2_with fail
  go_loopw [15, 4] (fun x v wr => ∃ k : Nat, k ≤ N ∧ x = .int .i64 k ∧ wr.ownsRow w1.heap.size 41 1 v (grpL L l k).length (fl encV (grpL L l k)) ∧ Below w1.heap.size w1 wr) (fun x _ _ => N - (intOf x).toNat)
  case atStart => exact ⟨0, by omega, rfl, World.ownsRow_nil _ _ _ _, Below.refl _ _⟩
  case round =>
    obtain ⟨k, hk, rfl, how, hbw⟩ := hrel
    by_cases hlt : k < N
    · obtain ⟨b, o, rfl, hb, hc⟩ := rdV (HA1.out.bl hbw) (by rw [HL.out]; omega)
      have hkl : k < l.length := by rw [HL.out]; exact hlt
      have G1 := hc k hkl
      have hxb := HF.out k hkl
      have HSN := Lib.hid (grpL_snoc L l k hkl)
      have HLB := Lib.hid (lowOff_bits hxb)
      have hdef : Hid (grpB L l (vA l k) = ((!decide (lowOff (vA l k) = 0) && !decide (vA l k = 2 ^ L - 1)) && !(l.any fun o => !fitB (vA l k) o))) := rfl
      have HOW := Lib.hid how
      have HBW := Lib.hid hbw
      have hBXr := HBX.out.below hbw
      have f0 : wr.cell? ⟨X, 0, none⟩ = some (.int .i64 L) := hBXr.cell 0
      have f1 : wr.cell? ⟨X, 1, none⟩ = some (.slice (some ⟨b, o, none⟩) N c) := hBXr.cell 1
      clear hc hkl how hbw hBXr e0' e1'
      generalize vA l k = z at *
      have HBz := Lib.hid (Blk.new wr #[.int .u64 z] 41)
      have HRz := Lib.hid ((HA1.out.bl HBW.out).bl (bl_alloc (Below.refl wr.heap.size wr) (.cells #[.int .u64 z] 41)))
      have HC := Lib.hid (containsF_any 21 (enters_of Tryz.func21 (by kernel_rfl) rfl) #[.pointer (some ⟨wr.heap.size, 0, none⟩)] (fun o => !fitB z o) (some ⟨b, o, none⟩) N c l (wr.alloc (.cells #[.int .u64 z] 41)) HL.out (by omega) HRz.out (fun i hi W hW => (grp1_any z (vA l i) wr.heap.size W hxb (HF.out i (by rw [HL.out]; exact hi)) (HBz.out.below hW)).mono fun e w' hh => ⟨hh.1, by rw [hh.2]; exact Below.refl _ _⟩))
      have HBN := Lib.hid (bl_alloc HBW.out (.cells #[.int .u64 z] 41))
      have HON := Lib.hid (HOW.out.alloc (.cells #[.int .u64 z] 41))
      by_cases q1 : lowOff z = 0
      · have hg : Hid (grpL L l (k + 1) = grpL L l k) := by show _ = _; rw [HSN.out, hdef.out, decide_eq_true q1]; simp
        have h0 : bits .and .u64 (z : Int) (IntKind.u64.wrap ((z : Int) - 1)) = 0 := by rw [HLB.out, q1]; rfl
        clear q1
        go_wp2_with fail
        go_roundw
        case rel => exact ⟨k + 1, by omega, by go_num, by rw [hg.out]; exact HON.out, HBN.out⟩
        case measure => simp [intOf]; omega
      · have hq1 := decide_eq_false q1
        have h0 : ¬ (bits .and .u64 (z : Int) (IntKind.u64.wrap ((z : Int) - 1)) = 0) := by rw [HLB.out]; omega
        have HQ1 := Lib.hid hq1
        clear q1 hq1
        by_cases q2 : z = 2 ^ L - 1
        · have hg : Hid (grpL L l (k + 1) = grpL L l k) := by show _ = _; rw [HSN.out, hdef.out, HQ1.out, decide_eq_true q2]; simp
          obtain ⟨al, hal⟩ : ∃ al, 2 ^ L - 1 = al := ⟨_, rfl⟩
          rw [hal] at q2
          rw [hal]
          clear hal hdef
          subst q2
          go_wp2_with fail
          go_roundw
          case rel => exact ⟨k + 1, by omega, by go_num, by rw [hg.out]; exact HON.out, HBN.out⟩
          case measure => simp [intOf]; omega
        · obtain ⟨al, hal⟩ : ∃ al, 2 ^ L - 1 = al := ⟨_, rfl⟩
          rw [hal] at q2 hdef
          rw [hal]
          have h1 : ¬ ((z : Int) = (al : Int)) := by omega
          have hq2 := Lib.hid (decide_eq_false q2)
          have b1 : (bits .and .u64 (z : Int) (IntKind.u64.wrap ((z : Int) - 1)) != 0) = true := bne_iff_ne.2 h0
          have b2 : ((z : Int) != (al : Int)) = true := bne_iff_ne.2 h1
          have f1' : (wr.alloc (.cells #[.int .u64 z] 41)).cell? ⟨X, 1, none⟩ = some (.slice (some ⟨b, o, none⟩) N c) := (HBX.out.below HBN.out).cell 1
          have fz : (wr.alloc (.cells #[.int .u64 z] 41)).cell? ⟨wr.heap.size, 0, none⟩ = some (.int .u64 z) := HBz.out.cell 0
          clear h0 h1
          clear hal q2
          cases hs : l.any (fun o => !fitB z o) with
          | true =>
            have hg : Hid (grpL L l (k + 1) = grpL L l k) := by show _ = _; rw [HSN.out, hdef.out, hs]; simp
            rw [hs] at HC
            clear hs
            go_wp2_with fail
            refine (HC.out).mono ?_
            rintro e w' ⟨rfl, hw'⟩
            have HBM := bl_trans HBN.out hw'
            have HOM := owns_below HON.out hw'
            go_wp2_with fail
            go_roundw
            case rel => exact ⟨k + 1, by omega, by go_num, by rw [hg.out]; exact HOM, HBM⟩
            case measure => simp [intOf]; omega
          | false =>
            have hg : Hid (grpL L l (k + 1) = grpL L l k ++ [z]) := by show _ = _; rw [HSN.out, hdef.out, hs, HQ1.out, hq2.out]; simp
            have hlen : (grpL L l k).length < 8796093022208 := by
              have : (grpL L l k).length ≤ (l.take k).length := List.length_filter_le _ _
              rw [List.length_take] at this; omega
            rw [hs] at HC
            clear hs
            go_wp2_with fail
            refine (HC.out).mono ?_
            rintro e w' ⟨rfl, hw'⟩
            have HBM := Lib.hid (bl_trans HBN.out hw')
            have HOM := Lib.hid (owns_below HON.out hw')
            have fz' : w'.cell? ⟨wr.heap.size, 0, none⟩ = some (.int .u64 z) := (HBz.out.below hw').cell 0
            clear fz f1'
            have hbase : w1.heap.size ≤ (w'.alloc (.cells #[.int .u64 z] 41)).heap.size := (bl_alloc HBM.out _).size
            obtain ⟨n, hn⟩ : ∃ n, n = (grpL L l k).length := ⟨_, rfl⟩
            rw [← hn] at HOM hlen
            have HN := Lib.hid hn
            clear hn
            go_wp2_with (at_builtin; refine push_G rfl (.tmp 37) (.tmp 39) rfl w1.heap.size u4 (grpL L l k) n HN.out rfl (HOM.out.alloc _) _ _ z rfl (Blk.new _ _ _) hlen hbase ?_; intro g cap w8 h81 h82 h83 h84; rw [← hg.out] at h81; have H81 := Lib.hid h81; have H82 := Lib.hid h82; have H83 := Lib.hid h83; clear h81 h82 h83)
            have hlen2 : Hid ((grpL L l (k + 1)).length = n + 1) := by show _ = _; rw [hg.out, List.length_append, HN.out]; rfl
            have HB8 := Lib.hid (bl_grown (bl_alloc HBM.out (.cells #[.int .u64 z] 41)) H82.out (fun x e => (HOM.out.lt x e).1))
            go_roundw
            case rel => exact ⟨k + 1, by omega, by go_num, by rw [hlen2.out]; exact H81.out, HB8.out⟩
            case measure => simp [intOf]; omega
    · have e : k = N := by omega
      subst e
      have hlt' := grpL_lt (L := L) HF.out k
      have henc := toU_enc hlt'
      have hk0 : Hid (grpsU L l = cmpU (srtU (toU (grpL L l k)).toArray)) := by show _ = _; unfold grpsU; rw [HL.out]
      have hnil : Hid (grpL L l k = [] → grpsU L l = []) := fun h => grpsU_nil (by rw [HL.out]; exact h)
      have hle : (grpL L l k).length < 4611686018427387904 := by
        have : (grpL L l k).length ≤ (l.take k).length := List.length_filter_le _ _
        rw [List.length_take] at this; omega
      have hsz0 := HB0.out.size
      obtain ⟨A, cap, rfl, hAc⟩ := owns_slice how
      by_cases h0 : (grpL L l k).length = 0
      · have hz : Hid (grpsU L l = []) := hnil.out (List.eq_nil_of_length_eq_zero h0)
        have HOW := Lib.hid how
        rw [h0] at HOW ⊢
        clear hAc how h0 henc hlt'
        go_wp2_with fail
        refine (sort_none _ _ _ _).mono ?_
        rintro e w' ⟨rfl, rfl⟩
        go_wp2_with fail
        refine (compact_none _ _ _).mono ?_
        rintro e w' ⟨rfl, rfl⟩
        go_wp2_with fail
        go_ret
        refine ⟨_, rfl, ?_, bl_trans HB0.out hbw⟩
        rw [hz.out]
        have h3 := owns_mono HOW.out hsz0
        exact ⟨rfl, h3.2.imp (fun h => h) (fun ⟨g, cp, cur, a1, a2, a3, a4, a5, a6, a7⟩ => ⟨g, cp, cur, a1, a2, a3, a4, a5, a6, by simp⟩)⟩
      · obtain ⟨g, hg1, hg2, rfl⟩ := hAc.resolve_left h0
        obtain ⟨d, hd⟩ : ∃ d, (toU (grpL L l k)).toArray = d := ⟨_, rfl⟩
        have hds : (grpL L l k).length = d.size := by rw [← hd]; simp [toU]
        have hdl : toU (grpL L l k) = d.toList := by rw [← hd]
        rw [← henc, hdl, hds] at how
        rw [hd] at hk0
        rw [hds] at hle ⊢
        have HS := Lib.hid (sortRow_any d how hg2 hle)
        have HKK := hk0
        clear henc hlt' hAc h0 how hd hds hdl hnil
        have hle2 : d.size ≤ 9223372036854775807 := by omega
        go_wp2_with fail
        refine (HS.out).mono ?_
        rintro e w2 ⟨rfl, ho2, hb2, hg3⟩
        have HO2 := Lib.hid ho2
        have HB2 := Lib.hid (hb2 w1 hbw hg1)
        clear ho2 hb2
        have hss := srtU_size d
        obtain ⟨ds, hds⟩ : ∃ ds, srtU d = ds := ⟨_, rfl⟩
        rw [hds] at HO2 HKK hss
        rw [← hss] at HO2 hle2 ⊢
        have HC := Lib.hid (compactRow_any ds HO2.out hle2)
        clear hds hss hle
        go_wp2_with fail
        refine (HC.out).mono ?_
        rintro e w3 ⟨rfl, ho3, hb3⟩
        have HO3 := Lib.hid ho3
        have HB3 := Lib.hid (hb3 w1 HB2.out hg1)
        clear ho3 hb3
        go_wp2_with fail
        go_ret
        refine ⟨_, rfl, ?_, bl_trans HB0.out HB3.out⟩
        rw [HKK.out]
        exact owns_mono HO3.out hsz0
end Go.Proofs.YtkdehkkkbfackaaGreatDoor
namespace Go.Proofs.YtkdehkkkbfackaaGreatDoor
open Go.RowKit Go.Shelf Go.Sort
/-- The groups as numbers. -/
def grpsN (L : Nat) (l : List Nat) : List Nat := (grpsU L l).map Fin.val
theorem grpsN_enc (L : Nat) (l : List Nat) : (grpsU L l).map encU = fl encV (grpsN L l) := by
  unfold grpsN fl
  induction grpsU L l with
  | nil => rfl
  | cons x l ih => simp only [List.map_cons, List.flatMap_cons, ih]; rfl
theorem grpsN_len (L : Nat) (l : List Nat) : (grpsN L l).length = (grpsU L l).length := by simp [grpsN]
theorem grpsU_le (L : Nat) (l : List Nat) : (grpsU L l).length ≤ l.length := by
  unfold grpsU
  refine Nat.le_trans (cmpU_le _) ?_
  rw [srtU_size]
  have : (grpL L l l.length).length ≤ (l.take l.length).length := List.length_filter_le _ _
  rw [List.take_length] at this
  simpa [toU] using this
end Go.Proofs.YtkdehkkkbfackaaGreatDoor
namespace Go.Proofs.YtkdehkkkbfackaaGreatDoor
open Go.RowKit Go.Shelf Go.Sort
theorem sorted_ext {α : Type} {R : α → α → Prop} (irr : ∀ x, ¬ R x x) (asy : ∀ x y, R x y → R y x → False) {l m : List α} (hl : l.Pairwise R) (hm : m.Pairwise R) (h : ∀ x, x ∈ l ↔ x ∈ m) : l = m := by
  have nl : l.Nodup := hl.imp (fun {a b} h e => by subst e; exact irr _ h)
  have nm : m.Nodup := hm.imp (fun {a b} h e => by subst e; exact irr _ h)
  exact List.Perm.eq_of_pairwise (fun a b _ _ h1 h2 => (asy a b h1 h2).elim) hl hm ((List.perm_ext_iff_of_nodup nl nm).2 h)
def BefR (x y : Nat) : Prop := setBef x y = true
theorem bef_irr (x : Nat) : ¬ BefR x x := by unfold BefR; rw [setBef_iff]; omega
theorem bef_asy (x y : Nat) : BefR x y → BefR y x → False := by unfold BefR; rw [setBef_iff, setBef_iff]; omega
theorem bef_trans {x y z : Nat} : BefR x y → BefR y z → BefR x z := by unfold BefR; rw [setBef_iff, setBef_iff, setBef_iff]; omega
theorem bef_tot {x y : Nat} (h : ¬ BefR x y) (k : x ≠ y) : BefR y x := by unfold BefR at *; rw [setBef_iff] at *; omega

theorem cmp_mem (d : Array U64) : ∀ m, m ≤ d.size → ∀ x, x ∈ Go.Lib.compactUpTo d m ↔ ∃ j, j < m ∧ d[j]! = x := by
  intro m
  induction m with
  | zero => intro _ x; simp [Go.Lib.compactUpTo]
  | succ m ih =>
    intro hm x
    rw [Go.Lib.compactUpTo_succ, List.mem_append, ih (by omega)]
    constructor
    · rintro (⟨j, hj, rfl⟩ | h)
      · exact ⟨j, by omega, rfl⟩
      · by_cases q : Go.Lib.keeps d m = true
        · rw [if_pos q] at h; exact ⟨m, by omega, (List.mem_singleton.1 h).symm⟩
        · rw [if_neg q] at h; cases h
    · rintro ⟨j, hj, rfl⟩
      by_cases e : j = m
      · subst e
        by_cases q : Go.Lib.keeps d j = true
        · right; rw [if_pos q]; exact List.mem_singleton.2 rfl
        · left
          unfold Go.Lib.keeps at q
          simp only [decide_eq_true_iff] at q
          by_cases h0 : j = 0
          · exact absurd (Or.inl h0) q
          · exact ⟨j - 1, by omega, (Decidable.of_not_not fun h => q (.inr (fun h2 => h h2.symm)))⟩
      · left; exact ⟨j, by omega, rfl⟩
theorem cmp_pw (d : Array U64) (hs : ∀ i j, i < j → j < d.size → ltOf cfU d[j]! d[i]! = false) : ∀ m, m ≤ d.size → (Go.Lib.compactUpTo d m).Pairwise (fun x y => ltOf cfU x y = true) := by
  intro m
  induction m with
  | zero => intro _; simp [Go.Lib.compactUpTo]
  | succ m ih =>
    intro hm
    rw [Go.Lib.compactUpTo_succ]
    by_cases q : Go.Lib.keeps d m = true
    · rw [if_pos q, List.pairwise_append]
      refine ⟨ih (by omega), List.pairwise_singleton _ _, fun x hx y hy => ?_⟩
      rw [List.mem_singleton.1 hy]
      obtain ⟨j, hj, rfl⟩ := (cmp_mem d m (by omega) x).1 hx
      have h1 := hs j m hj (by omega)
      cases h2 : ltOf cfU d[j]! d[m]! with
      | true => rfl
      | false =>
        have e := tot_cfU _ _ h2 h1
        exfalso
        unfold Go.Lib.keeps at q
        simp only [decide_eq_true_iff] at q
        rcases q with q | q
        · omega
        · refine q (tot_cfU _ _ (hs (m - 1) m (by omega) (by omega)) ?_)
          by_cases e2 : j = m - 1
          · subst e2; rw [e]; exact swo_cfU.irrefl _
          · rw [← e]; exact hs j (m - 1) (by omega) (by omega)
    · rw [if_neg q, List.append_nil]; exact ih (by omega)
theorem srtU_pw (d : Array U64) : ∀ i j, i < j → j < (srtU d).size → ltOf cfU (srtU d)[j]! (srtU d)[i]! = false := by
  intro i j hij hj
  have h := List.pairwise_mergeSort (le := fun x y => !(ltOf cfU) y x)
    (fun a b c h1 h2 => by simp only [Bool.not_eq_true'] at *; exact swo_cfU.ntrans _ _ _ h2 h1)
    (fun a b => by
      cases h : ltOf cfU b a with
      | false => rfl
      | true =>
        cases h2 : ltOf cfU a b with
        | false => rfl
        | true => have := swo_cfU.trans _ _ _ h h2; rw [swo_cfU.irrefl] at this; cases this) d.toList
  have hj' : j < (d.toList.mergeSort fun x y => !(ltOf cfU) y x).length := by simpa [srtU] using hj
  have := List.pairwise_iff_getElem.1 h i j (by omega) hj' hij
  simp only [Bool.not_eq_true'] at this
  rw [getElem!_pos (srtU d) j hj, getElem!_pos (srtU d) i (by omega)]
  simpa [srtU] using this
theorem srtU_mem (d : Array U64) (x : U64) : (∃ j, j < (srtU d).size ∧ (srtU d)[j]! = x) ↔ x ∈ d.toList := by
  have h := (List.mergeSort_perm d.toList (fun x y => !(ltOf cfU) y x)).mem_iff (a := x)
  rw [← h]
  constructor
  · rintro ⟨j, hj, rfl⟩
    rw [getElem!_pos (srtU d) j hj]
    simp [srtU]
  · intro hx
    obtain ⟨j, hj, rfl⟩ := List.mem_iff_getElem.1 hx
    have hj' : j < (srtU d).size := by simpa [srtU] using hj
    refine ⟨j, hj', ?_⟩
    rw [getElem!_pos (srtU d) j hj']
    simp [srtU]
theorem grpsN_pw (L : Nat) (l : List Nat) : (grpsN L l).Pairwise BefR := by
  unfold grpsN grpsU cmpU
  rw [List.pairwise_map]
  refine (cmp_pw _ (srtU_pw _) _ (Nat.le_refl _)).imp ?_
  intro a b h
  rwa [ltU] at h
theorem grpsN_mem {L : Nat} {l : List Nat} (hF : FitV l) (x : Nat) : x ∈ grpsN L l ↔ x ∈ grpL L l l.length := by
  have hlt := grpL_lt (L := L) hF l.length
  unfold grpsN grpsU cmpU
  rw [List.mem_map]
  constructor
  · rintro ⟨y, hy, rfl⟩
    have := (cmp_mem _ _ (Nat.le_refl _) y).1 hy
    rw [srtU_mem] at this
    simp only [toU, List.mem_map] at this
    obtain ⟨z, hz, rfl⟩ := this
    have e : (Fin.ofNat 18446744073709551616 z).val = z := Nat.mod_eq_of_lt (hlt z hz)
    rw [e]; exact hz
  · intro hx
    refine ⟨Fin.ofNat _ x, (cmp_mem _ _ (Nat.le_refl _) _).2 ((srtU_mem _ _).2 ?_), Nat.mod_eq_of_lt (hlt x hx)⟩
    simp only [toU, List.mem_map]
    exact ⟨x, hx, rfl⟩

theorem cntB_half (x : Nat) : ∀ n, cntB x (n + 1) = (if x % 2 = 1 then 1 else 0) + cntB (x / 2) n := by
  intro n
  induction n with
  | zero =>
    show 0 + (if x.testBit 0 then 1 else 0) = _ + 0
    rw [Nat.testBit_zero]; simp
  | succ n ih =>
    show cntB x (n + 1) + (if x.testBit (n + 1) then 1 else 0) = _ + (cntB (x / 2) n + if (x / 2).testBit n then 1 else 0)
    rw [ih, Nat.testBit_succ]; omega
theorem cntB_zero : ∀ n x, x < 2 ^ n → (cntB x n = 0 ↔ x = 0) := by
  intro n
  induction n with
  | zero => intro x hx; simp at hx; simp [cntB, hx]
  | succ n ih =>
    intro x hx
    rw [Nat.pow_succ] at hx
    rw [cntB_half]
    have := ih (x / 2) (by omega)
    by_cases h : x % 2 = 1
    · rw [if_pos h]; omega
    · rw [if_neg h]; omega
theorem low_odd (y : Nat) : (2 * y + 1) &&& (2 * y + 1 - 1) = 2 * y := by
  have e1 : ((2 * y + 1) &&& (2 * y)) / 2 = y := by rw [Nat.and_div_two]; rw [show (2 * y + 1) / 2 = y by omega, show 2 * y / 2 = y by omega, Nat.and_self]
  have e2 : ((2 * y + 1) &&& (2 * y)) % 2 = 0 := by have h := Nat.and_mod_two_pow (a := 2 * y + 1) (b := 2 * y) (n := 1); rw [Nat.pow_one, show 2 * y % 2 = 0 by omega, Nat.and_zero] at h; exact h
  rw [show 2 * y + 1 - 1 = 2 * y by omega]; omega
theorem low_even (y : Nat) : (2 * y) &&& (2 * y - 1) = 2 * (y &&& (y - 1)) := by
  have e1 : ((2 * y) &&& (2 * y - 1)) / 2 = y &&& (y - 1) := by rw [Nat.and_div_two]; rw [show (2 * y) / 2 = y by omega, show (2 * y - 1) / 2 = y - 1 by omega]
  have e2 : ((2 * y) &&& (2 * y - 1)) % 2 = 0 := by have h := Nat.and_mod_two_pow (a := 2 * y) (b := 2 * y - 1) (n := 1); rw [Nat.pow_one, show 2 * y % 2 = 0 by omega, Nat.zero_and] at h; exact h
  omega
theorem low_cnt : ∀ n x, x < 2 ^ n → (x &&& (x - 1) = 0 ↔ cntB x n ≤ 1) := by
  intro n
  induction n with
  | zero => intro x hx; simp at hx; simp [cntB, hx]
  | succ n ih =>
    intro x hx
    rw [Nat.pow_succ] at hx
    rw [cntB_half]
    by_cases h : x % 2 = 1
    · rw [if_pos h]
      have e : x = 2 * (x / 2) + 1 := by omega
      have h0 := cntB_zero n (x / 2) (by omega)
      generalize cntB (x / 2) n = q at *
      generalize x / 2 = y at *
      subst e
      rw [low_odd]; omega
    · rw [if_neg h]
      have e : x = 2 * (x / 2) := by omega
      have h0 := ih (x / 2) (by omega)
      generalize cntB (x / 2) n = q at *
      generalize x / 2 = y at *
      subst e
      rw [low_even]; omega
theorem lowOff_cnt {x : Nat} (hx : x < 18446744073709551616) : lowOff x = 0 ↔ cntB x 64 ≤ 1 := by
  rw [← low_cnt 64 x hx]
  unfold lowOff
  by_cases h : x = 0
  · subst h; simp
  · rw [show (x + 18446744073709551615) % 18446744073709551616 = x - 1 by omega]
/-- Does the document keep set z, behind the groups out? -/
def okR (L : Nat) (l : List Nat) (z : Nat) (out : List Nat) : Bool := ((decide (2 ≤ cntB z 64) && !decide (z = 2 ^ L - 1)) && l.all (fitB z)) && out.all (fun y => !decide (y = z))
def befN (z : Nat) (out : List Nat) : Nat := (out.takeWhile (fun y => setBef y z)).length
def insG (z : Nat) (out : List Nat) : List Nat := out.take (befN z out) ++ [z] ++ out.drop (befN z out)
/-- The document's groups after k rows. -/
def refG (L : Nat) (l : List Nat) : Nat → List Nat
  | 0 => []
  | k + 1 => if okR L l (vA l k) (refG L l k) then insG (vA l k) (refG L l k) else refG L l k
theorem refG_le (L : Nat) (l : List Nat) : ∀ k, (refG L l k).length ≤ k := by
  intro k
  induction k with
  | zero => simp [refG]
  | succ k ih =>
    unfold refG
    split
    · simp [insG]; omega
    · omega
theorem ins_pw {z : Nat} {out : List Nat} (h : out.Pairwise BefR) (hn : z ∉ out) : (insG z out).Pairwise BefR := by
  unfold insG befN
  have e1 : out.take (out.takeWhile (fun y => setBef y z)).length = out.takeWhile (fun y => setBef y z) := by
    exact (List.prefix_iff_eq_take.1 (List.takeWhile_prefix (fun y => setBef y z) (l := out))).symm
  have e2 : out.drop (out.takeWhile (fun y => setBef y z)).length = out.dropWhile (fun y => setBef y z) := by
    exact (congrArg (List.drop (out.takeWhile (fun y => setBef y z)).length) (List.takeWhile_append_dropWhile (p := fun y => setBef y z) (l := out)).symm).trans List.drop_left
  rw [e1, e2]
  have h2 := h
  rw [← List.takeWhile_append_dropWhile (p := fun y => setBef y z) (l := out), List.pairwise_append] at h2
  obtain ⟨p1, p2, p3⟩ := h2
  have a1 : ∀ y, y ∈ out.takeWhile (fun y => setBef y z) → BefR y z := fun y hy => by
    have := List.all_takeWhile (l := out) (p := fun y => setBef y z)
    exact List.all_eq_true.1 this y hy
  have a2 : ∀ y, y ∈ out.dropWhile (fun y => setBef y z) → BefR z y := by
    intro y hy
    have hsub : ∀ y, y ∈ out.dropWhile (fun y => setBef y z) → y ∈ out := fun y hy => (List.dropWhile_sublist _).subset hy
    cases hd : out.dropWhile (fun y => setBef y z) with
    | nil => rw [hd] at hy; cases hy
    | cons u us =>
      have hu : ¬ BefR u z := by
        have := List.head_dropWhile_not (fun y => setBef y z) (l := out) (by rw [hd]; simp)
        simp only [hd, List.head_cons] at this
        unfold BefR
        simpa using this
      have hzu : BefR z u := bef_tot hu (fun e => hn (by rw [← e]; exact hsub u (by rw [hd]; simp)))
      rw [hd] at hy p2
      rcases List.mem_cons.1 hy with rfl | hy
      · exact hzu
      · exact bef_trans hzu (List.rel_of_pairwise_cons p2 hy)
  rw [List.pairwise_append, List.pairwise_append]
  refine ⟨⟨p1, List.pairwise_singleton _ _, fun y hy x hx => ?_⟩, p2, fun y hy x hx => ?_⟩
  · rw [List.mem_singleton.1 hx]; exact a1 y hy
  · rcases List.mem_append.1 hy with hy | hy
    · exact p3 y hy x hx
    · rw [List.mem_singleton.1 hy]; exact a2 x hx
theorem ins_mem (z : Nat) (out : List Nat) (x : Nat) : x ∈ insG z out ↔ x ∈ out ∨ x = z := by
  unfold insG
  rw [List.mem_append, List.mem_append, List.mem_singleton]
  constructor
  · rintro ((h | h) | h)
    · exact .inl (List.mem_of_mem_take h)
    · exact .inr h
    · exact .inl (List.mem_of_mem_drop h)
  · rintro (h | h)
    · rw [← List.take_append_drop (befN z out) out, List.mem_append] at h
      rcases h with h | h
      · exact .inl (.inl h)
      · exact .inr h
    · exact .inl (.inr h)
theorem okR_iff {L : Nat} {l : List Nat} {z : Nat} {out : List Nat} (hz : z < 18446744073709551616) : okR L l z out = (grpB L l z && !decide (z ∈ out)) := by
  have h := lowOff_cnt hz
  unfold okR grpB
  have e1 : decide (2 ≤ cntB z 64) = !decide (lowOff z = 0) := by
    rw [Bool.eq_iff_iff]; simp only [decide_eq_true_iff, Bool.not_eq_true', decide_eq_false_iff_not]; rw [h]; omega
  have e2 : l.all (fitB z) = !(l.any fun o => !fitB z o) := by
    rw [Bool.eq_iff_iff]; simp
  have e3 : (out.all fun y => !decide (y = z)) = !decide (z ∈ out) := by
    rw [Bool.eq_iff_iff]; simp only [List.all_eq_true, Bool.not_eq_true', decide_eq_false_iff_not]
    exact ⟨fun h1 h2 => h1 z h2 rfl, fun h1 y hy e => h1 (e ▸ hy)⟩
  rw [e1, e2, e3]
theorem refG_ok {L : Nat} {l : List Nat} (hF : FitV l) : ∀ k, k ≤ l.length → (refG L l k).Pairwise BefR ∧ ∀ x, x ∈ refG L l k ↔ x ∈ grpL L l k := by
  intro k
  induction k with
  | zero => intro _; exact ⟨List.Pairwise.nil, fun x => by simp [refG, grpL]⟩
  | succ k ih =>
    intro hk
    obtain ⟨h1, h2⟩ := ih (by omega)
    have hsn := grpL_snoc L l k (by omega)
    have e := okR_iff (L := L) (l := l) (out := refG L l k) (hF k (by omega))
    unfold refG
    rw [hsn, e]
    by_cases q : grpB L l (vA l k) = true
    · rw [q, if_pos rfl]
      by_cases q2 : vA l k ∈ refG L l k
      · rw [decide_eq_true q2]
        refine ⟨h1, fun x => ?_⟩
        show x ∈ refG L l k ↔ _
        rw [h2, List.mem_append, List.mem_singleton]
        exact ⟨.inl, fun h => h.elim id (fun e => by rw [e]; exact (h2 _).1 q2)⟩
      · rw [decide_eq_false q2]
        refine ⟨ins_pw h1 q2, fun x => ?_⟩
        show x ∈ insG (vA l k) (refG L l k) ↔ _
        rw [ins_mem, h2, List.mem_append, List.mem_singleton]
    · rw [if_neg q, List.append_nil, Bool.eq_false_iff.2 q]
      exact ⟨h1, h2⟩
theorem refG_eq {L : Nat} {l : List Nat} (hF : FitV l) : refG L l l.length = grpsN L l := by
  obtain ⟨h1, h2⟩ := refG_ok (L := L) hF l.length (Nat.le_refl _)
  exact sorted_ext bef_irr bef_asy h1 (grpsN_pw L l) (fun x => by rw [h2, grpsN_mem hF])
end Go.Proofs.YtkdehkkkbfackaaGreatDoor
namespace Go.Proofs.YtkdehkkkbfackaaGreatDoor
open Go.RowKit Go.Shelf
/-- Set i has a conflict with a later one. -/
def cfR (l : List Nat) (i j : Nat) : Bool := decide (i < j) && !fitB (vA l i) (vA l j)
def cfRow (l : List Nat) (i : Nat) : Bool := (List.range l.length).any (cfR l i)
/-- The first conflict. -/
def confE (l : List Nat) : Option (Nat × Nat) := ((List.range l.length).find? (cfRow l)).bind fun i => ((List.range l.length).find? (cfR l i)).map fun j => (i, j)
theorem conf_no {l : List Nat} (h : ∀ i, i < l.length → cfRow l i = false) : confE l = none := by
  unfold confE
  rw [List.find?_range_eq_none.2 (fun i hi => by rw [h i hi]; rfl)]
  rfl
theorem cfRow_no {l : List Nat} {i : Nat} (h : ∀ j, i < j → j < l.length → fitB (vA l i) (vA l j) = true) : cfRow l i = false := by
  unfold cfRow
  rw [List.any_eq_false]
  intro j hj
  unfold cfR
  by_cases e : i < j
  · rw [h j e (List.mem_range.1 hj)]; simp
  · simp [e]
theorem conf_yes {l : List Nat} {i j : Nat} (h : ∀ k, k < i → cfRow l k = false) (hij : i < j) (hj : j < l.length) (hf : fitB (vA l i) (vA l j) = false) (hm : ∀ k, i < k → k < j → fitB (vA l i) (vA l k) = true) : confE l = some (i, j) := by
  have e1 : cfR l i j = true := by unfold cfR; rw [hf]; simp [hij]
  have e2 : (List.range l.length).find? (cfRow l) = some i := by
    rw [List.find?_range_eq_some]
    refine ⟨?_, List.mem_range.2 (by omega), fun k hk => by rw [h k hk]; rfl⟩
    unfold cfRow
    rw [List.any_eq_true]
    exact ⟨j, List.mem_range.2 hj, e1⟩
  have e3 : (List.range l.length).find? (cfR l i) = some j := by
    rw [List.find?_range_eq_some]
    refine ⟨e1, List.mem_range.2 hj, fun k hk => ?_⟩
    unfold cfR
    by_cases e : i < k
    · rw [hm k e hk]; simp
    · simp [e]
  unfold confE
  rw [e2]
  show ((List.range l.length).find? (cfR l i)).map _ = _
  rw [e3]; rfl
/-- What Conflict answers. -/
def cfV (L : Int) (l : List Nat) : Value := if chkT L l ≠ 0 then .tuple #[.int .i64 0, .int .i64 0, .bool false, .int .i64 (chkT L l)] else
  match confE l with
  | none => .tuple #[.int .i64 0, .int .i64 0, .bool false, .int .i64 0]
  | some p => .tuple #[.int .i64 p.1, .int .i64 p.2, .bool true, .int .i64 0]
theorem cfV_bad {L : Int} {l : List Nat} (h : chkT L l ≠ 0) : cfV L l = .tuple #[.int .i64 0, .int .i64 0, .bool false, .int .i64 (chkT L l)] := if_pos h
theorem cfV_no {L : Int} {l : List Nat} (h : chkT L l = 0) (h2 : confE l = none) : cfV L l = .tuple #[.int .i64 0, .int .i64 0, .bool false, .int .i64 0] := by unfold cfV; rw [if_neg (fun h3 => h3 h), h2]
theorem cfV_yes {L : Int} {l : List Nat} {i j : Nat} (h : chkT L l = 0) (h2 : confE l = some (i, j)) : cfV L l = .tuple #[.int .i64 i, .int .i64 j, .bool true, .int .i64 0] := by unfold cfV; rw [if_neg (fun h3 => h3 h), h2]
theorem idxF_cases (p : Nat → Bool) (l : List Nat) : (idxF p l = -1 ∧ ∀ j, j < l.length → p (vA l j) = false) ∨ ∃ k : Nat, idxF p l = k ∧ k < l.length ∧ p (vA l k) = true ∧ ∀ j, j < k → p (vA l j) = false := by
  unfold idxF
  by_cases h : l.any p = true
  · right
    rw [if_pos h]
    have hx : l.findIdx p < l.length := by
      rw [List.any_eq_true] at h
      obtain ⟨x, hx, hp⟩ := h
      exact List.findIdx_lt_length_of_exists ⟨x, hx, hp⟩
    refine ⟨l.findIdx p, rfl, hx, ?_, fun j hj => ?_⟩
    · rw [vA_get hx]; exact List.findIdx_getElem
    · rw [vA_get (by omega)]
      have := List.not_of_lt_findIdx hj
      simpa using this
  · left
    rw [if_neg h]
    refine ⟨rfl, fun j hj => ?_⟩
    simp only [Bool.not_eq_true, List.any_eq_false] at h
    rw [vA_get hj]
    have := h l[j] (List.getElem_mem hj)
    simpa using this
theorem vA_drop (l : List Nat) (m j : Nat) : vA (l.drop m) j = vA l (m + j) := by simp [vA]
theorem rd_dropV {w : World} {b o : Nat} {l : List Nat} (h : Rd w (some ⟨b, o, none⟩) (fl encV l)) (k : Nat) : Rd w (some ⟨b, o + k, none⟩) (fl encV (l.drop k)) := by
  intro h0
  have hl : 0 < (l.drop k).length := by
    rw [fl_length encV_len] at h0
    omega
  rw [List.length_drop] at hl
  obtain ⟨b', o', e, hb, hc⟩ := rdV h (by omega)
  simp only [Option.some.injEq, Addr.mk.injEq, and_true] at e
  obtain ⟨rfl, rfl⟩ := e
  refine ⟨b, o + k, rfl, hb, fun i hi => ?_⟩
  rw [fl_length encV_len, Nat.mul_one, List.length_drop] at hi
  have h1 := hc (k + i) (by omega)
  have h2 := fl_getElem? encV_len (l.drop k) i 0 (by omega)
  rw [Nat.mul_one, Nat.add_zero] at h2
  rw [List.getD_eq_getElem?_getD, h2]
  rw [List.getElem?_eq_getElem (by rw [List.length_drop]; omega)]
  rw [← Nat.add_assoc] at h1
  rw [h1, vA_get (by omega)]
  simp [encV]
set_option maxHeartbeats 1000000 in
theorem cf1_any (x o S : Nat) (w : World) (hx : x < 18446744073709551616) (ho : o < 18446744073709551616) (hB : Blk w S #[.int .u64 x] 35) :
    Calls Tryz.prog 18 #[.int .u64 o, .pointer (some ⟨S, 0, none⟩)] w fun e w' => e = .returned (.bool (!fitB x o)) ∧ w' = w := by
  have e0 : w.cell? ⟨S, 0, none⟩ = some (.int .u64 x) := hB.cell 0
  go_enter Tryz.func18, Tryz.ntmps18
  go_wp2_with fail
  refine (fits_any x o w hx ho).mono ?_
  rintro e w' ⟨rfl, rfl⟩
  obtain ⟨b, hb⟩ : ∃ b, fitB x o = b := ⟨_, rfl⟩
  have HBB := Lib.hid hb
  rw [hb]
  clear hb
  go_wp2_with fail
  go_ret
  exact ⟨by rw [HBB.out]; rfl, rfl⟩
set_option maxRecDepth 100000 in
set_option maxHeartbeats 1000000 in
theorem conf_any (L : Int) (a : Option Addr) (N c : Nat) (l : List Nat) (w : World) (hl : l.length = N) (hN : N ≤ 1152921504606846976) (hNc : N ≤ c) (hc : c ≤ 9223372036854775807) (hA : Rd w a (fl encV l)) (hF : FitV l) :
    Calls Tryz.prog 8 #[.agg #[.int .i64 L, .slice a N c]] w fun e w' => e = .returned (cfV L l) ∧ Below w.heap.size w w' := by
  have hb0 := bl_alloc (Below.refl _ w) (.cells #[.int .i64 L, .slice a N c] 24)
  have hB := Blk.new w #[.int .i64 L, .slice a N c] 24
  have HL := Lib.hid hl
  have HF := Lib.hid hF
  have HC := Lib.hid (tchk_any L a N c l (w.alloc (.cells #[.int .i64 L, .slice a N c] 24)) hl hN (hA.bl hb0) hF)
  have HA := Lib.hid (hA.bl hb0)
  clear hl hA hF
  go_enter Tryz.func8, Tryz.ntmps8
  go_wp2_with fail
  refine HC.out.mono ?_
  rintro e w2 ⟨rfl, hb2⟩
  have hb3 := bl_trans hb0 hb2
  have hB2 := hB.below hb2
  have HA2 := Lib.hid (HA.out.bl hb2)
  obtain ⟨E, hE⟩ : ∃ E, chkT L l = E := ⟨_, rfl⟩
  rw [hE]
  have HE := Lib.hid hE
  clear hE HC HA hB hb0 hb2
  by_cases h0 : E = 0
  · have d0 : (E == 0) = true := by simp [h0]
    subst h0
    obtain ⟨X, hX⟩ : ∃ X, X = w.heap.size := ⟨_, rfl⟩
    rw [← hX] at hB2 ⊢
    have HB2 := Lib.hid hB2
    have HB3 := Lib.hid hb3
    have hbz := Below.refl w2.heap.size w2
    have e0 : w2.cell? ⟨X, 0, none⟩ = some (.int .i64 L) := hB2.cell 0
    have e1 : w2.cell? ⟨X, 1, none⟩ = some (.slice a N c) := hB2.cell 1
    clear hX hB2 hb3
    go_wp2_with fail
    clear e0 e1
    go_loopw [18, 7, 8, 9] (fun x _ _ _ wr => ∃ i : Nat, i ≤ N ∧ x = .int .i64 i ∧ Hid (∀ k, k < i → cfRow l k = false) ∧ Below w2.heap.size w2 wr) (fun x _ _ _ _ => N - (intOf x).toNat)
    case atStart => exact ⟨0, by omega, rfl, fun k h => absurd h (by omega), hbz⟩
    case round =>
      obtain ⟨i, hi, rfl, hrow, hbl⟩ := hrel
      clear hbz
      by_cases hlt : i < N
      · obtain ⟨b, o, hab, hb, hcs⟩ := rdV HA2.out (by rw [HL.out]; omega)
        have Gi := (hbl.cell (p := ⟨b, o + i, none⟩) hb).trans (hcs i (by rw [HL.out]; exact hlt))
        have fi := HF.out i (by rw [HL.out]; exact hlt)
        obtain ⟨x, hx⟩ : ∃ x, vA l i = x := ⟨_, rfl⟩
        have HX := Lib.hid hx
        rw [hx] at Gi fi
        have hBw := HB2.out.below hbl
        have e1 : (wr.alloc (.cells #[.int .u64 x] 35)).cell? ⟨X, 1, none⟩ = some (.slice a N c) := (hBw.alloc (.cells #[.int .u64 x] 35)).cell 1
        have hbl1 := bl_alloc hbl (.cells #[.int .u64 x] 35)
        have hS := Blk.new wr #[.int .u64 x] 35
        have HRD := Lib.hid (HA2.out.below hbl1 (Nat.le_refl _))
        have hi1 : (i : Int) + 1 ≤ (c : Int) := by omega
        obtain ⟨S, hS0⟩ : ∃ S, S = wr.heap.size := ⟨_, rfl⟩
        have HIX := Lib.hid (fun (a' : Option Addr) (c' : Nat) (hr : Rd (wr.alloc (.cells #[.int .u64 x] 35)) a' (fl encV (l.drop (i + 1)))) => indexF_any 18 (enters_of Tryz.func18 (by kernel_rfl) rfl) #[.pointer (some ⟨wr.heap.size, 0, none⟩)] (fun o => !fitB x o) a' (N - (i + 1)) c' (l.drop (i + 1)) (wr.alloc (.cells #[.int .u64 x] 35)) (by rw [List.length_drop, HL.out]) (by omega) hr (fun k hk W hW => (cf1_any x (vA (l.drop (i + 1)) k) wr.heap.size W fi (by rw [vA_drop]; exact HF.out _ (by rw [HL.out]; omega)) (hS.below hW)).mono fun e w' hh => (⟨hh.1, by rw [hh.2]; exact Below.refl _ _⟩ : e = .returned (.bool (!fitB x (vA (l.drop (i + 1)) k))) ∧ Below W.heap.size W w')))
        have HHL := Lib.hid (show c = i + 1 → l.drop (i + 1) = [] from fun h => List.drop_eq_nil_of_le (by rw [HL.out]; omega))
        have HIC := idxF_cases (fun o => !fitB x o) (l.drop (i + 1))
        have HBE := Lib.hid (HB3.out.trans (hbl1.mono HB3.out.size))
        subst hab
        clear hx hcs hBw hS hS0
        obtain ⟨kk, hkk⟩ : ∃ kk, idxF (fun o => !fitB x o) (l.drop (i + 1)) = kk := ⟨_, rfl⟩
        rw [hkk] at HIX HIC
        clear hkk
        rcases HIC with ⟨rfl, hall⟩ | ⟨k, rfl, hk, hp, hmin⟩
        · have hrow2 : Hid (∀ k, k < i + 1 → cfRow l k = false) := fun k hk => by
            by_cases e : k = i
            · rw [e]
              refine cfRow_no fun j h1 h2 => ?_
              have := hall (j - (i + 1)) (by rw [List.length_drop]; omega)
              rw [vA_drop, show i + 1 + (j - (i + 1)) = j by omega] at this
              rw [HX.out]
              simpa using this
            · exact hrow.out k (by omega)
          clear hall
          go_wp2_with fail
          all_goals
            have HCI := Lib.hid h
            clear h
            refine (HIX.out _ _ (by first | exact rd_dropV HRD.out (i + 1) | (rw [HHL.out HCI.out]; exact Rd.nil _ _))).mono ?_
            rintro e w3 ⟨rfl, hb4⟩
            try rw [← HCI.out]
            have hbl3 := hbl1.trans (hb4.mono hbl1.size)
            go_wp2_with fail
            go_roundw
            case rel => exact ⟨i + 1, by omega, by go_num, hrow2, hbl3⟩
            case measure => simp [intOf]; omega
        · rw [List.length_drop, HL.out] at hk
          have hy : Hid (cfV L l = .tuple #[.int .i64 i, .int .i64 ((i + 1 + k : Nat) : Int), .bool true, .int .i64 0]) := cfV_yes HE.out (conf_yes hrow.out (by omega) (by rw [HL.out]; omega) (by
              rw [vA_drop] at hp
              rw [HX.out]
              simpa using hp) (fun j h1 h2 => by
              have := hmin (j - (i + 1)) (by omega)
              rw [vA_drop, show i + 1 + (j - (i + 1)) = j by omega] at this
              rw [HX.out]
              simpa using this))
          clear hmin hp
          go_wp2_with fail
          all_goals
            refine (HIX.out _ _ (rd_dropV HRD.out (i + 1))).mono ?_
            rintro e w3 ⟨rfl, hb4⟩
            have hbl3 := Lib.hid (HBE.out.trans (hb4.mono HBE.out.size))
            go_wp2_with fail
            exact bodyPost_ret (v := .tuple #[.int .i64 i, .int .i64 ((i : Int) + 1 + k), .bool true, .int .i64 0]) (by simp [results, Tryz.results8, go_sem]) rfl ⟨by rw [hy.out]; simp, hbl3.out⟩
      · have hy : Hid (cfV L l = .tuple #[.int .i64 0, .int .i64 0, .bool false, .int .i64 0]) := cfV_no HE.out (conf_no fun k hk => hrow.out k (by rw [HL.out] at hk; omega))
        have HBE := Lib.hid (HB3.out.trans (hbl.mono HB3.out.size))
        go_wp2_with fail
        exact bodyPost_ret (v := .tuple #[.int .i64 0, .int .i64 0, .bool false, .int .i64 0]) (by simp [results, Tryz.results8, go_sem]) rfl ⟨by rw [hy.out], HBE.out⟩
  · have d0 : (E == 0) = false := by simp [h0]
    have hy : Hid (cfV L l = .tuple #[.int .i64 0, .int .i64 0, .bool false, .int .i64 E]) := by show _ = _; rw [cfV_bad (by rw [HE.out]; exact h0), HE.out]
    have HB3 := Lib.hid hb3
    clear h0 hb3
    go_wp2_with fail
    exact bodyPost_ret (v := .tuple #[.int .i64 0, .int .i64 0, .bool false, .int .i64 E]) (by simp [results, Tryz.results8, go_sem]) rfl ⟨by rw [hy.out], HB3.out⟩
end Go.Proofs.YtkdehkkkbfackaaGreatDoor
namespace Go.Proofs.YtkdehkkkbfackaaGreatDoor
open Go
section
variable {P : Program} {ops : Array Oper} {md : Region.Mode} {C : World → Prop}

/-- Whatever order is picked for the first f operations; then L. -/
def anyLQ (P : Program) (md : Region.Mode) (ops : Array Oper) (C : World → Prop) (n : Nat) (L : Array Bool → Act → Prop) : Nat → Array Bool → Act → Prop
  | 0, listed, a => L listed a
  | f + 1, listed, a => Region.ready md ops listed ≠ [] ∧ ∀ i ∈ Region.ready md ops listed, i < n ∧ qOp P ops C i (anyLQ P md ops C n L f (listed.setIfInBounds i true)) a

theorem any_of_LQ {n g : Nat} {L : Array Bool → Act → Prop} {Q' : Exit → Act → World → Prop} (hL : ∀ listed a w, C w → L listed a → wpAny P md ops Q' g listed a w) :
    ∀ (f : Nat) (listed : Array Bool) (a : Act) (w : World), C w → anyLQ P md ops C n L f listed a → wpAny P md ops Q' (f + g) listed a w
  | 0, listed, a, w, hC, h => by rw [Nat.zero_add]; exact hL _ _ _ hC h
  | f + 1, listed, a, w, hC, h => by
    rw [show f + 1 + g = (f + g) + 1 by omega]
    exact ⟨fun h0 => absurd h0 h.1, fun i hi => wpOp_of_qOp hC (fun a' w' hw' h' => any_of_LQ hL f _ a' w' hw' h') (h.2 i hi).2⟩

theorem anyLQ_first {n i : Nat} {oi : Oper} {v : Value} {L : Array Bool → Act → Prop} (hi : ops[i]? = some oi) (hsel : ∀ (j : Nat) (o : Oper) cs b, ops[j]? = some o → o.op ≠ .select cs b)
    (hs : Region.sinkB md ops n = true) (hc : Region.chainB md ops n = true) (hn : n < ops.size) (hin : i < n)
    (hdone : ∀ listed a, L listed a → ∀ j ∈ Region.ready md ops listed, n ≤ j) :
    ∀ (f : Nat) (listed : Array Bool) (a : Act), HeadInv md ops n listed →
      (∀ j oj, ops[j]? = some oj → j ≠ i → listed.getD j true = false → (∀ e ∈ oj.after, Region.binds md e = true → e.on ≠ i) → oi.apart ops oj = true) →
      i ∈ Region.ready md ops listed → YieldsIn P ops C oi v a →
      anyLQ P md ops C n L f (listed.setIfInBounds i true) (a.put oi.dst v) → anyLQ P md ops C n L (f + 1) listed a := by
  intro f
  induction f with
  | zero =>
    intro listed a inv _ hr hy H
    have hun := (mem_ready.1 hr).1
    refine ⟨fun h => (by rw [h] at hr; cases hr), fun j hj => ?_⟩
    have hjn : j < n := by
      rcases Nat.lt_or_ge j n with h | h
      · exact h
      · exact absurd hj (tail_waits hs hc hn inv _ i rfl hin hun j h)
    refine ⟨hjn, ?_⟩
    by_cases hji : j = i
    · subst hji; exact hy.qOp hi H
    · have := hdone _ _ H j (ready_mono hj hji)
      omega
  | succ f ih =>
    intro listed a inv hfree hr hy H
    have hun := (mem_ready.1 hr).1
    refine ⟨fun h => (by rw [h] at hr; cases hr), fun j hj => ?_⟩
    have hjn : j < n := by
      rcases Nat.lt_or_ge j n with h | h
      · exact h
      · exact absurd hj (tail_waits hs hc hn inv _ i rfl hin hun j h)
    refine ⟨hjn, ?_⟩
    by_cases hji : j = i
    · subst hji; exact hy.qOp hi H
    · have h1 := (H.2 j (ready_mono hj hji)).2
      obtain ⟨hjun, oj, hoj, hall⟩ := mem_ready.1 hj
      have hnot : ∀ e ∈ oj.after, Region.binds md e = true → e.on ≠ i := fun e he hb heq => by
        have h1 := hall e he hb
        rw [heq, getD_both hun] at h1
        cases h1
      have h2 := qOp_put hoj (hfree j oj hoj hji hjun hnot) (fun cs b => hsel i oi cs b hi) (fun cs b => hsel j oj cs b hoj) hy h1
      have hfree' : ∀ k ok, ops[k]? = some ok → k ≠ i → (listed.setIfInBounds j true).getD k true = false →
          (∀ e ∈ ok.after, Region.binds md e = true → e.on ≠ i) → oi.apart ops ok = true := fun k ok hk hki hun hno => by
        refine hfree k ok hk hki ?_ hno
        by_cases hjk : j = k
        · subst hjk; exact hjun
        · rw [Go.getD_set_ne true hjk] at hun; exact hun
      refine qOp_mono (fun a' h3 => ih (listed.setIfInBounds j true) a' (inv.set hj hjn) hfree' (ready_mono hr (Ne.symm hji)) h3.1 ?_) h2
      rw [Array.setIfInBounds_comm _ _ hji]
      exact h3.2

theorem anyLQ_lex {n g : Nat} {Lq : Act → Prop} (hsel : Region.noSelect ops = true) (hs : Region.sinkB md ops n = true) (hc : Region.chainB md ops n = true) (hn : n < ops.size) :
    ∀ (l : List Oper) (k : Nat) (listed : Array Bool) (a : Act), (∀ j, j < l.length → l[j]? = ops[k + j]?) → k + l.length = n → HeadInv md ops n listed →
    Region.lexHead md ops g l.length k listed = true → wpQuiet P ops C Lq l a →
    anyLQ P md ops C n (fun listed' a' => Region.seqB md ops g n listed' = true ∧ Lq a') l.length listed a
  | [], k, listed, a, _, hk, _, hB, h => by
    have : k = n := by simpa using hk
    subst this
    exact ⟨by simpa [Region.lexHead] using hB, h⟩
  | o :: l, k, listed, a, hl, hk, inv, hB, h => by
    have h0 : ops[k]? = some o := by simpa using (hl 0 (by simp)).symm
    simp only [List.length_cons, Region.lexHead, Bool.and_eq_true] at hB
    obtain ⟨⟨hr, hf⟩, hB'⟩ := hB
    have hkn : k < n := by simp only [List.length_cons] at hk; omega
    have hr' : k ∈ Region.ready md ops listed := by simpa using hr
    have hst : qOp P ops C k (wpQuiet P ops C Lq l) a := by unfold qOp; simp only [h0]; exact h
    obtain ⟨v, hy, hK⟩ := yieldsIn_of_qOp h0 hst
    exact anyLQ_first h0 (Region.noSelect_spec hsel) hs hc hn hkn (fun listed' a' hL => seqB_ready hL.1) l.length listed a inv (Region.free_spec h0 hf) hr' hy
      (anyLQ_lex hsel hs hc hn l (k + 1) _ _ (fun j hj => by have := hl (j + 1) (by simp; omega); simpa [Nat.add_assoc, Nat.add_comm 1 j] using this) (by simp only [List.length_cons] at hk; omega) (inv.set hr' hkn) hB' hK)

/-- ONE WALK OF THE TEXT's ORDER: the head quiet in the class C, then the forced tail from any world of the class. -/
theorem wp_quiet_tail {id : Nat} {Q : Exit → Act → World → Prop} {a : Act} {w : World} {l : List Oper} (n : Nat) (hm : P.follows .mixedOrders = true) (hB : Region.lexTailB .any l.toArray n = true) (hC : C { w with drawn := w.drawn + 1 })
    (h : wpQuiet P l.toArray C (fun a' => ∀ w', C w' → wpList P l.toArray Q (l.drop n) a' w') (l.take n) a) : (Code.region id l.toArray true).wp P Q a w := by
  simp only [Region.lexTailB, Bool.and_eq_true, decide_eq_true_eq] at hB
  obtain ⟨⟨⟨⟨hsel, hn⟩, hs⟩, hc⟩, hlex⟩ := hB
  have hn' : n < l.length := by simpa using hn
  have htl : (l.take n).length = n := by simp; omega
  have hdl : (l.drop n).length = l.toArray.size - n := by simp
  have inv0 : HeadInv .any l.toArray n (Array.replicate l.toArray.size false) :=
    ⟨by simp, fun j oj _ hl => (by rw [getD_replicate_false] at hl; cases hl), fun t _ ht => getD_in (by simpa using ht) (getD_replicate_false _ _)⟩
  have H := anyLQ_lex (md := .any) (C := C) (g := l.toArray.size - n) hsel hs hc hn (l.take n) 0 _ a (fun j hj => by
    have hj' : j < n := by rw [htl] at hj; exact hj
    simp [hj']) (by simpa using htl) inv0 (by rw [htl]; exact hlex) h
  refine wp_region_any hm ?_
  have := any_of_LQ (Q' := Q) (C := C) (g := l.toArray.size - n) (fun listed a' w' hw' hL => by
    have := wpAny_of_seq (md := .any) (Q' := Q) (l.drop n) n listed a' w' (fun j => by simp [List.getElem?_drop]) (by rw [hdl]; exact hL.1) (hL.2 w' hw')
    rwa [hdl] at this) _ _ _ _ hC H
  rw [htl, show n + (l.toArray.size - n) = l.toArray.size by omega] at this
  exact this

/-- .. at the class 'w after some draws'. -/
theorem wp_quiet_tail_lit {id : Nat} {Q : Exit → Act → World → Prop} {a : Act} {w : World} {l : List Oper} (n : Nat) (hm : P.follows .mixedOrders = true) (hB : Region.lexTailB .any l.toArray n = true)
    (h : wpQuiet P l.toArray (fun w' => ∃ m, w' = w.drewN m) (fun a' => ∀ w', (∃ m, w' = w.drewN m) → wpList P l.toArray Q (l.drop n) a' w') (l.take n) a) : (Code.region id l.toArray true).wp P Q a w :=
  wp_quiet_tail (C := fun w' => ∃ m, w' = w.drewN m) n hm hB ⟨1, rfl⟩ h
end

open Go.RowKit
/-- A world that keeps all that lay in W. -/
structure Wb (W : World) where
  w : World
  h : Below W.heap.size W w
instance (W : World) : Inhabited (Wb W) := ⟨⟨W, Below.refl _ _⟩⟩
section
variable {P : Program}
/-- The class of these worlds: a call that lays blocks of its own stays in it. -/
theorem wp_quiet_wb {id : Nat} {Q : Exit → Act → World → Prop} {a : Act} {w : World} {l : List Oper} (hm : P.follows .mixedOrders = true) (hB : Region.lexB .any l.toArray = true)
    (h : wpQuiet P l.toArray (fun w' => ∃ i : Wb w, w' = i.w) (fun a' => ∀ w', (∃ i : Wb w, w' = i.w) → Q .normal a' w') l a) : (Code.region id l.toArray true).wp P Q a w :=
  wp_region_quiet (C := fun w' => ∃ i : Wb w, w' = i.w) hm hB ⟨⟨{ w with drawn := w.drawn + 1 }, (Below.refl w.heap.size w).drew⟩, rfl⟩ (by simpa using h)
theorem wp_quiet_wb_tail {id : Nat} {Q : Exit → Act → World → Prop} {a : Act} {w : World} {l : List Oper} (n : Nat) (hm : P.follows .mixedOrders = true) (hB : Region.lexTailB .any l.toArray n = true)
    (h : wpQuiet P l.toArray (fun w' => ∃ i : Wb w, w' = i.w) (fun a' => ∀ w', (∃ i : Wb w, w' = i.w) → wpList P l.toArray Q (l.drop n) a' w') (l.take n) a) : (Code.region id l.toArray true).wp P Q a w :=
  wp_quiet_tail (C := fun w' => ∃ i : Wb w, w' = i.w) n hm hB ⟨⟨{ w with drawn := w.drawn + 1 }, (Below.refl w.heap.size w).drew⟩, rfl⟩ h
theorem quiet_of_wb {f : FuncId} {args : Array Value} {W : World} {i : Wb W} {v : Value} (h : Calls P f args i.w fun e w' => e = .returned v ∧ Below i.w.heap.size i.w w') :
    Calls P f args i.w fun e w'' => e = .returned v ∧ ∃ j : Wb W, w'' = j.w :=
  h.mono fun _ w' ⟨he, hb⟩ => ⟨he, ⟨w', i.h.trans (hb.mono i.h.size)⟩, rfl⟩
theorem quiet_of_wb_drew {f : FuncId} {args : Array Value} {W : World} {i : Wb W} {v : Value} (h : Calls P f args i.w fun e w' => e = .returned v ∧ ∃ n, w' = i.w.drewN n) :
    Calls P f args i.w fun e w'' => e = .returned v ∧ ∃ j : Wb W, w'' = j.w :=
  h.mono fun _ w' ⟨he, _, hb⟩ => ⟨he, ⟨w', hb ▸ ⟨i.h.os, i.h.tape, i.h.output, i.h.size, i.h.block⟩⟩, rfl⟩
theorem wb_cell {W : World} {b o : Nat} {v : Value} (h : W.cell? ⟨b, o, none⟩ = some v) (hb : b < W.heap.size) : ∀ i : Wb W, i.w.cell? ⟨b, o, none⟩ = some v := fun i => (i.h.cell (p := ⟨b, o, none⟩) hb).trans h
end
/-- Two cells below are kept by a call. -/
theorem hold2 {W W' : World} {b o o' : Nat} {u1 u2 : Value} (hb : Below W.heap.size W W') (h : b < W.heap.size) (h1 : W.cell? ⟨b, o, none⟩ = some u1) (h2 : W.cell? ⟨b, o', none⟩ = some u2) :
    W'.cell? ⟨b, o, none⟩ = some u1 ∧ W'.cell? ⟨b, o', none⟩ = some u2 ∧ W.heap.size ≤ W'.heap.size :=
  ⟨(hb.cell (p := ⟨b, o, none⟩) h).trans h1, (hb.cell (p := ⟨b, o', none⟩) h).trans h2, hb.size⟩
end Go.Proofs.YtkdehkkkbfackaaGreatDoor
namespace Go.Proofs.YtkdehkkkbfackaaGreatDoor
open Go
section
variable {P : Program} {ops : Array Oper} {md : Region.Mode} {S : World → Prop} {Q : Exit → Act → World → Prop}
/-- Which operations may come up, one after another. -/
inductive OT where
  | leaf : OT
  | one : Nat → OT → OT
  | two : Nat → OT → Nat → OT → OT
def OT.dep : OT → Nat → Bool
  | .leaf, f => f == 0
  | .one _ t, f => f != 0 && t.dep (f - 1)
  | .two _ t _ u, f => f != 0 && t.dep (f - 1) && u.dep (f - 1)
def midG (P : Program) (ops : Array Oper) (Q : Exit → Act → World → Prop) (S : World → Prop) (K : Act → World → Prop) : OT → Act → World → Prop
  | .leaf, a, w => K a w
  | .one k t, a, w => wpOp P ops Q k (fun a' w' => S w' ∧ midG P ops Q S K t a' w') a w
  | .two k t j u, a, w => wpOp P ops Q k (fun a' w' => S w' ∧ midG P ops Q S K t a' w') a w ∧ wpOp P ops Q j (fun a' w' => S w' ∧ midG P ops Q S K u a' w') a w
def seqG (md : Region.Mode) (ops : Array Oper) (n : Nat) : OT → Array Bool → Bool
  | .leaf, listed => Region.seqB md ops (ops.size - n) n listed
  | .one k t, listed => decide (Region.ready md ops listed = [k]) && decide (k < n) && seqG md ops n t (listed.setIfInBounds k true)
  | .two k t j u, listed => decide (Region.ready md ops listed = [k, j]) && decide (k < n) && decide (j < n) && seqG md ops n t (listed.setIfInBounds k true) && seqG md ops n u (listed.setIfInBounds j true)
def headG (md : Region.Mode) (ops : Array Oper) (n : Nat) (t : OT) : List Nat → Array Bool → Bool
  | [], listed => seqG md ops n t listed
  | k :: is, listed => (Region.ready md ops listed).contains k && Region.free md ops listed k && decide (k < n) && headG md ops n t is (listed.setIfInBounds k true)
def orderG (md : Region.Mode) (ops : Array Oper) (n : Nat) (is : List Nat) (t : OT) : Bool :=
  Region.noSelect ops && decide (is.length ≤ n) && t.dep (n - is.length) && decide (n < ops.size) && Region.sinkB md ops n && Region.chainB md ops n && headG md ops n t is (Array.replicate ops.size false)
theorem anyG_seq {n : Nat} {K : Act → World → Prop} : ∀ (t : OT) (f : Nat) (listed : Array Bool) (a : Act) (w : World), t.dep f = true → seqG md ops n t listed = true → midG P ops Q S K t a w → anyT P md ops Q S n K f listed a w
  | .leaf, f, listed, a, w, hd, hB, h => by
    obtain rfl : f = 0 := by simpa [OT.dep] using hd
    exact ⟨hB, h⟩
  | .one k t, f, listed, a, w, hd, hB, h => by
    simp only [OT.dep, Bool.and_eq_true, bne_iff_ne] at hd
    obtain ⟨g, rfl⟩ : ∃ g, f = g + 1 := ⟨f - 1, by omega⟩
    rw [seqG] at hB
    simp only [Bool.and_eq_true, decide_eq_true_eq] at hB
    obtain ⟨⟨h1, h2⟩, h3⟩ := hB
    refine ⟨fun h0 => (by rw [h1] at h0; cases h0), fun i hi => ?_⟩
    rw [h1] at hi
    obtain rfl : i = k := by simpa using hi
    exact ⟨h2, wpOp_mono (fun a' w' h' => ⟨h'.1, anyG_seq t g _ a' w' (by simpa using hd.2) h3 h'.2⟩) h⟩
  | .two k t j u, f, listed, a, w, hd, hB, h => by
    simp only [OT.dep, Bool.and_eq_true, bne_iff_ne] at hd
    obtain ⟨g, rfl⟩ : ∃ g, f = g + 1 := ⟨f - 1, by omega⟩
    rw [seqG] at hB
    simp only [Bool.and_eq_true, decide_eq_true_eq] at hB
    obtain ⟨⟨⟨⟨h1, h2⟩, h2'⟩, h3⟩, h4⟩ := hB
    refine ⟨fun h0 => (by rw [h1] at h0; cases h0), fun i hi => ?_⟩
    rw [h1] at hi
    have hi' : i = k ∨ i = j := by simpa using hi
    rcases hi' with rfl | rfl
    · exact ⟨h2, wpOp_mono (fun a' w' h' => ⟨h'.1, anyG_seq t g _ a' w' (by simpa using hd.1.2) h3 h'.2⟩) h.1⟩
    · exact ⟨h2', wpOp_mono (fun a' w' h' => ⟨h'.1, anyG_seq u g _ a' w' (by simpa using hd.2) h4 h'.2⟩) h.2⟩
theorem anyG_head {n : Nat} {K : Act → World → Prop} (hsel : Region.noSelect ops = true) (hs : Region.sinkB md ops n = true) (hc : Region.chainB md ops n = true) (hn : n < ops.size)
    (hQ : ∀ c a d v w, Q (.panic c) (Act.put a d v) w → Q (.panic c) a w) {t : OT} {f : Nat} (hd : t.dep f = true) :
    ∀ (is : List Nat) (listed : Array Bool) (a : Act) (w : World), HeadInv md ops n listed → headG md ops n t is listed = true → S w →
      headT P ops S (fun a' => midG P ops Q S K t a' w) is a → anyT P md ops Q S n K (is.length + f) listed a w
  | [], listed, a, w, _, hB, _, h => by
    rw [List.length_nil, Nat.zero_add]
    exact anyG_seq t f listed a w hd hB h
  | i :: is, listed, a, w, inv, hB, hS, h => by
    rw [headG] at hB
    simp only [Bool.and_eq_true, decide_eq_true_eq] at hB
    obtain ⟨⟨⟨h1, h2⟩, h3⟩, h4⟩ := hB
    obtain ⟨o, v, ho, hy, hk⟩ := h
    have hr : i ∈ Region.ready md ops listed := by simpa using h1
    have := anyT_first ho (Region.noSelect_spec hsel) hs hc hn h3 (fun c a w => hQ c a _ _ w) (is.length + f) listed a w inv (Region.free_spec ho h2) hr hy hS (anyG_head hsel hs hc hn hQ hd is _ _ w (inv.set hr h3) h4 hS hk)
    rw [List.length_cons, show is.length + 1 + f = is.length + f + 1 by omega]
    exact this
/-- Reads first, then a tree of operations that keep S, then the forced end. -/
theorem wp_region_tree {id : Nat} {a : Act} {w : World} {l : List Oper} (n : Nat) (is : List Nat) (t : OT) (hm : P.follows .mixedOrders = true) (hB : orderG .any l.toArray n is t = true)
    (hS : S w.drew)
    (h : headT P l.toArray S (fun a' => midG P l.toArray (NoPanic Q) S (wpList P l.toArray (NoPanic Q) (l.drop n)) t a' w.drew) is a) : (Code.region id l.toArray true).wp P Q a w := by
  simp only [orderG, Bool.and_eq_true, decide_eq_true_eq] at hB
  obtain ⟨⟨⟨⟨⟨⟨hsel, hlen⟩, hd⟩, hn⟩, hs⟩, hc⟩, hB⟩ := hB
  have inv0 : HeadInv .any l.toArray n (Array.replicate l.toArray.size false) :=
    ⟨by simp, fun j oj _ hl => (by rw [getD_replicate_false] at hl; cases hl), fun t _ ht => getD_in (by simpa using ht) (getD_replicate_false _ _)⟩
  refine wp_region_noPanic (wp_region_any hm ?_)
  have hdl : (l.drop n).length = l.toArray.size - n := by simp
  have := any_of_T (Q := NoPanic Q) (g := l.toArray.size - n) (fun listed a' w' h1 h2 => by
    have := wpAny_of_seq (md := .any) (Q' := NoPanic Q) (l.drop n) n listed a' w' (fun j => by simp [List.getElem?_drop]) (by rw [hdl]; exact h1) h2
    rwa [hdl] at this) _ _ _ _ (anyG_head (Q := NoPanic Q) hsel hs hc hn (fun _ _ _ _ _ h => h) hd is _ a w.drew inv0 hB hS h)
  rw [show is.length + (n - is.length) = n by omega, show n + (l.toArray.size - n) = l.toArray.size by omega] at this
  exact this
theorem midG_leaf {K : Act → World → Prop} {a : Act} {w : World} (h : K a w) : midG P ops Q S K .leaf a w := h
theorem midG_one {l : List Oper} {K : Act → World → Prop} {a : Act} {w : World} {k : Nat} {t : OT} {o : Oper} {r : List Oper} (ho : l.drop k = o :: r)
    (h : ∀ K' : Act → World → Prop, Shut (∀ a w, S w → (S w → midG P l.toArray Q S K t a w) → K' a w) → if Region.wanted o (yielded l.toArray a.tmps) = true then Oper.wp P o a w K' Q else K' (a.put o.dst undef) w) : midG P l.toArray Q S K (.one k t) a w :=
  wpOp_step (get_of_drop ho) (fun K' hK => h K' (fun a w hS hW => hK a w ⟨hS, hW hS⟩))
theorem midG_two {l : List Oper} {K : Act → World → Prop} {a : Act} {w : World} {k j : Nat} {t u : OT}
    (h1 : midG P l.toArray Q S K (.one k t) a w) (h2 : midG P l.toArray Q S K (.one j u) a w) : midG P l.toArray Q S K (.two k t j u) a w := ⟨h1, h2⟩
end
open Go.RowKit in
theorem rd_block {w w' : World} {a : Option Addr} {cs : List Value} (h : Rd w a cs) (hs : w.heap.size ≤ w'.heap.size) (hb : ∀ b off, a = some ⟨b, off, none⟩ → b < w.heap.size → w'.heap[b]? = w.heap[b]?) : Rd w' a cs := by
  intro h0
  obtain ⟨b, off, e, hlt, hc⟩ := h h0
  refine ⟨b, off, e, Nat.lt_of_lt_of_le hlt hs, fun i hi => ?_⟩
  rw [← hc i hi]
  simp only [World.cell?]
  rw [hb b off e hlt]
theorem own_ne {g X n c : Nat} (d : g ≠ X) : (Value.slice (some ⟨g, 0, none⟩) n c).ownBlock ≠ some X := fun e => d (Option.some.inj (show some g = some X from e))
end Go.Proofs.YtkdehkkkbfackaaGreatDoor
namespace Go.Proofs.YtkdehkkkbfackaaGreatDoor
open Go.RowKit Go.Shelf
/-- The last of the first k sets that has all of s, or -1. -/
def parZ (S : List Nat) (s : Nat) : Nat → Int
  | 0 => -1
  | k + 1 => if vA S k &&& s = s then (k : Int) else parZ S s k
theorem parZ_le (S : List Nat) (s : Nat) : ∀ k, parZ S s k < k ∧ -1 ≤ parZ S s k := by
  intro k
  induction k with
  | zero => simp [parZ]
  | succ k ih => unfold parZ; split <;> omega
/-- The sets and the nodes while the tree is built, each behind a pointer. -/
structure BldW (w : World) (base X2 X3 : Nat) (S : List Nat) (T : List Nd) (g2 c2 g3 c3 : Nat) : Prop where
  b2 : Blk w X2 #[.slice (some ⟨g2, 0, none⟩) S.length c2] 42
  b3 : Blk w X3 #[.slice (some ⟨g3, 0, none⟩) T.length c3] 25
  r2 : w.ownsRow base 41 1 (.slice (some ⟨g2, 0, none⟩) S.length c2) S.length (fl encV S)
  r3 : w.ownsRow base 40 2 (.slice (some ⟨g3, 0, none⟩) T.length c3) T.length (fl encNd T)
  d1 : g2 ≠ X2
  d2 : g2 ≠ X3
  d3 : g3 ≠ X2
  d4 : g3 ≠ X3
  d5 : g2 ≠ g3
  d6 : X2 ≠ X3
  h2 : base ≤ X2
  h3 : base ≤ X3
theorem gr_blk {w w' : World} {g : Nat} (h : w.grownBy w' (some g)) {B : Nat} {cs : Array Value} {t : TypeId} (hb : Blk w B cs t) (hne : B ≠ g) : Blk w' B cs t := hb.grown h (fun e => hne (Option.some.inj e))
theorem bld_end {w : World} {base X2 X3 : Nat} {S : List Nat} {T : List Nd} {n2 n3 g2 c2 g3 c3 : Nat} {u2 u3 : Value} (e2 : n2 = S.length) (e3 : n3 = T.length)
    (b2 : Blk w X2 #[u2] 42) (b3 : Blk w X3 #[u3] 25)
    (r2 : w.ownsRow base 41 1 (.slice (some ⟨g2, 0, none⟩) n2 c2) n2 (fl encV S)) (r3 : w.ownsRow base 40 2 (.slice (some ⟨g3, 0, none⟩) n3 c3) n3 (fl encNd T))
    (d1 : g2 ≠ X2) (d2 : g2 ≠ X3) (d3 : g3 ≠ X2) (d4 : g3 ≠ X3) (d5 : g2 ≠ g3) (d6 : X2 ≠ X3) (h2 : base ≤ X2) (h3 : base ≤ X3) :
    BldW ((w.setCell ⟨X2, 0, none⟩ (.slice (some ⟨g2, 0, none⟩) n2 c2)).setCell ⟨X3, 0, none⟩ (.slice (some ⟨g3, 0, none⟩) n3 c3)) base X2 X3 S T g2 c2 g3 c3 := by
  subst e2 e3
  have q2 := (b2.set 0 (.slice (some ⟨g2, 0, none⟩) S.length c2)).other d6 0 (.slice (some ⟨g3, 0, none⟩) T.length c3)
  have q3 := (b3.other (Ne.symm d6) 0 (.slice (some ⟨g2, 0, none⟩) S.length c2)).set 0 (.slice (some ⟨g3, 0, none⟩) T.length c3)
  refine ⟨q2, q3, ?_, ?_, d1, d2, d3, d4, d5, d6, h2, h3⟩
  · exact ownsRow_setCell_other (ownsRow_setCell_other r2 (own_ne d1) _) (own_ne d2) _
  · exact ownsRow_setCell_other (ownsRow_setCell_other r3 (own_ne d3) _) (own_ne d4) _
set_option maxRecDepth 100000 in
set_option maxHeartbeats 2000000 in
theorem bld1_any (X2 X3 base : Nat) (S : List Nat) (T : List Nd) (g2 c2 g3 c3 s : Nat) (nm : ByteArray) (w : World) (h : BldW w base X2 X3 S T g2 c2 g3 c3) (hs : s < 18446744073709551616) (hF : FitV S) (h0 : vA S 0 &&& s = s) (hl : 0 < S.length) (hS : S.length ≤ 1000) (hT : T.length ≤ 1000) :
    Calls Tryz.prog 9 #[.int .u64 s, .string nm, .pointer (some ⟨X2, 0, none⟩), .pointer (some ⟨X3, 0, none⟩)] w fun e w' => e = .returned (.tuple #[]) ∧
      (∃ g2' c2' g3' c3', BldW w' base X2 X3 (S ++ [s]) (T ++ [(parZ S s S.length, nm)]) g2' c2' g3' c3' ∧ (g2' = g2 ∨ w.heap.size ≤ g2') ∧ (g3' = g3 ∨ w.heap.size ≤ g3')) ∧ (∀ B, B < w.heap.size → B ≠ g2 → B ≠ g3 → B ≠ X2 → B ≠ X3 → w'.heap[B]? = w.heap[B]?) ∧ w.heap.size ≤ w'.heap.size ∧ (∀ a : World, Below a.heap.size a w → a.heap.size ≤ base → Below a.heap.size a w') := by
  obtain ⟨B2, B3, r2, r3, d1, d2, d3, d4, d5, d6, h2, h3⟩ := h
  have l2 := B2.lt
  have l3 := B3.lt
  have lg2 := (r2.lt g2 rfl)
  have lg3 := (r3.lt g3 rfl)
  have e2 : w.cell? ⟨X2, 0, none⟩ = some (.slice (some ⟨g2, 0, none⟩) S.length c2) := B2.cell 0
  have e3 : w.cell? ⟨X3, 0, none⟩ = some (.slice (some ⟨g3, 0, none⟩) T.length c3) := B3.cell 0
  have HR := Lib.hid (rd_of_owns r2)
  have HR2 := Lib.hid r2
  have HR3 := Lib.hid r3
  have HB2 := Lib.hid B2
  have HB3 := Lib.hid B3
  have HF := Lib.hid hF
  have H0 := Lib.hid h0
  clear r2 r3 B2 B3 hF h0
  obtain ⟨n2, hn2⟩ : ∃ n, n = S.length := ⟨_, rfl⟩
  obtain ⟨n3, hn3⟩ : ∃ n, n = T.length := ⟨_, rfl⟩
  rw [← hn2] at e2 hl hS HR2 HB2 ⊢
  rw [← hn3] at e3 hT HR3 HB3
  have HN2 := Lib.hid hn2
  have HN3 := Lib.hid hn3
  clear hn2 hn3
  go_enter Tryz.func9, Tryz.ntmps9
  go_upto_region 1 with fail
  go_loopw [6] (fun x wr => ∃ k : Nat, k < n2 ∧ x = .int .i64 k ∧ Hid (parZ S s n2 = parZ S s (k + 1)) ∧ wr = w) (fun x _ => (intOf x).toNat)
  case atStart => exact ⟨n2 - 1, by omega, by go_num, by show _ = _; rw [Nat.sub_add_cancel hl], rfl⟩
  case round =>
    obtain ⟨k, hk, rfl, hp, rfl⟩ := hrel
    obtain ⟨b, o, hbo, hb, hc⟩ := rdV HR.out (by rw [← HN2.out]; omega)
    simp only [Option.some.injEq, Addr.mk.injEq, and_true] at hbo
    obtain ⟨rfl, rfl⟩ := hbo
    have G := hc k (by rw [← HN2.out]; exact hk)
    have hx := HF.out k (by rw [← HN2.out]; exact hk)
    have hba := bits_and hx hs
    have HST : Hid (parZ S s (k + 1) = if vA S k &&& s = s then (k : Int) else parZ S s k) := rfl
    have HZ : Hid (k = 0 → vA S k &&& s = s) := fun e => by rw [e]; exact H0.out
    clear hc
    rw [Nat.zero_add] at G
    generalize vA S k = z at *
    obtain ⟨y, hy⟩ : ∃ y, z &&& s = y := ⟨_, rfl⟩
    rw [hy] at hba HST HZ
    clear hy
    by_cases q : y = s
    · have HP : Hid (parZ S s n2 = (k : Int)) := by show _ = _; rw [hp.out, HST.out, if_pos q]
      have t1 : ((y : Int) != (s : Int)) = false := by simp [q]
      have t2 : ((y : Int) == (s : Int)) = true := by simp [q]
      have t3 : decide ((y : Int) = (s : Int)) = true := by simp [q]
      clear HST HZ hp q
      go_upto_region 3 with fail
      refine wp_region_tree (S := fun w' => w'.cell? ⟨X2, 0, none⟩ = some (.slice (some ⟨g2, 0, none⟩) n2 c2) ∧ w'.cell? ⟨X3, 0, none⟩ = some (.slice (some ⟨g3, 0, none⟩) n3 c3)) 10 [0,4,1,5,6,7] (.two 2 (.two 3 (.one 8 (.one 9 .leaf)) 8 (.one 3 (.one 9 .leaf))) 8 (.one 2 (.one 3 (.one 9 .leaf)))) (by kernel_rfl) (by kernel_rfl) ⟨e2, e3⟩ ?_
      iterate 6 (refine headT_cons (by rfl) (by rfl) (by intro w hSw; obtain ⟨s0, s1⟩ := hSw; go_simp; try rfl) ?_; simp only [Act.put, List.setIfInBounds_toArray, List.set_cons_zero, List.set_cons_succ])
      refine headT_nil ?_
      obtain ⟨W0, hW0⟩ : ∃ x, x = wr.drew := ⟨_, rfl⟩
      rw [← hW0]
      have HB2_0 : Hid (Blk W0 X2 #[.slice (some ⟨g2, 0, none⟩) n2 c2] 42) := by show Blk W0 _ _ _; rw [hW0]; exact HB2.out
      have HB3_0 : Hid (Blk W0 X3 #[.slice (some ⟨g3, 0, none⟩) n3 c3] 25) := by show Blk W0 _ _ _; rw [hW0]; exact HB3.out
      have R2_0 : Hid (W0.ownsRow base 41 1 (.slice (some ⟨g2, 0, none⟩) n2 c2) n2 (fl encV S)) := by show World.ownsRow W0 _ _ _ _ _ _; rw [hW0]; exact HR2.out
      have R3_0 : Hid (W0.ownsRow base 40 2 (.slice (some ⟨g3, 0, none⟩) n3 c3) n3 (fl encNd T)) := by show World.ownsRow W0 _ _ _ _ _ _; rw [hW0]; exact HR3.out
      have HA_0 : Hid (∀ a : World, Below a.heap.size a wr → a.heap.size ≤ base → Below a.heap.size a W0) := fun a h1 _ => by rw [hW0]; exact bl_drewN h1 1
      have HO_0 : Hid (∀ B, B < wr.heap.size → B ≠ g2 → B ≠ g3 → W0.heap[B]? = wr.heap[B]?) := fun B _ _ _ => by rw [hW0]; rfl
      have s0 : wr.heap.size ≤ W0.heap.size := by rw [hW0]; exact Nat.le_refl _
      have FIN : Hid (∀ (W4 : World) (g2n c2n g3n c3n : Nat), Blk W4 X2 #[.slice (some ⟨g2, 0, none⟩) n2 c2] 42 → Blk W4 X3 #[.slice (some ⟨g3, 0, none⟩) n3 c3] 25 →
          W4.ownsRow base 41 1 (.slice (some ⟨g2n, 0, none⟩) (n2 + 1) c2n) (n2 + 1) (fl encV (S ++ [s])) → W4.ownsRow base 40 2 (.slice (some ⟨g3n, 0, none⟩) (n3 + 1) c3n) (n3 + 1) (fl encNd (T ++ [((k : Int), nm)])) →
          g2n ≠ X2 → g2n ≠ X3 → g3n ≠ X2 → g3n ≠ X3 → g2n ≠ g3n → (g2n = g2 ∨ wr.heap.size ≤ g2n) → (g3n = g3 ∨ wr.heap.size ≤ g3n) → wr.heap.size ≤ W4.heap.size → (∀ a : World, Below a.heap.size a wr → a.heap.size ≤ base → Below a.heap.size a W4) → (∀ B, B < wr.heap.size → B ≠ g2 → B ≠ g3 → W4.heap[B]? = wr.heap[B]?) →
          (∃ g2' c2' g3' c3', BldW ((W4.setCell ⟨X2, 0, none⟩ (.slice (some ⟨g2n, 0, none⟩) (n2 + 1) c2n)).setCell ⟨X3, 0, none⟩ (.slice (some ⟨g3n, 0, none⟩) (n3 + 1) c3n)) base X2 X3 (S ++ [s]) (T ++ [(parZ S s n2, nm)]) g2' c2' g3' c3' ∧ (g2' = g2 ∨ wr.heap.size ≤ g2') ∧ (g3' = g3 ∨ wr.heap.size ≤ g3')) ∧
            (∀ B, B < wr.heap.size → B ≠ g2 → B ≠ g3 → B ≠ X2 → B ≠ X3 → ((W4.setCell ⟨X2, 0, none⟩ (.slice (some ⟨g2n, 0, none⟩) (n2 + 1) c2n)).setCell ⟨X3, 0, none⟩ (.slice (some ⟨g3n, 0, none⟩) (n3 + 1) c3n)).heap[B]? = wr.heap[B]?) ∧ wr.heap.size ≤ ((W4.setCell ⟨X2, 0, none⟩ (.slice (some ⟨g2n, 0, none⟩) (n2 + 1) c2n)).setCell ⟨X3, 0, none⟩ (.slice (some ⟨g3n, 0, none⟩) (n3 + 1) c3n)).heap.size ∧
            (∀ a : World, Below a.heap.size a wr → a.heap.size ≤ base → Below a.heap.size a ((W4.setCell ⟨X2, 0, none⟩ (.slice (some ⟨g2n, 0, none⟩) (n2 + 1) c2n)).setCell ⟨X3, 0, none⟩ (.slice (some ⟨g3n, 0, none⟩) (n3 + 1) c3n)))) := by
        intro W4 g2n c2n g3n c3n b1 b2 o1 o2 x1 x2 x3 x4 x5 y2 y3 zs ha ho
        refine ⟨⟨g2n, c2n, g3n, c3n, ?_, y2, y3⟩, fun B q1 q2 q3 q4 q5 => ((Below.heap_setCell _ _ _ B q5).trans (Below.heap_setCell _ _ _ B q4)).trans (ho B q1 q2 q3), by simp [World.setCell]; exact zs, fun a q1 q2 => bl_set (bl_set (ha a q1 q2) _ _ _ _ (by omega)) _ _ _ _ (by omega)⟩
        rw [HP.out]
        exact bld_end (by rw [HN2.out]; simp) (by rw [HN3.out]; simp) b1 b2 o1 o2 x1 x2 x3 x4 x5 d6 h2 h3
      clear hW0 HB2 HB3 HR2 HR3
      refine midG_two ?_ ?_
      · refine midG_one (by rfl) (fun K hK => ?_)
        rw [if_pos (by rfl)]
        go_simp
        have s1 : W0.heap.size + 1 = (W0.alloc (.cells #[.int .u64 s] 41)).heap.size := by simp
        have HB2_1 := Lib.hid (HB2_0.out.alloc (.cells #[.int .u64 s] 41))
        have HB3_1 := Lib.hid (HB3_0.out.alloc (.cells #[.int .u64 s] 41))
        have R2_1 := Lib.hid (R2_0.out.alloc (.cells #[.int .u64 s] 41))
        have R3_1 := Lib.hid (R3_0.out.alloc (.cells #[.int .u64 s] 41))
        have N2_1 := Lib.hid (Blk.new W0 #[.int .u64 s] 41)
        have HA_1 : Hid (∀ a : World, Below a.heap.size a wr → a.heap.size ≤ base → Below a.heap.size a (W0.alloc (.cells #[.int .u64 s] 41))) := fun a h1 h2 => bl_alloc (HA_0.out a h1 h2) _
        have HO_1 : Hid (∀ B, B < wr.heap.size → B ≠ g2 → B ≠ g3 → (W0.alloc (.cells #[.int .u64 s] 41)).heap[B]? = wr.heap[B]?) := fun B q1 q2 q3 => (Below.heap_alloc W0 _ B (by omega)).trans (HO_0.out B q1 q2 q3)
        obtain ⟨W1, hW1⟩ : ∃ x, x = W0.alloc (.cells #[.int .u64 s] 41) := ⟨_, rfl⟩
        obtain ⟨M2, hM2⟩ : ∃ x, x = W0.heap.size := ⟨_, rfl⟩
        rw [← hW1] at s1 HB2_1 HB3_1 R2_1 R3_1 N2_1 HA_1 HO_1 ⊢
        rw [← hM2] at N2_1 ⊢
        have HM2 := Lib.hid hM2
        clear hW1 hM2
        refine hK.out _ _ ⟨HB2_1.out.cell 0, HB3_1.out.cell 0⟩ (fun _ => ?_)
        clear hK K
        try simp only [Act.put, List.setIfInBounds_toArray, List.set_cons_zero, List.set_cons_succ]
        refine midG_two ?_ ?_
        · refine midG_one (by rfl) (fun K hK => ?_)
          refine spush_G rfl (.tmp 20) (.tmp 22) rfl base (.slice (some ⟨g2, 0, none⟩) n2 c2) S n2 HN2.out rfl R2_1.out _ _ s rfl N2_1.out (by omega) (by omega) ?_
          intro g2n c2n W2 h1 h2 h3 h4
          have s2 := h2.size
          have HB2_2 := Lib.hid (gr_blk h2 HB2_1.out (Ne.symm d1))
          have HB3_2 := Lib.hid (gr_blk h2 HB3_1.out (Ne.symm d2))
          have R3_2 := Lib.hid (R3_1.out.kept h2 (.inr (own_ne (Ne.symm d5))))
          have R2_2 := Lib.hid h1
          have HA_2 : Hid (∀ a : World, Below a.heap.size a wr → a.heap.size ≤ base → Below a.heap.size a W2) := fun a q1 q2 => bl_grown (HA_1.out a q1 q2) h2 (fun r hr => by have := Option.some.inj (show some g2 = some r from hr); omega)
          have HO_2 : Hid (∀ B, B < wr.heap.size → B ≠ g2 → B ≠ g3 → W2.heap[B]? = wr.heap[B]?) := fun B q1 q2 q3 => (h2.block B (by omega) (fun e => q2 (Option.some.inj (show some B = some g2 from e)))).trans (HO_1.out B q1 q2 q3)
          have D2 : (g2n = g2 ∨ g2n = W1.heap.size) ∧ g2n < W2.heap.size := ⟨h3.imp (fun e => (Option.some.inj (show some g2 = some g2n from e)).symm) id, h4⟩
          clear h1 h2 h3 h4
          refine hK.out _ _ ⟨HB2_2.out.cell 0, HB3_2.out.cell 0⟩ (fun _ => ?_)
          clear hK K
          try simp only [Act.put, List.setIfInBounds_toArray, List.set_cons_zero, List.set_cons_succ]
          refine midG_one (by rfl) (fun K hK => ?_)
          rw [if_pos (by rfl)]
          go_simp
          have s3 : W2.heap.size + 1 = (W2.alloc (.cells #[.int .i64 k, .string nm] 40)).heap.size := by simp
          have HB2_3 := Lib.hid (HB2_2.out.alloc (.cells #[.int .i64 k, .string nm] 40))
          have HB3_3 := Lib.hid (HB3_2.out.alloc (.cells #[.int .i64 k, .string nm] 40))
          have R2_3 := Lib.hid (R2_2.out.alloc (.cells #[.int .i64 k, .string nm] 40))
          have R3_3 := Lib.hid (R3_2.out.alloc (.cells #[.int .i64 k, .string nm] 40))
          have N3_3 := Lib.hid (Blk.new W2 #[.int .i64 k, .string nm] 40)
          have HA_3 : Hid (∀ a : World, Below a.heap.size a wr → a.heap.size ≤ base → Below a.heap.size a (W2.alloc (.cells #[.int .i64 k, .string nm] 40))) := fun a h1 h2 => bl_alloc (HA_2.out a h1 h2) _
          have HO_3 : Hid (∀ B, B < wr.heap.size → B ≠ g2 → B ≠ g3 → (W2.alloc (.cells #[.int .i64 k, .string nm] 40)).heap[B]? = wr.heap[B]?) := fun B q1 q2 q3 => (Below.heap_alloc W2 _ B (by omega)).trans (HO_2.out B q1 q2 q3)
          obtain ⟨W3, hW3⟩ : ∃ x, x = W2.alloc (.cells #[.int .i64 k, .string nm] 40) := ⟨_, rfl⟩
          obtain ⟨M3, hM3⟩ : ∃ x, x = W2.heap.size := ⟨_, rfl⟩
          rw [← hW3] at s3 HB2_3 HB3_3 R2_3 R3_3 N3_3 HA_3 HO_3 ⊢
          rw [← hM3] at N3_3 ⊢
          have HM3 := Lib.hid hM3
          clear hW3 hM3
          refine hK.out _ _ ⟨HB2_3.out.cell 0, HB3_3.out.cell 0⟩ (fun _ => ?_)
          clear hK K
          try simp only [Act.put, List.setIfInBounds_toArray, List.set_cons_zero, List.set_cons_succ]
          refine midG_one (by rfl) (fun K hK => ?_)
          refine spush_Nd rfl (.tmp 24) (.tmp 28) rfl base (.slice (some ⟨g3, 0, none⟩) n3 c3) T n3 HN3.out rfl R3_3.out _ _ ((k : Int), nm) rfl N3_3.out (by omega) (by omega) ?_
          intro g3n c3n W4 h1 h2 h3 h4
          have HB2_4 := Lib.hid (gr_blk h2 HB2_3.out (Ne.symm d3))
          have HB3_4 := Lib.hid (gr_blk h2 HB3_3.out (Ne.symm d4))
          have E2n : g2n ≠ g3 := by omega
          have R2_4 := Lib.hid (R2_3.out.kept h2 (.inr (own_ne E2n)))
          have R3_4 := Lib.hid h1
          have HA_4 : Hid (∀ a : World, Below a.heap.size a wr → a.heap.size ≤ base → Below a.heap.size a W4) := fun a q1 q2 => bl_grown (HA_3.out a q1 q2) h2 (fun r hr => by have := Option.some.inj (show some g3 = some r from hr); omega)
          have HO_4 : Hid (∀ B, B < wr.heap.size → B ≠ g2 → B ≠ g3 → W4.heap[B]? = wr.heap[B]?) := fun B q1 q2 q3 => (h2.block B (by omega) (fun e => q3 (Option.some.inj (show some B = some g3 from e)))).trans (HO_3.out B q1 q2 q3)
          have s4 := h2.size
          have D3 : g3n = g3 ∨ g3n = W3.heap.size := h3.imp (fun e => (Option.some.inj (show some g3 = some g3n from e)).symm) id
          clear h1 h2 h3 h4
          refine hK.out _ _ ⟨HB2_4.out.cell 0, HB3_4.out.cell 0⟩ (fun _ => ?_)
          clear hK K
          try simp only [Act.put, List.setIfInBounds_toArray, List.set_cons_zero, List.set_cons_succ]
          refine midG_leaf ?_
          have q2 : W4.cell? ⟨X2, 0, none⟩ = some (.slice (some ⟨g2, 0, none⟩) n2 c2) := HB2_4.out.cell 0
          have q3 : W4.cell? ⟨X3, 0, none⟩ = some (.slice (some ⟨g3, 0, none⟩) n3 c3) := HB3_4.out.cell 0
          have f2 : W4.frozen? ⟨X2, 0, none⟩ = false := HB2_4.out.free 0
          have f3 : W4.frozen? ⟨X3, 0, none⟩ = false := HB3_4.out.free 0
          clear e2 e3 G
          simp only [List.drop_succ_cons, List.drop_zero]
          go_wp2_with fail
          refine NoPanic.normal ?_
          go_wp2_with fail
          go_end0
          exact ⟨rfl, FIN.out W4 g2n c2n g3n c3n HB2_4.out HB3_4.out R2_4.out R3_4.out (by omega) (by omega) (by omega) (by omega) (by omega) (by omega) (by omega) (by omega) HA_4.out HO_4.out⟩
        · refine midG_one (by rfl) (fun K hK => ?_)
          rw [if_pos (by rfl)]
          go_simp
          have s2 : W1.heap.size + 1 = (W1.alloc (.cells #[.int .i64 k, .string nm] 40)).heap.size := by simp
          have HB2_2 := Lib.hid (HB2_1.out.alloc (.cells #[.int .i64 k, .string nm] 40))
          have HB3_2 := Lib.hid (HB3_1.out.alloc (.cells #[.int .i64 k, .string nm] 40))
          have R2_2 := Lib.hid (R2_1.out.alloc (.cells #[.int .i64 k, .string nm] 40))
          have R3_2 := Lib.hid (R3_1.out.alloc (.cells #[.int .i64 k, .string nm] 40))
          have N2_2 := Lib.hid (N2_1.out.alloc (.cells #[.int .i64 k, .string nm] 40))
          have N3_2 := Lib.hid (Blk.new W1 #[.int .i64 k, .string nm] 40)
          have HA_2 : Hid (∀ a : World, Below a.heap.size a wr → a.heap.size ≤ base → Below a.heap.size a (W1.alloc (.cells #[.int .i64 k, .string nm] 40))) := fun a h1 h2 => bl_alloc (HA_1.out a h1 h2) _
          have HO_2 : Hid (∀ B, B < wr.heap.size → B ≠ g2 → B ≠ g3 → (W1.alloc (.cells #[.int .i64 k, .string nm] 40)).heap[B]? = wr.heap[B]?) := fun B q1 q2 q3 => (Below.heap_alloc W1 _ B (by omega)).trans (HO_1.out B q1 q2 q3)
          obtain ⟨W2, hW2⟩ : ∃ x, x = W1.alloc (.cells #[.int .i64 k, .string nm] 40) := ⟨_, rfl⟩
          obtain ⟨M3, hM3⟩ : ∃ x, x = W1.heap.size := ⟨_, rfl⟩
          rw [← hW2] at s2 HB2_2 HB3_2 R2_2 R3_2 N3_2 HA_2 HO_2 N2_2 ⊢
          rw [← hM3] at N3_2 ⊢
          have HM3 := Lib.hid hM3
          clear hW2 hM3
          refine hK.out _ _ ⟨HB2_2.out.cell 0, HB3_2.out.cell 0⟩ (fun _ => ?_)
          clear hK K
          try simp only [Act.put, List.setIfInBounds_toArray, List.set_cons_zero, List.set_cons_succ]
          refine midG_one (by rfl) (fun K hK => ?_)
          refine spush_G rfl (.tmp 20) (.tmp 22) rfl base (.slice (some ⟨g2, 0, none⟩) n2 c2) S n2 HN2.out rfl R2_2.out _ _ s rfl N2_2.out (by omega) (by omega) ?_
          intro g2n c2n W3 h1 h2 h3 h4
          have s3 := h2.size
          have HB2_3 := Lib.hid (gr_blk h2 HB2_2.out (Ne.symm d1))
          have HB3_3 := Lib.hid (gr_blk h2 HB3_2.out (Ne.symm d2))
          have R3_3 := Lib.hid (R3_2.out.kept h2 (.inr (own_ne (Ne.symm d5))))
          have N3_3 := Lib.hid (gr_blk (g := g2) h2 N3_2.out (by have := HM3.out; omega))
          have R2_3 := Lib.hid h1
          have HA_3 : Hid (∀ a : World, Below a.heap.size a wr → a.heap.size ≤ base → Below a.heap.size a W3) := fun a q1 q2 => bl_grown (HA_2.out a q1 q2) h2 (fun r hr => by have := Option.some.inj (show some g2 = some r from hr); omega)
          have HO_3 : Hid (∀ B, B < wr.heap.size → B ≠ g2 → B ≠ g3 → W3.heap[B]? = wr.heap[B]?) := fun B q1 q2 q3 => (h2.block B (by omega) (fun e => q2 (Option.some.inj (show some B = some g2 from e)))).trans (HO_2.out B q1 q2 q3)
          have D2 : (g2n = g2 ∨ g2n = W2.heap.size) ∧ g2n < W3.heap.size := ⟨h3.imp (fun e => (Option.some.inj (show some g2 = some g2n from e)).symm) id, h4⟩
          clear h1 h2 h3 h4
          refine hK.out _ _ ⟨HB2_3.out.cell 0, HB3_3.out.cell 0⟩ (fun _ => ?_)
          clear hK K
          try simp only [Act.put, List.setIfInBounds_toArray, List.set_cons_zero, List.set_cons_succ]
          refine midG_one (by rfl) (fun K hK => ?_)
          refine spush_Nd rfl (.tmp 24) (.tmp 28) rfl base (.slice (some ⟨g3, 0, none⟩) n3 c3) T n3 HN3.out rfl R3_3.out _ _ ((k : Int), nm) rfl N3_3.out (by omega) (by omega) ?_
          intro g3n c3n W4 h1 h2 h3 h4
          have HB2_4 := Lib.hid (gr_blk h2 HB2_3.out (Ne.symm d3))
          have HB3_4 := Lib.hid (gr_blk h2 HB3_3.out (Ne.symm d4))
          have E2n : g2n ≠ g3 := by omega
          have R2_4 := Lib.hid (R2_3.out.kept h2 (.inr (own_ne E2n)))
          have R3_4 := Lib.hid h1
          have HA_4 : Hid (∀ a : World, Below a.heap.size a wr → a.heap.size ≤ base → Below a.heap.size a W4) := fun a q1 q2 => bl_grown (HA_3.out a q1 q2) h2 (fun r hr => by have := Option.some.inj (show some g3 = some r from hr); omega)
          have HO_4 : Hid (∀ B, B < wr.heap.size → B ≠ g2 → B ≠ g3 → W4.heap[B]? = wr.heap[B]?) := fun B q1 q2 q3 => (h2.block B (by omega) (fun e => q3 (Option.some.inj (show some B = some g3 from e)))).trans (HO_3.out B q1 q2 q3)
          have s4 := h2.size
          have D3 : g3n = g3 ∨ g3n = W3.heap.size := h3.imp (fun e => (Option.some.inj (show some g3 = some g3n from e)).symm) id
          clear h1 h2 h3 h4
          refine hK.out _ _ ⟨HB2_4.out.cell 0, HB3_4.out.cell 0⟩ (fun _ => ?_)
          clear hK K
          try simp only [Act.put, List.setIfInBounds_toArray, List.set_cons_zero, List.set_cons_succ]
          refine midG_leaf ?_
          have q2 : W4.cell? ⟨X2, 0, none⟩ = some (.slice (some ⟨g2, 0, none⟩) n2 c2) := HB2_4.out.cell 0
          have q3 : W4.cell? ⟨X3, 0, none⟩ = some (.slice (some ⟨g3, 0, none⟩) n3 c3) := HB3_4.out.cell 0
          have f2 : W4.frozen? ⟨X2, 0, none⟩ = false := HB2_4.out.free 0
          have f3 : W4.frozen? ⟨X3, 0, none⟩ = false := HB3_4.out.free 0
          clear e2 e3 G
          simp only [List.drop_succ_cons, List.drop_zero]
          go_wp2_with fail
          refine NoPanic.normal ?_
          go_wp2_with fail
          go_end0
          exact ⟨rfl, FIN.out W4 g2n c2n g3n c3n HB2_4.out HB3_4.out R2_4.out R3_4.out (by omega) (by omega) (by omega) (by omega) (by omega) (by omega) (by omega) (by omega) HA_4.out HO_4.out⟩
      · refine midG_one (by rfl) (fun K hK => ?_)
        rw [if_pos (by rfl)]
        go_simp
        have s1 : W0.heap.size + 1 = (W0.alloc (.cells #[.int .i64 k, .string nm] 40)).heap.size := by simp
        have HB2_1 := Lib.hid (HB2_0.out.alloc (.cells #[.int .i64 k, .string nm] 40))
        have HB3_1 := Lib.hid (HB3_0.out.alloc (.cells #[.int .i64 k, .string nm] 40))
        have R2_1 := Lib.hid (R2_0.out.alloc (.cells #[.int .i64 k, .string nm] 40))
        have R3_1 := Lib.hid (R3_0.out.alloc (.cells #[.int .i64 k, .string nm] 40))
        have N3_1 := Lib.hid (Blk.new W0 #[.int .i64 k, .string nm] 40)
        have HA_1 : Hid (∀ a : World, Below a.heap.size a wr → a.heap.size ≤ base → Below a.heap.size a (W0.alloc (.cells #[.int .i64 k, .string nm] 40))) := fun a h1 h2 => bl_alloc (HA_0.out a h1 h2) _
        have HO_1 : Hid (∀ B, B < wr.heap.size → B ≠ g2 → B ≠ g3 → (W0.alloc (.cells #[.int .i64 k, .string nm] 40)).heap[B]? = wr.heap[B]?) := fun B q1 q2 q3 => (Below.heap_alloc W0 _ B (by omega)).trans (HO_0.out B q1 q2 q3)
        obtain ⟨W1, hW1⟩ : ∃ x, x = W0.alloc (.cells #[.int .i64 k, .string nm] 40) := ⟨_, rfl⟩
        obtain ⟨M3, hM3⟩ : ∃ x, x = W0.heap.size := ⟨_, rfl⟩
        rw [← hW1] at s1 HB2_1 HB3_1 R2_1 R3_1 N3_1 HA_1 HO_1 ⊢
        rw [← hM3] at N3_1 ⊢
        have HM3 := Lib.hid hM3
        clear hW1 hM3
        refine hK.out _ _ ⟨HB2_1.out.cell 0, HB3_1.out.cell 0⟩ (fun _ => ?_)
        clear hK K
        try simp only [Act.put, List.setIfInBounds_toArray, List.set_cons_zero, List.set_cons_succ]
        refine midG_one (by rfl) (fun K hK => ?_)
        rw [if_pos (by rfl)]
        go_simp
        have s2 : W1.heap.size + 1 = (W1.alloc (.cells #[.int .u64 s] 41)).heap.size := by simp
        have HB2_2 := Lib.hid (HB2_1.out.alloc (.cells #[.int .u64 s] 41))
        have HB3_2 := Lib.hid (HB3_1.out.alloc (.cells #[.int .u64 s] 41))
        have R2_2 := Lib.hid (R2_1.out.alloc (.cells #[.int .u64 s] 41))
        have R3_2 := Lib.hid (R3_1.out.alloc (.cells #[.int .u64 s] 41))
        have N3_2 := Lib.hid (N3_1.out.alloc (.cells #[.int .u64 s] 41))
        have N2_2 := Lib.hid (Blk.new W1 #[.int .u64 s] 41)
        have HA_2 : Hid (∀ a : World, Below a.heap.size a wr → a.heap.size ≤ base → Below a.heap.size a (W1.alloc (.cells #[.int .u64 s] 41))) := fun a h1 h2 => bl_alloc (HA_1.out a h1 h2) _
        have HO_2 : Hid (∀ B, B < wr.heap.size → B ≠ g2 → B ≠ g3 → (W1.alloc (.cells #[.int .u64 s] 41)).heap[B]? = wr.heap[B]?) := fun B q1 q2 q3 => (Below.heap_alloc W1 _ B (by omega)).trans (HO_1.out B q1 q2 q3)
        obtain ⟨W2, hW2⟩ : ∃ x, x = W1.alloc (.cells #[.int .u64 s] 41) := ⟨_, rfl⟩
        obtain ⟨M2, hM2⟩ : ∃ x, x = W1.heap.size := ⟨_, rfl⟩
        rw [← hW2] at s2 HB2_2 HB3_2 R2_2 R3_2 N2_2 HA_2 HO_2 N3_2 ⊢
        rw [← hM2] at N2_2 ⊢
        have HM2 := Lib.hid hM2
        clear hW2 hM2
        refine hK.out _ _ ⟨HB2_2.out.cell 0, HB3_2.out.cell 0⟩ (fun _ => ?_)
        clear hK K
        try simp only [Act.put, List.setIfInBounds_toArray, List.set_cons_zero, List.set_cons_succ]
        refine midG_one (by rfl) (fun K hK => ?_)
        refine spush_G rfl (.tmp 20) (.tmp 22) rfl base (.slice (some ⟨g2, 0, none⟩) n2 c2) S n2 HN2.out rfl R2_2.out _ _ s rfl N2_2.out (by omega) (by omega) ?_
        intro g2n c2n W3 h1 h2 h3 h4
        have s3 := h2.size
        have HB2_3 := Lib.hid (gr_blk h2 HB2_2.out (Ne.symm d1))
        have HB3_3 := Lib.hid (gr_blk h2 HB3_2.out (Ne.symm d2))
        have R3_3 := Lib.hid (R3_2.out.kept h2 (.inr (own_ne (Ne.symm d5))))
        have N3_3 := Lib.hid (gr_blk (g := g2) h2 N3_2.out (by have := HM3.out; omega))
        have R2_3 := Lib.hid h1
        have HA_3 : Hid (∀ a : World, Below a.heap.size a wr → a.heap.size ≤ base → Below a.heap.size a W3) := fun a q1 q2 => bl_grown (HA_2.out a q1 q2) h2 (fun r hr => by have := Option.some.inj (show some g2 = some r from hr); omega)
        have HO_3 : Hid (∀ B, B < wr.heap.size → B ≠ g2 → B ≠ g3 → W3.heap[B]? = wr.heap[B]?) := fun B q1 q2 q3 => (h2.block B (by omega) (fun e => q2 (Option.some.inj (show some B = some g2 from e)))).trans (HO_2.out B q1 q2 q3)
        have D2 : (g2n = g2 ∨ g2n = W2.heap.size) ∧ g2n < W3.heap.size := ⟨h3.imp (fun e => (Option.some.inj (show some g2 = some g2n from e)).symm) id, h4⟩
        clear h1 h2 h3 h4
        refine hK.out _ _ ⟨HB2_3.out.cell 0, HB3_3.out.cell 0⟩ (fun _ => ?_)
        clear hK K
        try simp only [Act.put, List.setIfInBounds_toArray, List.set_cons_zero, List.set_cons_succ]
        refine midG_one (by rfl) (fun K hK => ?_)
        refine spush_Nd rfl (.tmp 24) (.tmp 28) rfl base (.slice (some ⟨g3, 0, none⟩) n3 c3) T n3 HN3.out rfl R3_3.out _ _ ((k : Int), nm) rfl N3_3.out (by omega) (by omega) ?_
        intro g3n c3n W4 h1 h2 h3 h4
        have HB2_4 := Lib.hid (gr_blk h2 HB2_3.out (Ne.symm d3))
        have HB3_4 := Lib.hid (gr_blk h2 HB3_3.out (Ne.symm d4))
        have E2n : g2n ≠ g3 := by omega
        have R2_4 := Lib.hid (R2_3.out.kept h2 (.inr (own_ne E2n)))
        have R3_4 := Lib.hid h1
        have HA_4 : Hid (∀ a : World, Below a.heap.size a wr → a.heap.size ≤ base → Below a.heap.size a W4) := fun a q1 q2 => bl_grown (HA_3.out a q1 q2) h2 (fun r hr => by have := Option.some.inj (show some g3 = some r from hr); omega)
        have HO_4 : Hid (∀ B, B < wr.heap.size → B ≠ g2 → B ≠ g3 → W4.heap[B]? = wr.heap[B]?) := fun B q1 q2 q3 => (h2.block B (by omega) (fun e => q3 (Option.some.inj (show some B = some g3 from e)))).trans (HO_3.out B q1 q2 q3)
        have s4 := h2.size
        have D3 : g3n = g3 ∨ g3n = W3.heap.size := h3.imp (fun e => (Option.some.inj (show some g3 = some g3n from e)).symm) id
        clear h1 h2 h3 h4
        refine hK.out _ _ ⟨HB2_4.out.cell 0, HB3_4.out.cell 0⟩ (fun _ => ?_)
        clear hK K
        try simp only [Act.put, List.setIfInBounds_toArray, List.set_cons_zero, List.set_cons_succ]
        refine midG_leaf ?_
        have q2 : W4.cell? ⟨X2, 0, none⟩ = some (.slice (some ⟨g2, 0, none⟩) n2 c2) := HB2_4.out.cell 0
        have q3 : W4.cell? ⟨X3, 0, none⟩ = some (.slice (some ⟨g3, 0, none⟩) n3 c3) := HB3_4.out.cell 0
        have f2 : W4.frozen? ⟨X2, 0, none⟩ = false := HB2_4.out.free 0
        have f3 : W4.frozen? ⟨X3, 0, none⟩ = false := HB3_4.out.free 0
        clear e2 e3 G
        simp only [List.drop_succ_cons, List.drop_zero]
        go_wp2_with fail
        refine NoPanic.normal ?_
        go_wp2_with fail
        go_end0
        exact ⟨rfl, FIN.out W4 g2n c2n g3n c3n HB2_4.out HB3_4.out R2_4.out R3_4.out (by omega) (by omega) (by omega) (by omega) (by omega) (by omega) (by omega) (by omega) HA_4.out HO_4.out⟩
    · have HP : Hid (parZ S s n2 = parZ S s k) := by show _ = _; rw [hp.out, HST.out, if_neg q]
      have hk0 : 0 < k := by
        by_cases e : k = 0
        · exact absurd (HZ.out e) q
        · omega
      have t1 : ((y : Int) != (s : Int)) = true := by simp; omega
      have t2 : ((y : Int) == (s : Int)) = false := by simp; omega
      have t3 : decide ((y : Int) = (s : Int)) = false := by simp; omega
      clear HST HZ hp q
      go_wp2_with fail
      go_roundw
      case rel => exact ⟨k - 1, by omega, by go_num, by rw [Nat.sub_add_cancel hk0]; exact HP, by trivial⟩
      case measure => simp [intOf]; omega
end Go.Proofs.YtkdehkkkbfackaaGreatDoor
namespace Go.Proofs.YtkdehkkkbfackaaGreatDoor
open Go.RowKit
/-- A byte that may be in a name. -/
def ltrI (n : Int) : Bool := decide (97 ≤ n ∧ n ≤ 122 ∨ 65 ≤ n ∧ n ≤ 90 ∨ 48 ≤ n ∧ n ≤ 57 ∨ n = 45)
set_option maxHeartbeats 4000000 in
theorem letter_any (n : Int) (w : World) (h0 : 0 ≤ n) (h1 : n ≤ 255) : Calls Tryz.prog 59 #[.int .u8 n] w fun e w' => e = .returned (.bool (ltrI n)) ∧ w' = w := by
  obtain ⟨r, hr⟩ : ∃ r, r = ltrI n := ⟨_, rfl⟩
  have HR : Hid (r = decide (97 ≤ n ∧ n ≤ 122 ∨ 65 ≤ n ∧ n ≤ 90 ∨ 48 ≤ n ∧ n ≤ 57 ∨ n = 45)) := hr
  rw [← hr]
  clear hr
  by_cases H : 97 ≤ n ∧ n ≤ 122 ∨ 65 ≤ n ∧ n ≤ 90 ∨ 48 ≤ n ∧ n ≤ 57 ∨ n = 45
  · have HV : Hid (r = true) := by show _ = _; rw [HR.out]; exact decide_eq_true H
    by_cases a7 : n = 45
    · have b1 : ¬ 97 ≤ n := by omega
      have b2 : ¬ 65 ≤ n := by omega
      have b3 : ¬ 48 ≤ n := by omega
      have b4 : (n == 45) = true := by simp [a7]
      first
        | omega
        | (clear a7 H
           go_enter Tryz.func59, Tryz.ntmps59
           go_wp2
           go_ret
           exact ⟨ret_b (by rw [HV.out]; try simp [*]), rfl⟩)
    · have b4 : (n == 45) = false := by simp [a7]
      by_cases a1 : 97 ≤ n <;> by_cases a2 : n ≤ 122 <;> by_cases a3 : 65 ≤ n <;> by_cases a4 : n ≤ 90 <;> by_cases a5 : 48 ≤ n <;> by_cases a6 : n ≤ 57
      all_goals first
        | omega
        | (clear a7 H
           go_enter Tryz.func59, Tryz.ntmps59
           go_wp2
           go_ret
           exact ⟨ret_b (by rw [HV.out]; try simp [*]), rfl⟩)
  · have HV : Hid (r = false) := by show _ = _; rw [HR.out]; exact decide_eq_false H
    by_cases a7 : n = 45
    · have b1 : ¬ 97 ≤ n := by omega
      have b2 : ¬ 65 ≤ n := by omega
      have b3 : ¬ 48 ≤ n := by omega
      have b4 : (n == 45) = true := by simp [a7]
      first
        | omega
        | (clear a7 H
           go_enter Tryz.func59, Tryz.ntmps59
           go_wp2
           go_ret
           exact ⟨ret_b (by rw [HV.out]; try simp [*]), rfl⟩)
    · have b4 : (n == 45) = false := by simp [a7]
      by_cases a1 : 97 ≤ n <;> by_cases a2 : n ≤ 122 <;> by_cases a3 : 65 ≤ n <;> by_cases a4 : n ≤ 90 <;> by_cases a5 : 48 ≤ n <;> by_cases a6 : n ≤ 57
      all_goals first
        | omega
        | (clear a7 H
           go_enter Tryz.func59, Tryz.ntmps59
           go_wp2
           go_ret
           exact ⟨ret_b (by rw [HV.out]; try simp [*]), rfl⟩)
/-- A name: 1 to 24 letters. -/
def nmB (s : ByteArray) : Bool := (s.data.toList.all fun c => ltrI c.toNat) && decide (0 < s.size) && decide (s.size ≤ 24)
set_option maxHeartbeats 1000000 in
theorem named_any (s : ByteArray) (w : World) (hs : s.size ≤ 9223372036854775807) : Calls Tryz.prog 38 #[.string s] w fun e w' => e = .returned (.bool (nmB s)) ∧ w' = w := by
  go_enter Tryz.func38, Tryz.ntmps38
  go_wp2_with fail
  go_loopw [6, 3] (fun x _ wr => ∃ k : Nat, k ≤ s.size ∧ x = .int .i64 k ∧ Hid ((s.data.toList.take k).all (fun c => ltrI c.toNat) = true) ∧ wr = w) (fun x _ _ => s.size - (intOf x).toNat)
  case atStart => exact ⟨0, by omega, rfl, rfl, rfl⟩
  case round =>
    obtain ⟨k, hk, rfl, hal, rfl⟩ := hrel
    by_cases hlt : k < s.size
    · have hts : s.data.toList.take (k + 1) = s.data.toList.take k ++ [s[k]] := by
        rw [List.take_succ_eq_append_getElem (by simpa using hlt)]; rfl
      have HNX : Hid ((s.data.toList.take (k + 1)).all (fun c => ltrI c.toNat) = ((s.data.toList.take k).all (fun c => ltrI c.toNat) && ltrI s[k].toNat)) := by
        show _ = _
        rw [hts, List.all_append]; simp
      have HNO : Hid (ltrI s[k].toNat = false → nmB s = false) := fun h => by
        have : s.data.toList.all (fun c => ltrI c.toNat) = false := by
          rw [List.all_eq_false]
          exact ⟨s[k], by exact Array.mem_toList_iff.2 (Array.getElem_mem _), by rw [h]; simp⟩
        rw [nmB, this]; rfl
      clear hts
      have hc0 : (0 : Int) ≤ (s[k].toNat : Int) := by omega
      have hc1 : (s[k].toNat : Int) ≤ 255 := by have := s[k].toNat_lt; omega
      go_wp2_with fail
      refine (letter_any _ _ hc0 hc1).mono ?_
      rintro e w' ⟨rfl, rfl⟩
      rcases Bool.eq_false_or_eq_true (ltrI s[k].toNat) with hp | hp
      · have HP := Lib.hid hp
        rw [hp]
        clear hp
        go_wp2_with fail
        go_roundw
        case rel => exact ⟨k + 1, by omega, by go_num, by show _ = _; rw [HNX.out, hal.out, HP.out]; rfl, by trivial⟩
        case measure => simp [intOf]; omega
      · have HP := Lib.hid hp
        rw [hp]
        clear hp
        go_wp2_with fail
        go_ret
        exact ⟨ret_b (HNO.out HP.out).symm, rfl⟩
    · have e : k = s.size := by omega
      have hfin : Hid (nmB s = (decide (0 < s.size) && decide (s.size ≤ 24))) := by
        have h1 := hal.out
        rw [e, List.take_of_length_le (by simp)] at h1
        show _ = _
        rw [nmB, h1]; rfl
      clear hal
      by_cases b1 : 0 < s.size
      · have b1' : decide (0 < s.size) = true := by simpa using b1
        go_wp2_with fail
        go_ret
        exact ⟨ret_b (by rw [hfin.out, b1']; simp; omega), rfl⟩
      · have b1' : decide (0 < s.size) = false := by simpa using b1
        go_wp2_with fail
        go_ret
        exact ⟨ret_b (by rw [hfin.out, b1']; simp), rfl⟩
end Go.Proofs.YtkdehkkkbfackaaGreatDoor
namespace Go.Proofs.YtkdehkkkbfackaaGreatDoor
open Go.RowKit Go.Maps
theorem law9 : Keyed Tryz.prog 9 := string_keyed Tryz.underlying9
theorem strLit_inj {s t : ByteArray} : (Lit.string s.data.toList) = Lit.string t.data.toList ↔ s = t := by
  constructor
  · intro h
    injection h with h
    exact ByteArray.ext (by rw [← Array.toList_inj]; exact h)
  · intro h; rw [h]
/-- A map's content, changed at one key. -/
def updS {α : Type} (F : ByteArray → α) (s : ByteArray) (v : α) : ByteArray → α := fun t => if t = s then v else F t
/-- Block b is a map from strings to numbers (to bools) that reads as F. -/
def MI (w : World) (b n : Nat) (F : ByteArray → Int) : Prop := ∃ D : DataW Unit, w.ownsMap Tryz.prog 9 (plainElem Tryz.prog 3) b n D ∧ ∀ s : ByteArray, D.atKey (.string s.data.toList) (.lit (.int .i64 0)) = .lit (.int .i64 (F s))
def MB (w : World) (b n : Nat) (F : ByteArray → Bool) : Prop := ∃ D : DataW Unit, w.ownsMap Tryz.prog 9 (plainElem Tryz.prog 4) b n D ∧ ∀ s : ByteArray, D.atKey (.string s.data.toList) (.lit (.bool false)) = .lit (.bool (F s))
theorem MI.made (w : World) : MI (w.alloc (.map #[] 0)) w.heap.size 0 (fun _ => 0) := ⟨_, World.ownsMap_made w _ _ _, fun _ => rfl⟩
theorem MB.made (w : World) : MB (w.alloc (.map #[] 0)) w.heap.size 0 (fun _ => false) := ⟨_, World.ownsMap_made w _ _ _, fun _ => rfl⟩
theorem MI.kept {w w' : World} {b n : Nat} {F : ByteArray → Int} {row : Option Nat} (h : MI w b n F) (hg : w.grownBy w' row) (hne : some b ≠ row) : MI w' b n F := let ⟨D, h1, h2⟩ := h; ⟨D, h1.kept hg hne, h2⟩
theorem MB.kept {w w' : World} {b n : Nat} {F : ByteArray → Bool} {row : Option Nat} (h : MB w b n F) (hg : w.grownBy w' row) (hne : some b ≠ row) : MB w' b n F := let ⟨D, h1, h2⟩ := h; ⟨D, h1.kept hg hne, h2⟩
theorem MI.alloc {w : World} {b n : Nat} {F : ByteArray → Int} (h : MI w b n F) (o : Obj) : MI (w.alloc o) b n F := let ⟨D, h1, h2⟩ := h; ⟨D, h1.alloc o, h2⟩
theorem MB.alloc {w : World} {b n : Nat} {F : ByteArray → Bool} (h : MB w b n F) (o : Obj) : MB (w.alloc o) b n F := let ⟨D, h1, h2⟩ := h; ⟨D, h1.alloc o, h2⟩
theorem MI.lt {w : World} {b n : Nat} {F : ByteArray → Int} (h : MI w b n F) : b < w.heap.size := let ⟨_, h1, _⟩ := h; h1.lt
theorem MB.lt {w : World} {b n : Nat} {F : ByteArray → Bool} (h : MB w b n F) : b < w.heap.size := let ⟨_, h1, _⟩ := h; h1.lt
theorem MI.bl {w w' : World} {b n : Nat} {F : ByteArray → Int} (h : MI w b n F) (hb : Below w.heap.size w w') : MI w' b n F := by
  obtain ⟨D, ⟨es, clock, h1, h2⟩, h3⟩ := h
  exact ⟨D, ⟨es, clock, (hb.block b (Array.getElem?_eq_some_iff.1 h1).1).trans h1, h2⟩, h3⟩
theorem MB.bl {w w' : World} {b n : Nat} {F : ByteArray → Bool} (h : MB w b n F) (hb : Below w.heap.size w w') : MB w' b n F := by
  obtain ⟨D, ⟨es, clock, h1, h2⟩, h3⟩ := h
  exact ⟨D, ⟨es, clock, (hb.block b (Array.getElem?_eq_some_iff.1 h1).1).trans h1, h2⟩, h3⟩
theorem plainElem_bool_inv {H : Type} {P : Program} {e : TypeId} (he : P.underlying e = some .bool) {v : Value} {z : DataW H × List MemPlace} (h : plainElem P e v = some z) : ∃ x, v = .bool x ∧ z = (.lit (.bool x), []) := by
  unfold plainElem at h
  rw [he] at h
  cases v <;> simp at h
  exact ⟨_, rfl, h.symm⟩
theorem zero3 (w : World) : (zeroValue 3).run Tryz.prog w = .ok (.int .i64 0) w := by kernel_rfl
theorem zero4 (w : World) : (zeroValue 4).run Tryz.prog w = .ok (.bool false) w := by kernel_rfl
theorem MI.look {w : World} {b n t : Nat} {F : ByteArray → Int} (h : MI w b n F) (ht : Tryz.prog.underlying t = some (.map 9 3)) (s : ByteArray) (hs : s.size ≤ maxLen) : (Instr.lookup t (.map (some b)) (.string s) false).run Tryz.prog w = .ok (.int .i64 (F s)) w := by
  obtain ⟨D, h1, h2⟩ := h
  obtain ⟨c, hrun, hat, _⟩ := h1.lookup_int law9 ht Tryz.underlying3 (zero3 w) (Go.WideMaps.keyOf_string_mk Tryz.underlying9 hs)
  have e := (h2 s).symm.trans hat
  simp only [DataW.lit.injEq, Lit.int.injEq, true_and] at e
  rw [e]; exact hrun
theorem MB.look {w : World} {b n t : Nat} {F : ByteArray → Bool} (h : MB w b n F) (ht : Tryz.prog.underlying t = some (.map 9 4)) (s : ByteArray) (hs : s.size ≤ maxLen) : (Instr.lookup t (.map (some b)) (.string s) false).run Tryz.prog w = .ok (.bool (F s)) w := by
  obtain ⟨D, h1, h2⟩ := h
  obtain ⟨v, ps, hrun, hv⟩ := h1.lookup law9 ht (zero4 w) (plainElem_bool Tryz.underlying4 false) (Go.WideMaps.keyOf_string_mk Tryz.underlying9 hs)
  obtain ⟨x, rfl, hz⟩ := plainElem_bool_inv Tryz.underlying4 hv
  have e := (h2 s).symm.trans (congrArg Prod.fst hz)
  simp only [DataW.lit.injEq, Lit.bool.injEq] at e
  rw [e]; exact hrun
theorem wpList_putI {w : World} {ops : Array Oper} {rest : List Oper} {o : Oper} {a : Act} {Q : Exit → Act → World → Prop} (hg : o.guard = none) (m x v : Operand) (t : TypeId) (hop : o.op = Op.mapUpdate t m x v) (ht : Tryz.prog.underlying t = some (.map 9 3)) {b n : Nat} {F : ByteArray → Int} (hm : a.eval m = .map (some b)) (h : MI w b n F) (hn : n < 1048576)
    (s : ByteArray) (hx : a.eval x = .string s) (c : Int) (hv : a.eval v = .int .i64 c) (hs : s.size ≤ maxLen) (hc : (Lit.int .i64 c).wf = true) (hK : ∀ w', MI w' b (n + 1) (updS F s c) → w.grownBy w' (some b) → wpList Tryz.prog ops Q rest (a.put o.dst undef) w') : wpList Tryz.prog ops Q (o :: rest) a w := by
  obtain ⟨D, h1, h2⟩ := h
  have hkey := Go.WideMaps.keyOf_string_mk (P := Tryz.prog) Tryz.underlying9 hs
  refine wpList_mapUpdate_own w hg m x v t hop 9 3 law9 ht _ b n D hm h1 (by unfold maxLen; omega) _ _ _ hx hv hkey _ [] (plainElem_int Tryz.underlying3 hc) fun w' h3 h4 => hK w' ⟨_, h3, fun r => ?_⟩ h4
  unfold updS
  by_cases e : r = s
  · subst e; rw [if_pos rfl]; exact atKey_put_same h1.isMap (law9.key hkey) _ _
  · rw [if_neg e, atKey_put_other (fun e2 => e (strLit_inj.1 e2))]; exact h2 r
theorem wpList_putB {w : World} {ops : Array Oper} {rest : List Oper} {o : Oper} {a : Act} {Q : Exit → Act → World → Prop} (hg : o.guard = none) (m x v : Operand) (t : TypeId) (hop : o.op = Op.mapUpdate t m x v) (ht : Tryz.prog.underlying t = some (.map 9 4)) {b n : Nat} {F : ByteArray → Bool} (hm : a.eval m = .map (some b)) (h : MB w b n F) (hn : n < 1048576)
    (s : ByteArray) (hx : a.eval x = .string s) (c : Bool) (hv : a.eval v = .bool c) (hs : s.size ≤ maxLen) (hK : ∀ w', MB w' b (n + 1) (updS F s c) → w.grownBy w' (some b) → wpList Tryz.prog ops Q rest (a.put o.dst undef) w') : wpList Tryz.prog ops Q (o :: rest) a w := by
  obtain ⟨D, h1, h2⟩ := h
  have hkey := Go.WideMaps.keyOf_string_mk (P := Tryz.prog) Tryz.underlying9 hs
  refine wpList_mapUpdate_own w hg m x v t hop 9 4 law9 ht _ b n D hm h1 (by unfold maxLen; omega) _ _ _ hx hv hkey _ [] (plainElem_bool Tryz.underlying4 c) fun w' h3 h4 => hK w' ⟨_, h3, fun r => ?_⟩ h4
  unfold updS
  by_cases e : r = s
  · subst e; rw [if_pos rfl]; exact atKey_put_same h1.isMap (law9.key hkey) _ _
  · rw [if_neg e, atKey_put_other (fun e2 => e (strLit_inj.1 e2))]; exact h2 r
end Go.Proofs.YtkdehkkkbfackaaGreatDoor
namespace Go.Proofs.YtkdehkkkbfackaaGreatDoor
open Go.RowKit Go.Maps
/-- The names of the first k nodes. -/
def seenB (t : List Nd) (k : Nat) (s : ByteArray) : Bool := (List.range k).any fun u => decide (nS t u = s)
theorem seenB_next (t : List Nd) (k : Nat) : updS (seenB t k) (nS t k) true = seenB t (k + 1) := by
  funext s
  unfold updS seenB
  rw [List.range_succ, List.any_append]
  by_cases e : s = nS t k
  · subst e; simp
  · have e2 : ¬ nS t k = s := fun h => e h.symm
    simp [e, e2]
/-- Node v is valid. -/
def NodeOk (t : List Nd) (v : Nat) : Prop := nP t v < v ∧ (if v = 0 then -1 else 0) ≤ nP t v ∧ nmB (nS t v) = true ∧ seenB t v (nS t v) = false
instance (t : List Nd) (v : Nat) : Decidable (NodeOk t v) := by unfold NodeOk; infer_instance
def TreeOk (t : List Nd) : Prop := 1 ≤ t.length ∧ t.length ≤ 63 ∧ ∀ v, v < t.length → NodeOk t v
instance (t : List Nd) : Decidable (TreeOk t) := by unfold TreeOk; infer_instance
def chkE (t : List Nd) : Int := if TreeOk t then 0 else 16
set_option maxRecDepth 100000 in
set_option maxHeartbeats 2000000 in
theorem check_any (a : Option Addr) (n c : Nat) (t : List Nd) (w : World) (hn : t.length = n) (hN : n ≤ 1152921504606846976) (hA : Rd w a (fl encNd t)) (hS : ∀ v, v < n → (nS t v).size ≤ 9223372036854775807) :
    Calls Tryz.prog 27 #[.slice a n c] w fun e w' => e = .returned (.int .i64 (chkE t)) ∧ Below w.heap.size w w' := by
  have HN := Lib.hid hn
  have HS := Lib.hid hS
  have HBAD : Hid (∀ v, v < n → ¬ NodeOk t v → chkE t = 16) := fun v hv h => if_neg fun h2 => h (h2.2.2 v (by rw [hn]; exact hv))
  clear hS
  by_cases h0 : n = 0
  · have he := Lib.hid (show chkE t = 16 from if_neg (by unfold TreeOk; omega))
    have hb : ((n : Int) == 0) = true := by simp; omega
    clear hn h0
    go_enter Tryz.func27, Tryz.ntmps27
    go_wp2_with fail
    go_ret
    exact ⟨by rw [he.out]; try rfl, Below.refl _ _⟩
  · have hb : ((n : Int) == 0) = false := by simp; omega
    by_cases h1 : 63 < n
    · have he := Lib.hid (show chkE t = 16 from if_neg (by unfold TreeOk; omega))
      clear hn h0
      go_enter Tryz.func27, Tryz.ntmps27
      go_wp2_with fail
      go_ret
      exact ⟨by rw [he.out]; try rfl, Below.refl _ _⟩
    · have hd : decide (63 < n) = false := by simpa using h1
      have hn63 : n ≤ 63 := by omega
      have hn1 : 1 ≤ n := by omega
      have HOK : Hid ((∀ v, v < n → NodeOk t v) → chkE t = 0) := fun h => if_pos ⟨by omega, by omega, fun v hv => h v (by omega)⟩
      have hmm := @run_makeMap Tryz.prog
      clear hn h0 h1
      go_enter Tryz.func27, Tryz.ntmps27
      go_wp2_with fail
      have hm0 : MB (w.alloc (.map #[] 0)) w.heap.size 0 (seenB t 0) := MB.made w
      have hb0 := bl_alloc (Below.refl _ w) (.map #[] 0)
      go_loopw [17, 4, 5] (fun x _ _ wr => ∃ k : Nat, k ≤ n ∧ x = .int .i64 k ∧ Hid (∀ v, v < k → NodeOk t v) ∧ MB wr w.heap.size k (seenB t k) ∧ Below w.heap.size w wr) (fun x _ _ _ => n - (intOf x).toNat)
      case atStart => exact ⟨0, by omega, rfl, fun v h => absurd h (by omega), hm0, hb0⟩
      case round =>
        obtain ⟨k, hk, rfl, hok, hmb, hbl⟩ := hrel
        clear hm0 hb0 hmm
        by_cases hlt : k < n
        · obtain ⟨b, o, rfl, _, hc⟩ := rdNd (hA.bl hbl) (by rw [HN.out]; omega)
          obtain ⟨g0, g1⟩ := hc k (by rw [HN.out]; omega)
          have hlk0 := hmb.lt
          have hsz := HS.out k hlt
          have hno := Lib.hid (HBAD.out k hlt)
          have HND : Hid (NodeOk t k ↔ nP t k < k ∧ (if k = 0 then -1 else 0) ≤ nP t k ∧ nmB (nS t k) = true ∧ seenB t k (nS t k) = false) := Iff.rfl
          have hnx := Lib.hid (seenB_next t k)
          have hnm := fun w' => named_any (nS t k) w' hsz
          have HNM := Lib.hid hnm
          have HLK : Hid (∀ w', MB w' w.heap.size k (seenB t k) → (Instr.lookup 82 (.map (some w.heap.size)) (.string (nS t k)) false).run Tryz.prog w' = .ok (.bool (seenB t k (nS t k))) w') := fun w' h => h.look Tryz.underlying82 _ (by unfold maxLen; omega)
          clear hc hnm
          generalize nP t k = p at *
          obtain ⟨s, hs⟩ : ∃ s, s = nS t k := ⟨_, rfl⟩
          rw [← hs] at g1 hsz HND hnx HNM HLK
          obtain ⟨sb, hsb⟩ : ∃ sb, sb = seenB t k s := ⟨_, rfl⟩
          rw [← hsb] at HND HLK
          have hmb1 := hmb.alloc (.cells #[.int .i64 p, .string s] 40)
          have hlk := HLK.out _ hmb1
          have hbl1 := bl_alloc hbl (.cells #[.int .i64 p, .string s] 40)
          have HSS := Lib.hid hs
          clear hs hsb
          by_cases a1 : (k : Int) ≤ p
          · have he := Lib.hid (hno.out (fun h => by have := (HND.out.1 h).1; omega))
            go_wp2_with fail
            go_ret
            exact ⟨by rw [he.out]; try rfl, hbl1⟩
          · by_cases hk0 : k = 0
            · have hk1 : (k : Int) < 1 := by omega
              have hk2 : (k : Int) - 1 < 0 := by omega
              have HK0 := Lib.hid hk0
              clear hk0
              by_cases a2 : p < (k : Int) - 1
              · have he := Lib.hid (hno.out (fun h => by have := (HND.out.1 h).2.1; rw [if_pos HK0.out] at this; have := HK0.out; omega))
                go_wp2_with fail
                go_ret
                exact ⟨by rw [he.out]; try rfl, hbl1⟩
              · rcases Bool.eq_false_or_eq_true (nmB s) with hp | hp
                · have HP := Lib.hid hp
                  clear hp
                  cases sb with
                  | true =>
                    have he := Lib.hid (hno.out (fun h => by have := (HND.out.1 h).2.2.2; cases this))
                    go_wp2_with (go_at_call 38; refine (HNM.out _).mono ?_; rintro e w' ⟨rfl, rfl⟩; rw [HP.out])
                    go_ret
                    exact ⟨by rw [he.out]; try rfl, hbl1⟩
                  | false =>
                    have hok2 : Hid (∀ v, v < k + 1 → NodeOk t v) := fun v hv => by
                      by_cases e : v = k
                      · rw [e]; exact HND.out.2 ⟨by omega, by rw [if_pos HK0.out]; have := HK0.out; omega, HP.out, rfl⟩
                      · exact hok.out v (by omega)
                    go_wp2_with (first | (go_at_call 38; refine (HNM.out _).mono ?_; rintro e w' ⟨rfl, rfl⟩; rw [HP.out]) | (refine wpList_putB rfl (.tmp 46) (.tmp 48) (.const (.bool true)) 82 rfl Tryz.underlying82 rfl hmb1 (by omega) s rfl true rfl (by unfold maxLen; omega) ?_; intro w8 hm8 hg8))
                    rw [hnx.out] at hm8
                    have hbl8 := Below.grown hbl1 hg8 (by have := hbl1.size; omega) (fun r hr => by rw [← Option.some.inj hr]; exact Nat.le_refl _)
                    go_wp2_with fail
                    go_roundw
                    case rel => exact ⟨k + 1, by omega, by go_num, hok2, hm8, hbl8⟩
                    case measure => simp [intOf]; omega
                · have HP := Lib.hid hp
                  have he := Lib.hid (hno.out (fun h => by have := (HND.out.1 h).2.2.1; rw [hp] at this; cases this))
                  clear hp
                  go_wp2_with (go_at_call 38; refine (HNM.out _).mono ?_; rintro e w' ⟨rfl, rfl⟩; rw [HP.out])
                  go_ret
                  exact ⟨by rw [he.out]; try rfl, hbl1⟩
            · have hk1 : (1 : Int) ≤ k := by omega
              have hk2 : (0 : Int) ≤ (k : Int) - 1 := by omega
              have HK0 := Lib.hid hk0
              clear hk0
              by_cases hk3 : (k : Int) ≤ 1
              all_goals
                by_cases a2 : p < 0
                · have he := Lib.hid (hno.out (fun h => by have := (HND.out.1 h).2.1; rw [if_neg HK0.out] at this; omega))
                  go_wp2_with fail
                  go_ret
                  exact ⟨by rw [he.out]; try rfl, hbl1⟩
                · rcases Bool.eq_false_or_eq_true (nmB s) with hp | hp
                  · have HP := Lib.hid hp
                    clear hp
                    cases sb with
                    | true =>
                      have he := Lib.hid (hno.out (fun h => by have := (HND.out.1 h).2.2.2; cases this))
                      go_wp2_with (go_at_call 38; refine (HNM.out _).mono ?_; rintro e w' ⟨rfl, rfl⟩; rw [HP.out])
                      go_ret
                      exact ⟨by rw [he.out]; try rfl, hbl1⟩
                    | false =>
                      have hok2 : Hid (∀ v, v < k + 1 → NodeOk t v) := fun v hv => by
                        by_cases e : v = k
                        · rw [e]; exact HND.out.2 ⟨by omega, by rw [if_neg HK0.out]; omega, HP.out, rfl⟩
                        · exact hok.out v (by omega)
                      go_wp2_with (first | (go_at_call 38; refine (HNM.out _).mono ?_; rintro e w' ⟨rfl, rfl⟩; rw [HP.out]) | (refine wpList_putB rfl (.tmp 46) (.tmp 48) (.const (.bool true)) 82 rfl Tryz.underlying82 rfl hmb1 (by omega) s rfl true rfl (by unfold maxLen; omega) ?_; intro w8 hm8 hg8))
                      rw [hnx.out] at hm8
                      have hbl8 := Below.grown hbl1 hg8 (by have := hbl1.size; omega) (fun r hr => by rw [← Option.some.inj hr]; exact Nat.le_refl _)
                      go_wp2_with fail
                      go_roundw
                      case rel => exact ⟨k + 1, by omega, by go_num, hok2, hm8, hbl8⟩
                      case measure => simp [intOf]; omega
                  · have HP := Lib.hid hp
                    have he := Lib.hid (hno.out (fun h => by have := (HND.out.1 h).2.2.1; rw [hp] at this; cases this))
                    clear hp
                    go_wp2_with (go_at_call 38; refine (HNM.out _).mono ?_; rintro e w' ⟨rfl, rfl⟩; rw [HP.out])
                    go_ret
                    exact ⟨by rw [he.out]; try rfl, hbl1⟩
        · have : k = n := by omega
          subst this
          have he := Lib.hid (HOK.out hok.out)
          go_wp2_with fail
          go_ret
          exact ⟨by rw [he.out]; try rfl, hbl⟩
end Go.Proofs.YtkdehkkkbfackaaGreatDoor
namespace Go.Proofs.YtkdehkkkbfackaaGreatDoor
open Go.RowKit Go.Shelf
theorem iA_get {l : List Int} {k : Nat} (h : k < l.length) : iA l k = l[k] := by simp [iA, h]
def iN (l : List Nat) : List Int := l.map fun x : Nat => (x : Int)
theorem iN_len (l : List Nat) : (iN l).length = l.length := by simp [iN]
theorem iN_snoc (l : List Nat) (x : Nat) : iN (l ++ [x]) = iN l ++ [(x : Int)] := by simp [iN]
theorem iN_get (l : List Nat) (k : Nat) : iA (iN l) k = (vA l k : Int) := by
  unfold iA iN vA
  rw [List.getD_eq_getElem?_getD, List.getD_eq_getElem?_getD, List.getElem?_map]
  cases l[k]? <;> rfl
end Go.Proofs.YtkdehkkkbfackaaGreatDoor
namespace Go.Proofs.YtkdehkkkbfackaaGreatDoor
open Go.RowKit
def slR (x : Rw) : Value := .slice x.1 x.2.1 x.2.2
/-- Block g has n rows; row i is the list S i, in a block of its own or nil. -/
structure FamW (w : World) (base g n : Nat) (S : Nat → List Nat) (rs : Nat → Rw) : Prop where
  rows : w.ownsRow base 30 1 (.slice (some ⟨g, 0, none⟩) n n) n (fl encR ((List.range n).map rs))
  row : ∀ i, i < n → w.ownsRow base 3 1 (slR (rs i)) (S i).length (fl encI (iN (S i)))
  len : ∀ i, i < n → (rs i).2.1 = (S i).length
  dis : ∀ i j, i < n → j < n → i ≠ j → (slR (rs i)).ownBlock = none ∨ (slR (rs i)).ownBlock ≠ (slR (rs j)).ownBlock
  far : ∀ i, i < n → (slR (rs i)).ownBlock ≠ some g
theorem setR_put {n i : Nat} {rs : Nat → Rw} (x : Rw) (hi : i < n) : ((List.range n).map rs).set i x = (List.range n).map fun j => if j = i then x else rs j := by
  apply List.ext_getElem?
  intro j
  by_cases hj : j < n
  · by_cases e : j = i
    · subst e; simp [hj]
    · rw [List.getElem?_set_ne (by omega)]
      simp [hj, e]
  · simp [hj]
theorem fl_setR (l : List Rw) (k : Nat) (x : Rw) : (fl encR l).set k (.slice x.1 x.2.1 x.2.2) = fl encR (l.set k x) := by
  induction l generalizing k with
  | nil => simp [fl]
  | cons y l ih =>
    have e : ∀ y l, fl encR (y :: l) = .slice y.1 y.2.1 y.2.2 :: fl encR l := fun y l => by simp [fl, encR]
    cases k with
    | zero => simp [e]
    | succ k => simp only [e, List.set_cons_succ]; rw [ih]
theorem grown_set (w : World) (b o : Nat) (u : Value) : w.grownBy (w.setCell ⟨b, o, none⟩ u) (some b) := ⟨rfl, rfl, rfl, by simp [World.setCell], fun k _ hne => Below.heap_setCell w ⟨b, o, none⟩ u k (fun e => hne (by rw [e]))⟩
section
variable {w w' : World} {base g n : Nat} {S : Nat → List Nat} {rs : Nat → Rw}
theorem FamW.cell (h : FamW w base g n S rs) {i : Nat} (hi : i < n) : w.cell? ⟨g, i, none⟩ = some (slR (rs i)) := by
  obtain ⟨b, o, e, _, hc⟩ := rdR (rd_of_owns h.rows) (by simp; omega)
  simp only [Option.some.injEq, Addr.mk.injEq, and_true] at e
  obtain ⟨rfl, rfl⟩ := e
  have := hc i (by simpa using hi)
  rw [Nat.zero_add] at this
  rw [this]
  simp [rA, rN, rC, hi, slR]
theorem FamW.bl (h : FamW w base g n S rs) (hb : Below w.heap.size w w') : FamW w' base g n S rs := ⟨owns_below h.rows hb, fun i hi => owns_below (h.row i hi) hb, h.len, h.dis, h.far⟩
/-- Row i grew: it is x now, and its cell is laid anew. -/
theorem FamW.grow (h : FamW w base g n S rs) {i : Nat} (hi : i < n) {x : Rw} {X : List Nat} (hg : w.grownBy w' (slR (rs i)).ownBlock) (hx : w'.ownsRow base 3 1 (slR x) X.length (fl encI (iN X))) (hl : x.2.1 = X.length)
    (hb : (slR x).ownBlock = (slR (rs i)).ownBlock ∨ ∃ b, (slR x).ownBlock = some b ∧ w.heap.size ≤ b) :
    FamW (w'.setCell ⟨g, i, none⟩ (slR x)) base g n (fun j => if j = i then X else S j) (fun j => if j = i then x else rs j) := by
  have hgs : g < w.heap.size := (h.rows.lt g rfl).2
  have hxg : (slR x).ownBlock ≠ some g := by
    rcases hb with hb | ⟨b, hb, hb2⟩
    · rw [hb]; exact h.far i hi
    · rw [hb]; intro e; have := Option.some.inj e; omega
  have hother : ∀ j, j < n → j ≠ i → (slR (rs j)).ownBlock = none ∨ (slR (rs j)).ownBlock ≠ (slR x).ownBlock := fun j hj hji => by
    rcases h.dis j i hj hi hji with h1 | h1
    · exact .inl h1
    · rcases hb with hb | ⟨b, hb, hb2⟩
      · right; rw [hb]; exact h1
      · cases hq : (slR (rs j)).ownBlock with
        | none => exact .inl rfl
        | some k =>
          right
          rw [hb]
          intro e
          have := ((h.row j hj).lt k hq).2
          have := Option.some.inj e
          omega
  refine ⟨?_, fun j hj => ?_, fun j hj => ?_, fun j k hj hk hjk => ?_, fun j hj => ?_⟩
  · have h0 := h.rows.kept hg (.inr (fun e => h.far i hi e.symm))
    have h1 := (World.ownsRow.stored h0 i (slR x)).1
    unfold slR at h1
    rw [fl_setR, setR_put x hi] at h1
    exact h1
  · by_cases e : j = i
    · subst e
      simp only [if_true]
      exact ownsRow_setCell_other (a := ⟨g, j, none⟩) hx hxg _
    · simp only [if_neg e]
      exact ownsRow_setCell_other (a := ⟨g, i, none⟩) ((h.row j hj).kept hg (h.dis j i hj hi e)) (h.far j hj) _
  · by_cases e : j = i
    · simp only [if_pos e]; exact hl
    · simp only [if_neg e]; exact h.len j hj
  · by_cases e : j = i
    · have e2 : k ≠ i := by omega
      simp only [if_pos e, if_neg e2]
      rcases hother k hk e2 with h1 | h1
      · cases hq : (slR x).ownBlock with
        | none => exact .inl rfl
        | some q => right; rw [h1]; intro e; cases e
      · exact .inr (Ne.symm h1)
    · by_cases e2 : k = i
      · simp only [if_neg e, if_pos e2]; exact hother j hj e
      · simp only [if_neg e, if_neg e2]; exact h.dis j k hj hk hjk
  · by_cases e : j = i
    · simp only [if_pos e]; exact hxg
    · simp only [if_neg e]; exact h.far j hj
/-- The rows when they are made. -/
theorem FamW.made (w : World) (base n : Nat) (hb : base ≤ w.heap.size) (hn : n ≤ maxLen) : FamW (w.alloc (.cells (madeCells #[.slice none 0 0] n) 30)) base w.heap.size n (fun _ => []) (fun _ => (none, 0, 0)) := by
  refine ⟨?_, fun i hi => World.ownsRow_nil _ _ _ _, fun i hi => rfl, fun _ _ _ _ _ => .inl rfl, fun i hi => by intro e; cases e⟩
  have h := owns_made (w := w) (base := base) (e := 30) (k := 1) (n := n) (cs := madeCells #[.slice none 0 0] n) hb (by simp [madeCells]) hn
  have e : (madeCells #[Value.slice none 0 0] n).toList = fl encR ((List.range n).map fun _ => ((none, 0, 0) : Rw)) := by
    have h2 := made_cells encR 1 (fun _ => rfl) (by omega) (none, 0, 0) n
    rw [Nat.mul_one] at h2
    rw [show (List.range n).map (fun _ => ((none, 0, 0) : Rw)) = List.replicate n (none, 0, 0) by simp [List.map_const']]
    exact h2
  rw [e] at h
  exact h
end
/-- Node u is a child of node v. -/
def kidB (t : List Nd) (v u : Nat) : Bool := decide (0 < u) && decide (nP t u = (v : Int))
/-- The children of v among the first k nodes. -/
def famL (t : List Nd) (k v : Nat) : List Nat := (List.range k).filter (kidB t v)
theorem famL_snoc (t : List Nd) (k v : Nat) : famL t (k + 1) v = famL t k v ++ (if kidB t v k then [k] else []) := by
  unfold famL
  rw [List.range_succ, List.filter_append]
  congr 1
  by_cases q : kidB t v k <;> simp [q]
theorem famL_le (t : List Nd) (k v : Nat) : (famL t k v).length ≤ k := by
  have := List.length_filter_le (kidB t v) (List.range k)
  simpa [famL] using this
set_option maxRecDepth 100000 in
set_option maxHeartbeats 4000000 in
theorem families_any (a : Option Addr) (n c : Nat) (t : List Nd) (w : World) (hn : t.length = n) (hN : n ≤ 64) (hA : Rd w a (fl encNd t)) (hP : ∀ v, 0 < v → v < n → 0 ≤ nP t v ∧ nP t v < n) :
    Calls Tryz.prog 39 #[.slice a n c] w fun e w' => ∃ g rs, e = .returned (.slice (some ⟨g, 0, none⟩) n n) ∧ FamW w' w.heap.size g n (fun v => famL t n v) rs ∧ Below w.heap.size w w' := by
  have HN := Lib.hid hn
  have HA := Lib.hid hA
  have HP := Lib.hid hP
  obtain ⟨i0, hi0, hz0, hz1, hz2⟩ := info_parts info_R
  have hmk := run_make (P := Tryz.prog) w 84 30 i0 _ Tryz.underlying84 hi0 hz0 .i64 .i64 (n : Int) (n : Int) (by omega) (by omega) (by rw [hz2]; omega) (by omega)
  simp only [hz1, Int.toNat_natCast, Nat.mul_one] at hmk
  have hF0 := FamW.made w w.heap.size n (Nat.le_refl _) (by unfold maxLen; omega)
  have hb0 := bl_alloc (Below.refl _ w) (.cells (madeCells #[.slice none 0 0] n) 30)
  have HF0 := Lib.hid hF0
  have HB0 := Lib.hid hb0
  clear hi0 hz0 hz1 hz2 hn hA hP hF0 hb0
  go_enter Tryz.func39, Tryz.ntmps39
  go_upto_region 2 with fail
  obtain ⟨g, hg⟩ : ∃ x, x = w.heap.size := ⟨_, rfl⟩
  obtain ⟨w1, hw1⟩ : ∃ x, x = w.alloc (.cells (madeCells #[.slice none 0 0] n) 30) := ⟨_, rfl⟩
  rw [← hw1] at HF0 HB0 ⊢
  rw [← hg] at HF0 HB0 ⊢
  have HG := Lib.hid hg
  clear hw1 hg hmk
  go_wp2_with fail
  go_loopw [11] (fun x wr => ∃ k : Nat, k ≤ n ∧ x = .int .i64 k ∧ ∃ rs, Hid (FamW wr g g n (fun v => famL t k v) rs) ∧ Hid (Below g w wr)) (fun x _ => n - (intOf x).toNat)
  case atStart => exact ⟨0, by omega, rfl, _, HF0, HB0⟩
  case round =>
    clear HF0 HB0
    obtain ⟨k, hk, rfl, rs, hF, hbl⟩ := hrel
    by_cases hlt : k < n
    · obtain ⟨b, o, rfl, hb, hc⟩ := rdNd HA.out (by rw [HN.out]; omega)
      obtain ⟨G0, G1⟩ := hc k (by rw [HN.out]; exact hlt)
      rw [← HG.out] at hb
      have G0' := (hbl.out.cell (p := ⟨b, o + k * 2, none⟩) hb).trans G0
      have G1' := (hbl.out.cell (p := ⟨b, o + k * 2 + 1, none⟩) hb).trans G1
      have hsn : Hid (∀ v, famL t (k + 1) v = famL t k v ++ (if kidB t v k then [k] else [])) := fun v => famL_snoc t k v
      have HPK := Lib.hid (HP.out k)
      have hkd : Hid (∀ v, kidB t v k = (decide (0 < k) && decide (nP t k = (v : Int)))) := fun v => rfl
      clear hc G0 G1
      generalize nP t k = P at *
      generalize nS t k = s at *
      by_cases h0 : k = 0
      · have hfam : Hid ((fun v => famL t (k + 1) v) = fun v => famL t k v) := by
          show _ = _
          funext v
          rw [hsn.out, hkd.out, decide_eq_false (by omega)]
          simp
        have d1 : decide (0 < k) = false := by simp; omega
        clear h0
        go_wp2_with fail
        go_roundw
        case rel => exact ⟨k + 1, by omega, by go_num, rs, by rw [hfam.out]; exact hF.out.bl (bl_alloc (Below.refl _ _) _), hbl.out.trans ((bl_alloc (Below.refl _ wr) _).mono (by have := hbl.out.size; have := HG.out; omega))⟩
        case measure => simp [intOf]; omega
      · have h00 : 0 < k := by omega
        obtain ⟨hp0, hpn⟩ := HPK.out h00 hlt
        obtain ⟨p, rfl⟩ : ∃ p : Nat, P = p := ⟨P.toNat, by omega⟩
        have hpn' : p < n := by omega
        have d1 : decide (0 < k) = true := by simpa using h00
        clear h0 hp0 hpn
        go_upto_region 6 with fail
        have hF2 := hF.out.bl (bl_alloc (Below.refl _ wr) (.cells #[.int .i64 p, .string s] 40))
        have hbl2 : Below g w (wr.alloc (.cells #[.int .i64 p, .string s] 40)) := hbl.out.trans ((bl_alloc (Below.refl _ wr) _).mono (by have := hbl.out.size; have := HG.out; omega))
        have hX := Blk.new wr #[.int .i64 p, .string s] 40
        obtain ⟨X, hXe⟩ : ∃ x, x = wr.heap.size := ⟨_, rfl⟩
        have hz2 : (wr.alloc (.cells #[.int .i64 p, .string s] 40)).heap.size = X + 1 := by rw [hXe]; simp
        have hgX : g < X := by rw [hXe]; exact (hF.out.rows.lt g rfl).2
        obtain ⟨w2, hw2⟩ : ∃ x, x = wr.alloc (.cells #[.int .i64 p, .string s] 40) := ⟨_, rfl⟩
        rw [← hw2] at hF2 hbl2 hX hz2 ⊢
        rw [← hXe] at hX ⊢
        have HXE := Lib.hid hXe
        have HRL : Hid (∀ q, (slR (rs p)).ownBlock = some q → q < X) := fun q hq => by rw [hXe]; exact ((hF.out.row p hpn').lt q hq).2
        clear hw2 hXe G0' G1' hF hbl hb
        have c0 : w2.cell? ⟨X, 0, none⟩ = some (.int .i64 p) := hX.cell 0
        have c1 := hF2.cell hpn'
        obtain ⟨⟨A, m, cp⟩, hx⟩ : ∃ x, x = rs p := ⟨_, rfl⟩
        have hm : m = (famL t k p).length := by have := hF2.len p hpn'; rw [← hx] at this; exact this
        have hrow := hF2.row p hpn'
        have hfar := hF2.far p hpn'
        rw [← hx] at c1 hrow hfar
        have c1' : w2.cell? ⟨g, p, none⟩ = some (.slice A m cp) := c1
        have HM := Lib.hid hm
        have hm64 : m ≤ 64 := by have := famL_le t k p; omega
        have HX := Lib.hid hX
        have HXX := Lib.hid hx
        have HF2 := Lib.hid hF2
        have HB2 := Lib.hid hbl2
        have HROW := Lib.hid hrow
        have HFAR := Lib.hid hfar
        clear c1 hm hX hx hF2 hbl2 hrow hfar
        refine wp_region_order (S := fun w' => w'.cell? ⟨X, 0, none⟩ = some (.int .i64 p) ∧ w'.cell? ⟨g, p, none⟩ = some (.slice A m cp)) 11 [0,1,2,3,4,5,6,7,8] [9,10] (by kernel_rfl) (by kernel_rfl) ⟨c0, c1'⟩ ?_
        iterate 9 (refine headT_cons (by rfl) (by rfl) (by intro w hSw; obtain ⟨s0, s1⟩ := hSw; go_simp; try rfl) ?_; simp only [Act.put, List.setIfInBounds_toArray, List.set_cons_zero, List.set_cons_succ])
        refine headT_nil ?_
        obtain ⟨w4, hw4⟩ : ∃ x, x = w2.drew := ⟨_, rfl⟩
        rw [← hw4]
        have hb4 : Below w2.heap.size w2 w4 := by rw [hw4]; exact bl_drewN (Below.refl _ _) 1
        have hz4 : w4.heap.size = X + 1 := by rw [hw4]; exact hz2
        clear hw4
        refine midT_cons (by rfl) (fun K hK => ?_)
        rw [if_pos (by rfl)]
        go_simp
        have hb5 := bl_alloc hb4 (.cells #[.int .i64 k] 3)
        have hN5 := Blk.new w4 #[.int .i64 k] 3
        have hz5 : (w4.alloc (.cells #[.int .i64 k] 3)).heap.size = X + 2 := by simp [hz4]
        rw [hz4] at hN5
        obtain ⟨w5, hw5⟩ : ∃ x, x = w4.alloc (.cells #[.int .i64 k] 3) := ⟨_, rfl⟩
        rw [← hw5] at hb5 hN5 hz5 ⊢
        have HF5 := Lib.hid (HF2.out.bl hb5)
        have HX5 := Lib.hid (HX.out.below hb5)
        have HR5 := Lib.hid (owns_below HROW.out hb5)
        have HB5 : Hid (Below g w w5) := HB2.out.trans (hb5.mono (by omega))
        clear hw5
        refine hK.out _ _ ⟨HX5.out.cell 0, by have h := HF5.out.cell hpn'; rw [← HXX.out] at h; exact h⟩ (fun _ => ?_)
        clear hK K
        try simp only [Act.put, List.setIfInBounds_toArray, List.set_cons_zero, List.set_cons_succ]
        refine midT_cons (by rfl) (fun K hK => ?_)
        refine spush_I rfl (.tmp 25) (.tmp 27) rfl g (.slice A m cp) (iN (famL t k p)) m (by rw [iN_len]; exact HM.out) rfl (by have h := HR5.out; rw [← HM.out] at h; exact h) _ _ (k : Int) rfl hN5 (by omega) (by omega) ?_
        intro g6 c6 w6 h1 h2 h3 h4
        have hz6 := h2.size
        have HX6 := Lib.hid (HX5.out.grown h2 (by
          intro e
          have := HRL.out X (by rw [← HXX.out]; exact e.symm)
          omega))
        have HG6 := Lib.hid (HF5.out.grow (w' := w6) hpn' (x := (some ⟨g6, 0, none⟩, m + 1, c6)) (X := famL t k p ++ [k]) (by rw [← HXX.out]; exact h2) (by
            rw [← iN_snoc] at h1
            have e : (famL t k p ++ [k]).length = m + 1 := by rw [List.length_append, ← HM.out]; rfl
            rw [e]; exact h1) (by rw [List.length_append, ← HM.out]; rfl) (by
            rw [← HXX.out]
            rcases h3 with h3 | h3
            · exact .inl h3.symm
            · exact .inr ⟨g6, rfl, by omega⟩))
        have hgp5 : w5.cell? ⟨g, p, none⟩ = some (.slice A m cp) := by have h := HF5.out.cell hpn'; rw [← HXX.out] at h; exact h
        have hgp6 : w6.cell? ⟨g, p, none⟩ = some (.slice A m cp) := h2.cell hgp5 (fun e => HFAR.out e.symm)
        have hrw6 := HF5.out.rows.kept h2 (.inr (fun e => HFAR.out e.symm))
        have hfz6 : w6.frozen? ⟨g, p, none⟩ = false := World.ownsRow.frozenAt hrw6 p
        have HB6 := Lib.hid (bl_grown (a := w) (by have h := HB5.out; rw [HG.out] at h; exact h) h2 (fun r hr => by have := (HR5.out.lt r hr).1; have := HG.out; omega))
        refine hK.out _ _ ⟨HX6.out.cell 0, hgp6⟩ (fun _ => ?_)
        clear hK K h1 h2 h3 h4 hrw6 hgp5 hN5 hb4 hb5 c0 c1'
        try simp only [Act.put, List.setIfInBounds_toArray, List.set_cons_zero, List.set_cons_succ]
        refine midT_nil ?_
        simp only [List.drop_succ_cons, List.drop_zero]
        go_wp2_with fail
        refine NoPanic.normal ?_
        go_wp2_with fail
        have hfam : Hid ((fun v => famL t (k + 1) v) = fun j => if j = p then famL t k p ++ [k] else famL t k j) := by
          show _ = _
          funext v
          rw [hsn.out, hkd.out, d1]
          by_cases e : v = p
          · subst e; simp
          · rw [if_neg e, decide_eq_false (fun h => e (by omega))]; simp
        have HB7 : Hid (Below g w (w6.setCell ⟨g, p, none⟩ (.slice (some ⟨g6, 0, none⟩) (m + 1) c6))) := by
          have h := HB6.out
          rw [← HG.out] at h
          exact h.setCell (p := ⟨g, p, none⟩) (Nat.le_refl _) _
        go_roundw
        case rel => exact ⟨k + 1, by omega, by go_num, _, by rw [hfam.out]; exact HG6.out, HB7⟩
        case measure => simp [intOf]; omega
    · obtain rfl : k = n := by omega
      go_wp2_with fail
      go_ret
      exact ⟨g, rs, rfl, by rw [← HG.out]; exact hF.out, by rw [← HG.out]; exact hbl.out⟩
end Go.Proofs.YtkdehkkkbfackaaGreatDoor
namespace Go.Proofs.YtkdehkkkbfackaaGreatDoor
open Go.RowKit
/-- Node v is a leaf. -/
def leafB (t : List Nd) (v : Nat) : Bool := (famL t t.length v).isEmpty
def lvsL (t : List Nd) (k : Nat) : List Nat := (List.range k).filter (leafB t)
theorem lvsL_snoc (t : List Nd) (k : Nat) : lvsL t (k + 1) = lvsL t k ++ (if leafB t k then [k] else []) := by
  unfold lvsL
  rw [List.range_succ, List.filter_append]
  congr 1
  by_cases q : leafB t k <;> simp [q]
theorem lvsL_le (t : List Nd) (k : Nat) : (lvsL t k).length ≤ k := by
  have := List.length_filter_le (leafB t) (List.range k)
  simpa [lvsL] using this
theorem leafB_len (t : List Nd) (v : Nat) : leafB t v = decide ((famL t t.length v).length = 0) := by
  unfold leafB
  cases famL t t.length v <;> rfl
set_option maxRecDepth 100000 in
set_option maxHeartbeats 4000000 in
theorem leaves_any (a : Option Addr) (n c : Nat) (t : List Nd) (w : World) (hn : t.length = n) (hN : n ≤ 64) (hA : Rd w a (fl encNd t)) (hP : ∀ v, 0 < v → v < n → 0 ≤ nP t v ∧ nP t v < n) :
    Calls Tryz.prog 28 #[.slice a n c] w fun e w' => ∃ v, e = .returned v ∧ w'.ownsRow w.heap.size 3 1 v (lvsL t n).length (fl encI (iN (lvsL t n))) ∧ Below w.heap.size w w' := by
  have HC := Lib.hid (families_any a n c t w hn hN hA hP)
  have HLB : Hid (∀ v, leafB t v = decide ((famL t n v).length = 0)) := fun v => by rw [← hn]; exact leafB_len t v
  have hle := fun v => famL_le t n v
  have HLE := Lib.hid hle
  clear hn hA hP hle
  go_enter Tryz.func28, Tryz.ntmps28
  go_wp2_with fail
  refine HC.out.mono ?_
  rintro e w1 ⟨g, rs, rfl, hF, hb⟩
  have HF := Lib.hid hF
  have HB := Lib.hid hb
  clear hF hb HC
  go_wp2_with fail
  go_loopw [9, 3] (fun x v wr => ∃ k : Nat, k ≤ n ∧ x = .int .i64 k ∧ Hid (wr.ownsRow w1.heap.size 3 1 v (lvsL t k).length (fl encI (iN (lvsL t k)))) ∧ Hid (Below w1.heap.size w1 wr)) (fun x _ _ => n - (intOf x).toNat)
  case atStart => exact ⟨0, by omega, rfl, World.ownsRow_nil _ _ _ _, Below.refl _ _⟩
  case round =>
    obtain ⟨k, hk, rfl, how, hbl⟩ := hrel
    by_cases hlt : k < n
    · have G := (HF.out.bl hbl.out).cell hlt
      have hlen := HF.out.len k hlt
      obtain ⟨⟨A, m, cp⟩, hx⟩ : ∃ x, x = rs k := ⟨_, rfl⟩
      rw [← hx] at G hlen
      have G' : wr.cell? ⟨g, k, none⟩ = some (.slice A m cp) := G
      have hm : m = (famL t n k).length := hlen
      have hsn := Lib.hid (lvsL_snoc t k)
      have hlb := HLB.out k
      rw [← hm] at hlb
      have HLB2 := Lib.hid hlb
      have hm64 : m ≤ 64 := by have := HLE.out k; omega
      clear G hlen hx hm hlb
      by_cases h0 : m = 0
      · have hs : Hid (lvsL t (k + 1) = lvsL t k ++ [k]) := by show _ = _; rw [hsn.out, HLB2.out, decide_eq_true h0]; rfl
        have t1 : ((m : Int) == 0) = true := by simp [h0]
        have t2 : decide ((m : Int) = 0) = true := by simp [h0]
        have t3 : decide (m = 0) = true := by simp [h0]
        have t4 : (m == 0) = true := by simp [h0]
        have hl2 := lvsL_le t k
        obtain ⟨q, hq⟩ : ∃ q, q = (lvsL t k).length := ⟨_, rfl⟩
        have HQ := Lib.hid hq
        rw [← hq] at how hl2
        clear h0 hsn HLB2 hq
        have hbase : w1.heap.size ≤ (wr.alloc (.cells #[.int .i64 k] 3)).heap.size := (bl_alloc hbl.out _).size
        go_wp2_with (at_builtin; refine push_I rfl (.tmp 17) (.tmp 19) rfl w1.heap.size u3 (iN (lvsL t k)) q (by rw [iN_len]; exact HQ.out) rfl (how.out.alloc _) _ _ (k : Int) rfl (Blk.new _ _ _) (by omega) hbase ?_; intro g2 cap w8 h81 h82 h83 h84; rw [← iN_snoc, ← hs.out] at h81; have H81 := Lib.hid h81; have H82 := Lib.hid h82; clear h81 h82 h83)
        have hlen2 : Hid ((lvsL t (k + 1)).length = q + 1) := by show _ = _; rw [hs.out, List.length_append, HQ.out]; rfl
        have HB8 := Lib.hid (bl_grown (bl_alloc hbl.out (.cells #[.int .i64 k] 3)) H82.out (fun x e => (how.out.lt x e).1))
        go_roundw
        case rel => exact ⟨k + 1, by omega, by go_num, by rw [hlen2.out]; exact H81, HB8⟩
        case measure => simp [intOf]; omega
      · have hs : Hid (lvsL t (k + 1) = lvsL t k) := by show _ = _; rw [hsn.out, HLB2.out, decide_eq_false h0]; simp
        have t1 : ((m : Int) == 0) = false := by simp; omega
        have t2 : decide ((m : Int) = 0) = false := by simp; omega
        have t3 : decide (m = 0) = false := by simp; omega
        have t4 : (m == 0) = false := by simp; omega
        clear h0 hsn HLB2
        go_wp2_with fail
        go_roundw
        case rel => exact ⟨k + 1, by omega, by go_num, by rw [hs.out]; exact how, hbl⟩
        case measure => simp [intOf]; omega
    · obtain rfl : k = n := by omega
      go_wp2_with fail
      go_ret
      exact ⟨_, rfl, owns_mono how.out HB.out.size, bl_trans HB.out hbl.out⟩
/-- The parents of a valid tree. -/
theorem tree_par {t : List Nd} (h : TreeOk t) : ∀ v, 0 < v → v < t.length → 0 ≤ nP t v ∧ nP t v < v := by
  intro v h0 hv
  obtain ⟨h1, h2, _⟩ := h.2.2 v hv
  rw [if_neg (by omega)] at h2
  exact ⟨h2, h1⟩
theorem chk_tree {t : List Nd} (h : chkE t = 0) : TreeOk t := by
  unfold chkE at h
  by_cases q : TreeOk t
  · exact q
  · rw [if_neg q] at h; omega
theorem chk_tree' {t : List Nd} (h : chkE t ≠ 0) : chkE t = 16 ∧ ¬ TreeOk t := by
  unfold chkE at *
  by_cases q : TreeOk t
  · rw [if_pos q] at h; omega
  · rw [if_neg q]; exact ⟨rfl, q⟩
/-- The leaves that tree.Leaves answers. -/
def lvT (t : List Nd) : List Nat := if chkE t = 0 then lvsL t t.length else []
set_option maxRecDepth 100000 in
set_option maxHeartbeats 4000000 in
theorem Leaves_any (a : Option Addr) (n c : Nat) (t : List Nd) (w : World) (hn : t.length = n) (hN : n ≤ 1152921504606846976) (hA : Rd w a (fl encNd t)) (hS : ∀ v, v < n → (nS t v).size ≤ 9223372036854775807) :
    Calls Tryz.prog 14 #[.slice a n c] w fun e w' => ∃ v, e = .returned (.tuple #[v, .int .i64 (chkE t)]) ∧ w'.ownsRow w.heap.size 3 1 v (lvT t).length (fl encI (iN (lvT t))) ∧ Below w.heap.size w w' := by
  have HC := Lib.hid (check_any a n c t w hn hN hA hS)
  have HN := Lib.hid hn
  have HA := Lib.hid hA
  clear hn hA hS
  go_enter Tryz.func14, Tryz.ntmps14
  go_wp2_with fail
  refine HC.out.mono ?_
  rintro e w1 ⟨rfl, hb⟩
  have HB := Lib.hid hb
  clear hb HC
  by_cases h0 : chkE t = 0
  · have hok := chk_tree h0
    have HL : Hid (lvT t = lvsL t n) := by show _ = _; unfold lvT; rw [if_pos h0, HN.out]
    have HC2 := Lib.hid (leaves_any a n c t w1 HN.out (by have := hok.2.1; have := HN.out; omega) (HA.out.bl HB.out) (fun v h1 h2 => by
      have := tree_par hok v h1 (by rw [HN.out]; exact h2)
      omega))
    have HE := Lib.hid h0
    rw [h0]
    clear hok h0
    go_wp2_with fail
    refine HC2.out.mono ?_
    rintro e w2 ⟨v, rfl, ho, hb2⟩
    obtain ⟨A, cp, rfl, _⟩ := owns_slice ho
    have HO := Lib.hid (owns_mono ho HB.out.size)
    have HB2 := Lib.hid (bl_trans HB.out hb2)
    obtain ⟨q, hq⟩ : ∃ q, q = (lvsL t n).length := ⟨_, rfl⟩
    rw [← hq] at HO ⊢
    have HQ := Lib.hid hq
    clear ho hb2 hq
    go_wp2_with fail
    exact bodyPost_ret (v := .tuple #[.slice A q cp, .int .i64 0]) (by simp [results, Tryz.results14, go_sem]) rfl ⟨_, by rw [HE.out], by rw [HL.out, ← HQ.out]; exact HO.out, HB2.out⟩
  · have HL : Hid (lvT t = []) := by show _ = _; unfold lvT; rw [if_neg h0]
    have h16 := (chk_tree' h0).1
    have HE := Lib.hid h16
    rw [h16]
    clear h0 h16
    go_wp2_with fail
    exact bodyPost_ret (v := .tuple #[.slice none 0 0, .int .i64 16]) (by simp [results, Tryz.results14, go_sem]) rfl ⟨_, by rw [HE.out], by rw [HL.out]; exact World.ownsRow_nil _ _ _ _, HB.out⟩
/-- Why a table or a tree is not valid, or both do not fit each other. -/
def chkP (L : Int) (l : List Nat) (t : List Nd) : Int := if chkT L l ≠ 0 then chkT L l else if chkE t ≠ 0 then chkE t else if ((lvT t).length : Int) = L then 0 else 2
/-- No set of a valid table has a language from L on. -/
theorem chk_lt {L : Nat} {l : List Nat} (h : chkT (L : Int) l = 0) : L ≤ 32 ∧ l.length ≤ 64 ∧ ∀ x, x ∈ l → x < 2 ^ L := by
  unfold chkT at h
  by_cases q : (L : Int) < 0 ∨ 32 < (L : Int)
  · rw [if_pos q] at h; omega
  · rw [if_neg q] at h
    by_cases q2 : 64 < l.length
    · rw [if_pos q2] at h; omega
    · rw [if_neg q2] at h
      by_cases q3 : l.any (wide (L : Int).toNat) = true
      · rw [if_pos q3] at h; omega
      · refine ⟨by omega, by omega, fun x hx => ?_⟩
        rw [Int.toNat_natCast] at q3
        have := List.any_eq_false.1 (Bool.eq_false_iff.2 q3) x hx
        unfold wide at this
        simpa using this
theorem chkP_ok {L : Int} {l : List Nat} {t : List Nd} (h : chkP L l t = 0) : chkT L l = 0 ∧ TreeOk t ∧ ((lvT t).length : Int) = L := by
  unfold chkP at h
  by_cases q : chkT L l = 0
  · rw [if_neg (fun h => h q)] at h
    by_cases q2 : chkE t = 0
    · rw [if_neg (fun h => h q2)] at h
      by_cases q3 : ((lvT t).length : Int) = L
      · exact ⟨q, chk_tree q2, q3⟩
      · rw [if_neg q3] at h; omega
    · rw [if_pos q2] at h; exact absurd h q2
  · rw [if_pos q] at h; exact absurd h q
end Go.Proofs.YtkdehkkkbfackaaGreatDoor
