/- The statement PhyloShows: the walk. -/
import Derived.Test.YtnabbmdhhddfbaaDoorU11
import Derived.Test.YtnabbmdhhddfbaaDoorU6
namespace Go.Proofs.YtnabbmdhhddfbaaDoor
open Go Go.RowKit Go.Shelf
theorem grps_small {L : Nat} {l : List Nat} (hF : FitV l) (hc : chkT (L : Int) l = 0) (h1 : L ≤ 1) : grpsN L l = [] := by
  refine List.eq_nil_iff_forall_not_mem.2 fun x hx => ?_
  obtain ⟨g1, g2⟩ := (grp_mem hF).1 hx
  have hx2 := (chk_lt hc).2.2 x g1
  have hp : 2 ^ L ≤ 2 ^ 1 := Nat.pow_le_pow_right (by omega) h1
  obtain ⟨g3, _⟩ := (grpB_iff (by omega)).1 g2
  have : x = 0 ∨ x = 1 := by omega
  rcases this with e | e <;> subst e <;> revert g3 <;> decide
theorem grps_sub {L : Nat} {l : List Nat} (hF : FitV l) : ∀ x, x ∈ grpsN L l → x ∈ l := fun x hx => ((grp_mem hF).1 hx).1
theorem grps_F {L : Nat} {l : List Nat} (hF : FitV l) : FitV (grpsN L l) := fun i hi => by
  obtain ⟨j, hj, e⟩ := mem_vA (grps_sub hF _ (vA_mem hi))
  rw [← e]; exact hF j hj
theorem grps_len {L : Nat} {l : List Nat} (hF : FitV l) (hc : chkT (L : Int) l = 0) : (grpsN L l).length ≤ l.length := by
  rw [grpsN_len]; exact grpsU_le L l
/-- The groups of the groups are the groups. -/
theorem grps_grps {L : Nat} {l : List Nat} (hF : FitV l) : grpsN L (grpsN L l) = grpsN L l := by
  refine sorted_ext bef_irr bef_asy (grpsN_pw _ _) (grpsN_pw _ _) fun x => ?_
  rw [grp_mem (grps_F hF)]
  constructor
  · exact fun h => h.1
  · intro h
    refine ⟨h, ?_⟩
    obtain ⟨h1, h2⟩ := (grp_mem hF).1 h
    have hx : x < 18446744073709551616 := by
      obtain ⟨j, hj, e⟩ := mem_vA h1
      rw [← e]; exact hF j hj
    obtain ⟨h3, h4, h5⟩ := (grpB_iff hx).1 h2
    exact (grpB_iff hx).2 ⟨h3, h4, fun o ho => h5 o (grps_sub hF o ho)⟩
theorem grps_conf {L : Nat} {l : List Nat} (hF : FitV l) : confE (grpsN L l) = none := by
  refine conf_fit fun i j hij hj => ?_
  obtain ⟨h1, h2⟩ := (grp_mem hF).1 (vA_mem (show i < (grpsN L l).length by omega))
  exact ((grpB_iff (grps_F hF i (by omega))).1 h2).2.2 _ (grps_sub hF _ (vA_mem hj))
theorem grps_chk {L : Nat} {l : List Nat} (hF : FitV l) (hc : chkT (L : Int) l = 0) : chkT (L : Int) (grpsN L l) = 0 :=
  chk_sub hc (by have := grps_len hF hc; have := (chk_lt hc).2.1; omega) (grps_sub hF)
/-- The i-th group is the set of node i + 1. -/
theorem grps_on {L : Nat} {l : List Nat} (hF : FitV l) (hc : chkT (L : Int) l = 0) {i : Nat} (hi : i < (grpsN L l).length) : onN (cl (bdN L (grpsN L l))) (vA (grpsN L l) i) (bdN L (grpsN L l)).length = ((i + 1 : Nat) : Int) := by
  have h2 : 2 ≤ L := by
    rcases Nat.lt_or_ge L 2 with q | q
    · rw [grps_small hF hc (by omega)] at hi; simp at hi
    · exact q
  have h := setsOk (grps_F hF) (grps_chk hF hc) h2
  unfold bdN
  rw [if_neg (by omega), treeN_len]
  rw [grps_grps hF] at h ⊢
  have hr : nP (treeN (setsB L (grpsN L l)) (namB (grpsN L l).length) ((grpsN L l).length + L + 1)) 0 < 0 := by rw [h.root]; decide
  have hat : vA (setsB L (grpsN L l)) (i + 1) = vA (grpsN L l) i := by
    have := setsB_grp (L := L) (l := grpsN L l) (j := i) (by rw [grps_grps hF]; exact hi)
    rw [grps_grps hF] at this; exact this
  refine onN_some (by rw [h.cl _ hr (by omega)]; exact hat) (fun u hu => ?_) _ (by omega)
  rw [h.cl _ hr (by omega), ← hat]
  exact h.inj hu (by omega)
def thrB (l : List Nat) (z k : Nat) : Bool := (l.take k).any fun x => decide (x = z)
theorem thrB_succ {l : List Nat} {z k : Nat} (hk : k < l.length) : thrB l z (k + 1) = (thrB l z k || decide (vA l k = z)) := by
  unfold thrB
  rw [List.take_succ_eq_append_getElem hk, List.any_append, vA_get hk]; simp
theorem thrB_all {l : List Nat} {z : Nat} (h : z ∈ l) : thrB l z l.length = true := by
  unfold thrB
  rw [List.take_length, List.any_eq_true]
  exact ⟨z, h, decide_eq_true rfl⟩
set_option maxRecDepth 100000 in
set_option maxHeartbeats 4000000 in
theorem shlaw_any (L : Int) (a : Option Addr) (N c : Nat) (l : List Nat) (w : World) (hl : l.length = N) (hN : N ≤ 1152921504606846976) (hA : Rd w a (fl encV l)) (hF : FitV l) :
    Calls Tryd.prog 10 #[.agg #[.int .i64 L, .slice a N c]] w fun e w' => e = .returned (.bool true) ∧ Below w.heap.size w w' := by
  have hb0 := bl_alloc (Below.refl _ w) (.cells #[.int .i64 L, .slice a N c] 24)
  have hX := Blk.new w #[.int .i64 L, .slice a N c] 24
  have HL := Lib.hid hl
  have HF := Lib.hid hF
  have HA := Lib.hid (hA.bl hb0)
  have HB0 := Lib.hid hb0
  have HBX := Lib.hid hX
  have HW := Lib.hid works_any
  clear hl hA hF hb0 hX
  obtain ⟨X, hX⟩ : ∃ x, x = w.heap.size := ⟨_, rfl⟩
  rw [← hX] at HBX
  go_enter Tryd.func10, Tryd.ntmps10
  go_wp2_with fail
  refine (grp_any L a N c l _ HL.out hN HA.out HF.out).mono ?_
  rintro e w1 h1
  obtain ⟨v1, rfl, ho1, hb1⟩ := gpPost_of h1
  have HB1 := Lib.hid (bl_trans HB0.out hb1)
  have HA1 := Lib.hid (HA.out.bl hb1)
  have HBX1 := Lib.hid (HBX.out.below hb1)
  obtain ⟨A1, c1, rfl, _⟩ := owns_slice ho1
  have HO1 := Lib.hid ho1
  rw [← hX]
  have HX := Lib.hid hX
  clear hb1 hX HB0 HA HBX ho1 h1
  have e0 : w1.cell? ⟨X, 0, none⟩ = some (.int .i64 L) := HBX1.out.cell 0
  have e1 : w1.cell? ⟨X, 1, none⟩ = some (.slice a N c) := HBX1.out.cell 1
  by_cases hq : 20 < N
  · have d1 : decide (20 < (N : Int)) = true := decide_eq_true (by omega)
    have d1n : decide (20 < N) = true := decide_eq_true hq
    clear hq
    obtain ⟨m, hm⟩ : ∃ m, (gpL L l).length = m := ⟨_, rfl⟩
    rw [hm]
    clear hm
    go_wp2_with fail
    refine (HW.out _).mono ?_
    rintro e w3 ⟨rfl, hb3⟩
    go_wp2_with fail
    go_ret
    exact ⟨rfl, bl_trans HB1.out hb3⟩
  have d1 : decide (20 < (N : Int)) = false := decide_eq_false (by omega)
  have d1n : decide (20 < N) = false := decide_eq_false (by omega)
  by_cases h0 : chkT L l = 0
  · obtain ⟨M, rfl⟩ : ∃ M : Nat, L = M := by
      refine ⟨L.toNat, ?_⟩
      unfold chkT at h0
      by_cases q : L < 0 ∨ 32 < L
      · rw [if_pos q] at h0; omega
      · omega
    have hgp : gpL (M : Int) l = grpsN M l := by unfold gpL; rw [if_pos h0, Int.toNat_natCast]
    have hM32 := (chk_lt h0).1
    have g1 := grps_sub (L := M) HF.out
    have g2 := grps_F (L := M) HF.out
    have g3 := grps_len HF.out h0
    have g4 := grps_conf (L := M) HF.out
    have g5 := grps_chk HF.out h0
    have g6 : ∀ i, i < (grpsN M l).length → onN (cl (bdN M (grpsN M l))) (vA (grpsN M l) i) (bdN M (grpsN M l)).length = ((i + 1 : Nat) : Int) := fun i hi => grps_on HF.out h0 hi
    have g7 : M = 0 → (grpsN M l).length = 0 := fun h => by rw [grps_small HF.out h0 (by omega)]; rfl
    have g8 : ∀ i, i < (grpsN M l).length → lowOff (vA (grpsN M l) i) ≠ 0 ∧ vA (grpsN M l) i ≠ 2 ^ M - 1 := fun i hi => by
      obtain ⟨_, h2⟩ := (grp_mem HF.out).1 (vA_mem hi)
      have hx := g2 i hi
      obtain ⟨h3, h4, _⟩ := (grpB_iff hx).1 h2
      exact ⟨fun h => by have := (lowOff_cnt hx).1 h; omega, h4⟩
    rw [h0]
    rw [hgp] at HO1 ⊢
    obtain ⟨G, hG⟩ : ∃ G, grpsN M l = G := ⟨_, rfl⟩
    rw [hG] at g1 g2 g3 g4 g5 g6 g7 g8 HO1 ⊢
    obtain ⟨m, hm⟩ : ∃ m, G.length = m := ⟨_, rfl⟩
    rw [hm] at g3 g6 g7 g8 HO1 ⊢
    have HG1 := Lib.hid g1
    have HG2 := Lib.hid g2
    have HG4 := Lib.hid g4
    have HG5 := Lib.hid g5
    have HG6 := Lib.hid g6
    have HG7 := Lib.hid g7
    have HG8 := Lib.hid g8
    have HM := Lib.hid hm
    have hmN : m ≤ N := by have := HL.out; omega
    have HR1 := Lib.hid (rd_of_owns HO1.out)
    obtain ⟨hcp1, hcp2⟩ := owns_cap3 HO1.out
    have d2 : decide ((N : Int) < (m : Int)) = false := decide_eq_false (by omega)
    have d2n : decide (N < m) = false := decide_eq_false (by omega)
    clear h0 hgp hG hm g1 g2 g3 g4 g5 g6 g7 g8
    go_wp2_with fail
    go_loopw [5] (fun x wr => ∃ i : Nat, i ≤ m ∧ x = .int .i64 i ∧ ∃ q, wr = w1.drewN q) (fun x _ => m - (intOf x).toNat)
    case atStart => exact ⟨0, by omega, rfl, 0, rfl⟩
    case round =>
      obtain ⟨i, hi, rfl, q, rfl⟩ := hrel
      by_cases him : i < m
      · have hzl := HG1.out _ (vA_mem (show i < G.length by rw [HM.out]; exact him))
        have HTA : Hid (thrB l (vA G i) N = true) := by show _ = _; rw [← HL.out]; exact thrB_all hzl
        obtain ⟨hz1, hz2⟩ := HG8.out i him
        have hzb := HG2.out i (by rw [HM.out]; exact him)
        have hlb := lowOff_bits hzb
        obtain ⟨b1, o1, rfl, _, hc1⟩ := rdV HR1.out (by rw [HM.out]; omega)
        have G1 := hc1 i (by rw [HM.out]; exact him)
        have HLB := Lib.hid hlb
        clear hzl hc1 hzb hlb
        generalize vA G i = z at *
        go_upto_region 10 with fail
        go_wp2_with fail
        go_loopw [7, 6] (fun x y wr => ∃ k : Nat, k ≤ N ∧ x = .int .i64 k ∧ y = .bool (thrB l z k) ∧ ∃ q, wr = w1.drewN q) (fun x _ _ => N - (intOf x).toNat)
        case atStart => exact ⟨0, by omega, rfl, rfl, q, rfl⟩
        case round =>
          obtain ⟨k, hk, rfl, rfl, q2, rfl⟩ := hrel
          by_cases hkN : k < N
          · obtain ⟨ba, oa, rfl, _, hca⟩ := rdV HA1.out (by rw [HL.out]; omega)
            have G3 := hca k (by rw [HL.out]; exact hkN)
            have f1 : w1.cell? ⟨X, 1, none⟩ = some (.slice (some ⟨ba, oa, none⟩) N c) := HBX1.out.cell 1
            have HST := Lib.hid (thrB_succ (l := l) (z := z) (show k < l.length by rw [HL.out]; exact hkN))
            obtain ⟨tb, htb⟩ : ∃ x, thrB l z k = x := ⟨_, rfl⟩
            rw [htb] at HST ⊢
            clear hca htb
            generalize vA l k = x at *
            cases tb with
            | true =>
              have HS1 : Hid (thrB l z (k + 1) = true) := by show _ = _; rw [HST.out]; rfl
              clear HST
              go_wp2_with fail
              go_quiet (fail)
              go_wp2_with fail
              go_roundw
              case rel => exact ⟨k + 1, by omega, by go_num, by rw [HS1.out], q2 + nq, by simp⟩
              case measure => simp [intOf]; omega
            | false =>
              by_cases e : x = z
              · subst e
                have HS1 : Hid (thrB l x (k + 1) = true) := by show _ = _; rw [HST.out]; simp
                clear HST
                go_wp2_with fail
                go_quiet (fail)
                go_wp2_with fail
                go_roundw
                case rel => exact ⟨k + 1, by omega, by go_num, by rw [HS1.out] <;> simp, q2 + nq, by simp⟩
                case measure => simp [intOf]; omega
              · have HS1 : Hid (thrB l z (k + 1) = false) := by show _ = _; rw [HST.out, decide_eq_false e]; rfl
                have t1 : ((x : Int) == (z : Int)) = false := by simp; omega
                have t2 : decide ((x : Int) = (z : Int)) = false := by simp; omega
                have t3 : decide (x = z) = false := by simp [e]
                clear HST e
                go_wp2_with fail
                go_quiet (fail)
                go_wp2_with fail
                go_roundw
                case rel => exact ⟨k + 1, by omega, by go_num, by rw [HS1.out] <;> simp [t3], q2 + nq, by simp⟩
                case measure => simp [intOf]; omega
          · obtain rfl : k = N := by omega
            rw [HTA.out]
            have HW2 := Lib.hid (wrap_all hM32)
            obtain ⟨y, hy⟩ : ∃ y, lowOff z = y := ⟨_, rfl⟩
            rw [hy] at hz1 HLB
            obtain ⟨al, hal⟩ : ∃ al, 2 ^ M - 1 = al := ⟨_, rfl⟩
            rw [hal] at hz2 HW2
            have hlb := HLB.out
            have hwa := HW2.out
            have s1 : ((y : Int) == 0) = false := by simp [hz1]
            have s2 : decide ((y : Int) = 0) = false := by simp [hz1]
            have s3 : ((z : Int) == (al : Int)) = false := by simp; omega
            have s4 : decide ((z : Int) = (al : Int)) = false := by simp; omega
            clear hy hal hz1 hz2
            go_wp2_with fail
            go_quiet (fail)
            go_wp2_with fail
            go_roundw
            case rel => exact ⟨i + 1, by omega, by go_num, q2 + nq, by simp⟩
            case measure => simp [intOf]; omega
      · obtain rfl : i = m := by omega
        clear e1
        by_cases hM0 : M = 0
        · have hi0 := HG7.out hM0
          subst hM0 hi0
          go_wp2_with fail
          refine (HW.out _).mono ?_
          rintro e w3 ⟨rfl, hb3⟩
          go_wp2_with fail
          go_ret
          exact ⟨rfl, bl_trans (bl_drewN HB1.out q) hb3⟩
        · have s1 : ((M : Int) == 0) = false := by simp [hM0]
          have s2 : decide ((M : Int) = 0) = false := by simp [hM0]
          have s3 : decide (M = 0) = false := by simp [hM0]
          have hbE : bdE (M : Int) G = 0 := by unfold bdE; rw [if_neg (fun h => h HG5.out), if_neg (by omega)]
          have hbB : bdB (M : Int) G = true := by rw [bdB_of hbE, HG4.out]; rfl
          have hbT : bdT (M : Int) G = bdN M G := by unfold bdT; rw [if_pos hbB]; rfl
          have HBT := Lib.hid hbT
          have HBE := Lib.hid hbE
          have HBB := Lib.hid hbB
          have HM1 : Hid (1 ≤ M) := by show _ ≤ _; omega
          clear hbE hbB hbT hM0
          go_wp2_with fail
          refine (build_any M A1 i c1 G (w1.drewN q) HM.out (by omega) hcp1 hcp2 (HR1.out.drewN q) HG2.out).mono ?_
          rintro e w6 ⟨x6, rfl, ho6, hb6⟩
          rw [HBE.out, HBB.out]
          rw [HBT.out] at ho6
          obtain ⟨A6, c6, rfl, _⟩ := owns_slice ho6
          have hbd := bd_tree HG2.out HG5.out HM1.out
          have hbc := bd_chk HG2.out HG5.out HM1.out HG5.out
          obtain ⟨T, hT⟩ : ∃ T, bdN M G = T := ⟨_, rfl⟩
          rw [hT] at ho6 hbd hbc HG6 ⊢
          obtain ⟨p, hp⟩ : ∃ p, T.length = p := ⟨_, rfl⟩
          have HP := Lib.hid hp
          rw [hp] at ho6 HG6 ⊢
          obtain ⟨hcq1, hcq2⟩ := owns_cap3 ho6
          have HO6 := Lib.hid (rd_of_owns ho6)
          have HB6 := Lib.hid (bl_trans (bl_drewN HB1.out q) hb6)
          have HBX6 := Lib.hid ((HBX1.out.drewN q).below hb6)
          have HR6 := Lib.hid ((HR1.out.drewN q).bl hb6)
          have hp63 : p ≤ 63 := by have := hbd.1.2.1; omega
          have HSZ := Lib.hid (tok_size hp hbd.1)
          have HBC := Lib.hid hbc
          clear hb6 e0 ho6 hT hp hbd hbc HBE HBB HBT
          have e0 : w6.cell? ⟨X, 0, none⟩ = some (.int .i64 M) := HBX6.out.cell 0
          go_wp2_with fail
          refine (on_any M A1 i c1 G A6 p c6 T w6 HM.out (by omega) HR6.out HG2.out HP.out (by omega) hcq1 hcq2 HO6.out HSZ.out).mono ?_
          rintro e w7 ⟨x7, rfl, ho7, hb7⟩
          obtain ⟨A7, c7, rfl, _⟩ := owns_slice ho7
          rw [HBC.out]
          have HOL : Hid (onL (M : Int) G T = G.map (fun x => onN (cl T) x p)) := by show _ = _; unfold onL; rw [if_pos HBC.out, HP.out]
          have HOlen : Hid ((onL (M : Int) G T).length = i) := by show _ = _; rw [HOL.out, List.length_map, HM.out]
          have HR7 := Lib.hid (rd_of_owns ho7)
          rw [HOlen.out]
          have HB7 := Lib.hid (bl_trans HB6.out hb7)
          clear hb7 e0 HBX6 HB6 HR6 ho7 HO6
          go_wp2_with fail
          go_loopw [13] (fun x wr => ∃ j : Nat, j ≤ i ∧ x = .int .i64 j ∧ wr = w7) (fun x _ => i - (intOf x).toNat)
          case atStart => exact ⟨0, by omega, rfl, rfl⟩
          case round =>
            obtain ⟨j, hj, rfl, rfl⟩ := hrel
            by_cases hji : j < i
            · obtain ⟨b1, o1, rfl, _, hc1⟩ := rdI HR7.out (by rw [HOlen.out]; omega)
              have G1 := hc1 j (by rw [HOlen.out]; exact hji)
              have hjl : j < G.length := by rw [HM.out]; exact hji
              have g1 : iA (onL (M : Int) G T) j = ((j + 1 : Nat) : Int) := by
                rw [← HG6.out j hji, HOL.out]
                simp [iA, List.getD_eq_getElem?_getD, hjl, vA]
              rw [g1] at G1
              clear hc1 g1
              go_wp2_with fail
              go_roundw
              case rel => exact ⟨j + 1, by omega, by go_num, by trivial⟩
              case measure => simp [intOf]; omega
            · go_wp2_with fail
              refine (HW.out _).mono ?_
              rintro e w8 ⟨rfl, hb8⟩
              go_wp2_with fail
              go_ret
              exact ⟨rfl, bl_trans HB7.out hb8⟩
  · have hgp : gpL L l = [] := if_neg h0
    have hm : (gpL L l).length = 0 := by rw [hgp]; rfl
    rw [hm]
    obtain ⟨E, hE⟩ : ∃ E, chkT L l = E := ⟨_, rfl⟩
    rw [hE] at h0 ⊢
    have r1 : (E == 0) = false := by simp [h0]
    have r2 : (E != 0) = true := by simp [h0]
    clear h0 hE hm hgp
    go_wp2_with fail
    refine (HW.out _).mono ?_
    rintro e w3 ⟨rfl, hb3⟩
    go_wp2_with fail
    go_ret
    exact ⟨rfl, bl_trans HB1.out hb3⟩
end Go.Proofs.YtnabbmdhhddfbaaDoor
