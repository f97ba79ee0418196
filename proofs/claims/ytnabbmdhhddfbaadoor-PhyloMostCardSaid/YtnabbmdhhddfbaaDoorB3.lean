/- phylo.Build at every table. -/
import Derived.Test.YtnabbmdhhddfbaaDoorA17
import Derived.Test.YtnabbmdhhddfbaaDoorB2
namespace Go.Proofs.YtnabbmdhhddfbaaDoor
open Go.RowKit Go.Shelf
theorem parZ_congr {S S' : List Nat} (s : Nat) : ∀ k, (∀ i, i < k → vA S i = vA S' i) → parZ S s k = parZ S' s k := by
  intro k
  induction k with
  | zero => intro _; rfl
  | succ k ih =>
    intro h
    unfold parZ
    rw [ih (fun i hi => h i (by omega)), h k (by omega)]
def itoaB (i : Nat) : ByteArray := ⟨(Go.Lib.decDigits i).toArray⟩
theorem itoaB_size (i : Nat) (h : i < 100) : (itoaB i).size ≤ 2 := by
  have : (Go.Lib.decDigits i).length ≤ 2 := by
    rw [Go.Lib.decDigits]
    split
    · simp
    · rw [Go.Lib.decDigits, dif_pos (by omega)]; simp
  simp only [itoaB, ByteArray.size, List.size_toArray]
  exact this
/-- The sets of the nodes: all, the groups, each language. -/
def setsB (L : Nat) (l : List Nat) : List Nat := (2 ^ L - 1) :: (grpsN L l ++ (List.range L).map fun k => 2 ^ k)
/-- The nodes' names. -/
def namB (G : Nat) (i : Nat) : ByteArray := if i = 0 then ⟨#[114, 111, 111, 116]⟩ else if i ≤ G then ⟨#[78]⟩ ++ itoaB i else ⟨#[76]⟩ ++ itoaB (i - G - 1)
def treeN (S : List Nat) (nm : Nat → ByteArray) (k : Nat) : List Nd := (List.range k).map fun i => (parZ S (vA S i) i, nm i)
theorem treeN_len (S : List Nat) (nm : Nat → ByteArray) (k : Nat) : (treeN S nm k).length = k := by simp [treeN]
theorem treeN_snoc (S : List Nat) (nm : Nat → ByteArray) (k : Nat) : treeN S nm (k + 1) = treeN S nm k ++ [(parZ S (vA S k) k, nm k)] := by
  simp [treeN, List.range_succ]
theorem setsB_len (L : Nat) (l : List Nat) : (setsB L l).length = (grpsN L l).length + L + 1 := by simp [setsB]
theorem setsB_zero (L : Nat) (l : List Nat) : vA (setsB L l) 0 = 2 ^ L - 1 := rfl
theorem setsB_grp {L : Nat} {l : List Nat} {j : Nat} (h : j < (grpsN L l).length) : vA (setsB L l) (j + 1) = vA (grpsN L l) j := by
  simp only [vA, setsB, List.getD_cons_succ]
  rw [List.getD_eq_getElem?_getD, List.getElem?_append_left h]
  simp [h]
theorem setsB_one {L : Nat} {l : List Nat} {k : Nat} (h : k < L) : vA (setsB L l) ((grpsN L l).length + k + 1) = 2 ^ k := by
  simp only [vA, setsB, List.getD_cons_succ]
  rw [List.getD_eq_getElem?_getD, List.getElem?_append_right (by omega)]
  simp [h]
theorem namB_grp {G j : Nat} (h : j < G) : namB G (j + 1) = ⟨#[78]⟩ ++ itoaB (j + 1) := by
  unfold namB; rw [if_neg (by omega), if_pos (by omega)]
theorem namB_one (G k : Nat) : namB G (G + k + 1) = ⟨#[76]⟩ ++ itoaB k := by
  unfold namB; rw [if_neg (by omega), if_neg (by omega), show G + k + 1 - G - 1 = k by omega]
/-- No set of a valid table has a language from L on. -/
theorem chk_lt {L : Nat} {l : List Nat} (h : chkT (L : Int) l = 0) : L ≤ 32 ∧ l.length ≤ 64 ∧ ∀ x, x ∈ l → x < 2 ^ L := by
  unfold chkT at h
  by_cases q : (L : Int) < 0 ∨ 32 < (L : Int)
  · rw [if_pos q] at h; omega
  · rw [if_neg q] at h
    by_cases q2 : 64 < l.length
    · rw [if_pos q2] at h; omega
    · rw [if_neg q2] at h
      by_cases q3 : l.any (wide (L : Int).toNat) = true
      · rw [if_pos q3] at h; omega
      · refine ⟨by omega, by omega, fun x hx => ?_⟩
        rw [Int.toNat_natCast] at q3
        have := List.any_eq_false.1 (Bool.eq_false_iff.2 q3) x hx
        unfold wide at this
        simpa using this
theorem grpsN_lt {L : Nat} {l : List Nat} (hF : FitV l) (h : ∀ x, x ∈ l → x < 2 ^ L) : ∀ x, x ∈ grpsN L l → x < 2 ^ L := by
  intro x hx
  rw [grpsN_mem hF] at hx
  exact h x (List.mem_of_mem_take (List.mem_filter.1 hx).1)
theorem setsB_lt {L : Nat} {l : List Nat} (hF : FitV l) (h : ∀ x, x ∈ l → x < 2 ^ L) : ∀ x, x ∈ setsB L l → x < 2 ^ L := by
  intro x hx
  unfold setsB at hx
  have hp := Nat.two_pow_pos L
  rcases List.mem_cons.1 hx with rfl | hx
  · omega
  · rcases List.mem_append.1 hx with hx | hx
    · exact grpsN_lt hF h x hx
    · obtain ⟨k, hk, rfl⟩ := List.mem_map.1 hx
      exact Nat.pow_lt_pow_right (by omega) (List.mem_range.1 hk)
/-- One more node. -/
theorem tree_step {S : List Nat} {nm : Nat → ByteArray} {k s : Nat} (hk : k < S.length) (hs : vA S k = s) :
    S.take k ++ [s] = S.take (k + 1) ∧ treeN S nm k ++ [(parZ (S.take k) s (S.take k).length, nm k)] = treeN S nm (k + 1) := by
  have e : (S.take k).length = k := by rw [List.length_take]; omega
  refine ⟨?_, ?_⟩
  · rw [List.take_succ_eq_append_getElem hk, ← vA_get hk, hs]
  · rw [treeN_snoc, e, hs]
    congr 3
    refine parZ_congr s k fun i hi => ?_
    simp [vA, List.getElem?_take, hi]
theorem fitV_take {S : List Nat} (h : ∀ x, x ∈ S → x < 18446744073709551616) (k : Nat) : FitV (S.take k) := by
  intro i hi
  rw [vA_get hi]
  exact h _ (List.mem_of_mem_take (List.getElem_mem hi))
/-- Does Build answer a tree? -/
def bdB (L : Int) (l : List Nat) : Bool := decide (chkT L l = 0) && !decide (L = 0) && (confE l).isNone
def bdE (L : Int) (l : List Nat) : Int := if chkT L l ≠ 0 then chkT L l else if L = 0 then 5 else 0
def bdN (L : Nat) (l : List Nat) : List Nd := if L = 1 then [(-1, ⟨#[76, 48]⟩)] else treeN (setsB L l) (namB (grpsN L l).length) ((grpsN L l).length + L + 1)
def bdT (L : Int) (l : List Nat) : List Nd := if bdB L l then bdN L.toNat l else []
/-- What Build answers. -/
def BdPost (w : World) (L : Int) (l : List Nat) (e : Ending) (w' : World) : Prop :=
  ∃ v, e = .returned (.tuple #[v, .bool (bdB L l), .int .i64 (bdE L l)]) ∧ w'.ownsRow w.heap.size 60 2 v (bdT L l).length (fl encNd (bdT L l)) ∧ Below w.heap.size w w'
theorem BldW.bl {w w' : World} {base X2 X3 : Nat} {S : List Nat} {T : List Nd} {g2 c2 g3 c3 : Nat} (h : BldW w base X2 X3 S T g2 c2 g3 c3) (hb : Below w.heap.size w w') : BldW w' base X2 X3 S T g2 c2 g3 c3 :=
  ⟨h.b2.below hb, h.b3.below hb, owns_below h.r2 hb, owns_below h.r3 hb, h.d1, h.d2, h.d3, h.d4, h.d5, h.d6, h.h2, h.h3⟩
/-- What is laid before the first group. -/
theorem bld_first (w w2 : World) (A : Nat) (hw : w.heap.size ≤ w2.heap.size) :
    BldW ((((w2.alloc (.cells #[.int .u64 A] 61)).alloc (.cells #[.slice (some ⟨w2.heap.size, 0, none⟩) 1 1] 62)).alloc (.cells #[.int .i64 (-1), .string ⟨#[114, 111, 111, 116]⟩] 60)).alloc (.cells #[.slice (some ⟨w2.heap.size + 1 + 1, 0, none⟩) 1 1] 27))
      w.heap.size (w2.heap.size + 1) (w2.heap.size + 1 + 1 + 1) [A] [(-1, ⟨#[114, 111, 111, 116]⟩)] w2.heap.size 1 (w2.heap.size + 1 + 1) 1 := by
  have z1 : (w2.alloc (.cells #[.int .u64 A] 61)).heap.size = w2.heap.size + 1 := by simp
  have z2 : ((w2.alloc (.cells #[.int .u64 A] 61)).alloc (.cells #[.slice (some ⟨w2.heap.size, 0, none⟩) 1 1] 62)).heap.size = w2.heap.size + 1 + 1 := by simp
  have z3 : (((w2.alloc (.cells #[.int .u64 A] 61)).alloc (.cells #[.slice (some ⟨w2.heap.size, 0, none⟩) 1 1] 62)).alloc (.cells #[.int .i64 (-1), .string ⟨#[114, 111, 111, 116]⟩] 60)).heap.size = w2.heap.size + 1 + 1 + 1 := by simp
  refine ⟨?_, ?_, ?_, ?_, by omega, by omega, by omega, by omega, by omega, by omega, by omega, by omega⟩
  · exact ((Blk.new2 w2 _ _ _).alloc _).alloc _
  · have := Blk.new ((((w2.alloc (.cells #[.int .u64 A] 61)).alloc (.cells #[.slice (some ⟨w2.heap.size, 0, none⟩) 1 1] 62))).alloc (.cells #[.int .i64 (-1), .string ⟨#[114, 111, 111, 116]⟩] 60)) #[.slice (some ⟨w2.heap.size + 1 + 1, 0, none⟩) 1 1] 27
    rw [z3] at this
    exact this
  · exact (((owns_made (k := 1) (cs := #[.int .u64 A]) hw rfl (by unfold maxLen; omega)).alloc _).alloc _).alloc _
  · have := (owns_made (w := (w2.alloc (.cells #[.int .u64 A] 61)).alloc (.cells #[.slice (some ⟨w2.heap.size, 0, none⟩) 1 1] 62)) (base := w.heap.size) (e := 60) (n := 1) (k := 2) (cs := #[.int .i64 (-1), .string ⟨#[114, 111, 111, 116]⟩]) (by rw [z2]; omega) rfl (by unfold maxLen; omega)).alloc (.cells #[.slice (some ⟨w2.heap.size + 1 + 1, 0, none⟩) 1 1] 27)
    rw [z2] at this
    exact this
theorem bdPost_nil {w w' : World} {L : Int} {l : List Nat} {b : Bool} {E : Int} (hb : bdB L l = false) (hE : bdE L l = E) (hbl : Below w.heap.size w w') : BdPost w L l (.returned (.tuple #[.slice none 0 0, .bool false, .int .i64 E])) w' := by
  refine ⟨_, by rw [hb, hE], ?_, hbl⟩
  unfold bdT
  rw [hb]
  exact World.ownsRow_nil _ _ _ _
set_option maxRecDepth 100000 in
set_option maxHeartbeats 4000000 in
theorem build_any (L : Int) (a : Option Addr) (N c : Nat) (l : List Nat) (w : World) (hl : l.length = N) (hN : N ≤ 1152921504606846976) (hNc : N ≤ c) (hc : c ≤ 9223372036854775807) (hA : Rd w a (fl encV l)) (hF : FitV l) :
    Calls Tryd.prog 15 #[.agg #[.int .i64 L, .slice a N c]] w (BdPost w L l) := by
  have hb0 := bl_alloc (Below.refl _ w) (.cells #[.int .i64 L, .slice a N c] 24)
  have hB := Blk.new w #[.int .i64 L, .slice a N c] 24
  have HL := Lib.hid hl
  have HF := Lib.hid hF
  have HC := Lib.hid (conf_any L a N c l (w.alloc (.cells #[.int .i64 L, .slice a N c] 24)) hl hN hNc hc (hA.bl hb0) hF)
  have HA := Lib.hid (hA.bl hb0)
  clear hl hA hF
  obtain ⟨X, hX⟩ : ∃ X, X = w.heap.size := ⟨_, rfl⟩
  go_enter Tryd.func15, Tryd.ntmps15
  go_wp2_with fail
  refine HC.out.mono ?_
  rintro e w2 ⟨rfl, hb2⟩
  have hb3 := bl_trans hb0 hb2
  have hB2 := hB.below hb2
  have HA2 := Lib.hid (HA.out.bl hb2)
  rw [← hX] at hB2 ⊢
  have HB3 := Lib.hid hb3
  have e0 : w2.cell? ⟨X, 0, none⟩ = some (.int .i64 L) := hB2.cell 0
  have e1 : w2.cell? ⟨X, 1, none⟩ = some (.slice a N c) := hB2.cell 1
  have HBX := Lib.hid hB2
  have HX := Lib.hid hX
  clear hX hB2 hb3 hB hb0 hb2 HA HC
  by_cases h0 : chkT L l = 0
  · obtain ⟨M, rfl⟩ : ∃ M : Nat, L = M := by
      refine ⟨L.toNat, ?_⟩
      unfold chkT at h0
      by_cases q : L < 0 ∨ 32 < L
      · rw [if_pos q] at h0; omega
      · omega
    obtain ⟨hM, hl64, hlt⟩ := chk_lt h0
    have HLT := Lib.hid hlt
    have HE : Hid (∀ E : Nat, bdE (M : Int) l = (if (M : Int) = 0 then 5 else 0)) := fun _ => by unfold bdE; rw [if_neg (fun h => h h0)]
    have HBD : Hid (bdB (M : Int) l = (!decide ((M : Int) = 0) && (confE l).isNone)) := by show _ = _; unfold bdB; rw [decide_eq_true h0]; rfl
    have H0 := Lib.hid h0
    clear hlt
    cases hcf : confE l with
    | some ij =>
      obtain ⟨i, j⟩ := ij
      have hcv := Lib.hid (cfV_yes h0 hcf)
      rw [hcf] at HBD
      have hbb : Hid (bdB (M : Int) l = false) := by show _ = _; rw [HBD.out]; simp
      rw [hcv.out]
      clear h0 hcf hcv HBD hl64
      by_cases hz : M = 0
      · subst hz
        have hE : Hid (bdE ((0 : Nat) : Int) l = 5) := HE.out 0
        clear HE
        go_wp2_with fail
        exact bodyPost_ret (v := .tuple #[.slice none 0 0, .bool false, .int .i64 5]) (by simp [results, Tryd.results15, go_sem]) rfl (bdPost_nil (b := false) hbb.out hE.out HB3.out)
      · have hE : Hid (bdE (M : Int) l = 0) := by show _ = _; rw [HE.out 0, if_neg (by omega)]
        have t0 : ((M : Int) == 0) = false := by simp; omega
        have t1 : decide ((M : Int) = 0) = false := by simp; omega
        clear HE
        go_wp2_with fail
        exact bodyPost_ret (v := .tuple #[.slice none 0 0, .bool false, .int .i64 0]) (by simp [results, Tryd.results15, go_sem]) rfl (bdPost_nil (b := false) hbb.out hE.out HB3.out)
    | none =>
      have hcv := Lib.hid (cfV_no h0 hcf)
      rw [hcf] at HBD
      rw [hcv.out]
      clear h0 hcf hcv
      by_cases hz : M = 0
      · subst hz
        have hE : Hid (bdE ((0 : Nat) : Int) l = 5) := HE.out 0
        have hbb : Hid (bdB ((0 : Nat) : Int) l = false) := by show _ = _; rw [HBD.out]; simp
        clear HE HBD hl64
        go_wp2_with fail
        exact bodyPost_ret (v := .tuple #[.slice none 0 0, .bool false, .int .i64 5]) (by simp [results, Tryd.results15, go_sem]) rfl (bdPost_nil (b := false) hbb.out hE.out HB3.out)
      · have hE : Hid (bdE (M : Int) l = 0) := by show _ = _; rw [HE.out 0, if_neg (by omega)]
        have t0 : ((M : Int) == 0) = false := by simp; omega
        have t1 : decide ((M : Int) = 0) = false := by simp; omega
        have hbb : Hid (bdB (M : Int) l = true) := by show _ = _; rw [HBD.out, t1]; rfl
        have hT : Hid (bdT (M : Int) l = bdN M l) := by show _ = _; unfold bdT; rw [hbb.out, Int.toNat_natCast]; rfl
        clear HE HBD
        by_cases h1 : M = 1
        · subst h1
          have hT1 : Hid (bdT ((1 : Nat) : Int) l = [(-1, ⟨#[76, 48]⟩)]) := by show _ = _; rw [hT.out]; unfold bdN; rw [if_pos rfl]
          clear hl64 hT
          go_wp2_with fail
          have ho : (w2.alloc (.cells #[.int .i64 (-1), .string ⟨#[76, 48]⟩] 60)).ownsRow w.heap.size 60 2 (.slice (some ⟨w2.heap.size, 0, none⟩) 1 1) 1 (fl encNd [(-1, ⟨#[76, 48]⟩)]) :=
            owns_made (k := 2) (cs := #[.int .i64 (-1), .string ⟨#[76, 48]⟩]) HB3.out.size rfl (by unfold maxLen; omega)
          exact bodyPost_ret (v := .tuple #[.slice (some ⟨w2.heap.size, 0, none⟩) 1 1, .bool true, .int .i64 0]) (by simp [results, Tryd.results15, go_sem]) rfl ⟨_, by rw [hbb.out, hE.out], by rw [hT1.out]; exact ho, bl_alloc HB3.out _⟩
        · have t2 : ((M : Int) == 1) = false := by simp; omega
          have t3 : decide ((M : Int) = 1) = false := by simp; omega
          have hT2 : Hid (bdT (M : Int) l = treeN (setsB M l) (namB (grpsN M l).length) ((grpsN M l).length + M + 1)) := by show _ = _; rw [hT.out]; unfold bdN; rw [if_neg h1]
          have hw : IntKind.u64.wrap (IntKind.u64.wrap (2 ^ M) - 1) = ((2 ^ M - 1 : Nat) : Int) := wrap_all hM
          have HW := Lib.hid hw
          clear hT hw h1
          go_upto_region 10 with fail
          go_upto_region 11 with fail
          rw [HW.out]
          go_upto_region 13 with fail
          have hbl3 : Below w.heap.size w ((((w2.alloc (.cells #[.int .u64 ((2 ^ M - 1 : Nat) : Int)] 61)).alloc (.cells #[.slice (some ⟨w2.heap.size, 0, none⟩) 1 1] 62)).alloc (.cells #[.int .i64 (-1), .string ⟨#[114, 111, 111, 116]⟩] 60)).alloc (.cells #[.slice (some ⟨w2.heap.size + 1 + 1, 0, none⟩) 1 1] 27)) := bl_alloc (bl_alloc (bl_alloc (bl_alloc HB3.out _) _) _) _
          have hb23 : Below w2.heap.size w2 ((((w2.alloc (.cells #[.int .u64 ((2 ^ M - 1 : Nat) : Int)] 61)).alloc (.cells #[.slice (some ⟨w2.heap.size, 0, none⟩) 1 1] 62)).alloc (.cells #[.int .i64 (-1), .string ⟨#[114, 111, 111, 116]⟩] 60)).alloc (.cells #[.slice (some ⟨w2.heap.size + 1 + 1, 0, none⟩) 1 1] 27)) := bl_alloc (bl_alloc (bl_alloc (bl_alloc (Below.refl _ _) _) _) _) _
          have hbw := bld_first w w2 (2 ^ M - 1) HB3.out.size
          obtain ⟨w3, hw3⟩ : ∃ x, x = ((((w2.alloc (.cells #[.int .u64 ((2 ^ M - 1 : Nat) : Int)] 61)).alloc (.cells #[.slice (some ⟨w2.heap.size, 0, none⟩) 1 1] 62)).alloc (.cells #[.int .i64 (-1), .string ⟨#[114, 111, 111, 116]⟩] 60)).alloc (.cells #[.slice (some ⟨w2.heap.size + 1 + 1, 0, none⟩) 1 1] 27)) := ⟨_, rfl⟩
          rw [← hw3] at hbl3 hb23 hbw ⊢
          obtain ⟨H, hH⟩ : ∃ x, x = w2.heap.size := ⟨_, rfl⟩
          have hBX3 := HBX.out.below hb23
          have f0 : w3.cell? ⟨X, 0, none⟩ = some (.int .i64 M) := hBX3.cell 0
          have f1 : w3.cell? ⟨X, 1, none⟩ = some (.slice a N c) := hBX3.cell 1
          have HG := Lib.hid (groups_any M a N c l w3 HL.out (by have := HL.out; omega) hM (HA2.out.bl hb23) HF.out)
          have hgl := grpsU_le M l
          have hgl2 : (grpsN M l).length ≤ 64 := by rw [grpsN_len]; omega
          have HZL := Lib.hid (grpsN_lt HF.out HLT.out)
          have HSL := Lib.hid (setsB_lt HF.out HLT.out)
          have HS0 := Lib.hid (setsB_zero M l)
          have HSG : Hid (∀ j, j < (grpsN M l).length → vA (setsB M l) (j + 1) = vA (grpsN M l) j) := fun j hj => setsB_grp hj
          have HS1 : Hid (∀ k, k < M → vA (setsB M l) ((grpsN M l).length + k + 1) = 2 ^ k) := fun k hk => setsB_one hk
          have HSN := Lib.hid (setsB_len M l)
          have hbw2 : BldW w3 w.heap.size (w2.heap.size + 1) (w2.heap.size + 1 + 1 + 1) ((setsB M l).take 1) (treeN (setsB M l) (namB (grpsN M l).length) 1) w2.heap.size 1 (w2.heap.size + 1 + 1) 1 := hbw
          rw [grpsN_enc, ← grpsN_len] at HG
          obtain ⟨zs, hzs⟩ : ∃ zs, grpsN M l = zs := ⟨_, rfl⟩
          obtain ⟨SS, hSS⟩ : ∃ x, setsB M l = x := ⟨_, rfl⟩
          rw [hSS, hzs] at hbw2 HSG HS1 hT2
          rw [hzs] at HG hgl2 HZL HSN
          rw [hSS] at HSL HS0 HSN
          rw [← hH] at hbw2 ⊢
          have hHX : X < H := by rw [hH]; exact HBX.out.lt
          have HBL3 := Lib.hid hbl3
          have HBW2 := Lib.hid hbw2
          have HBX3 := Lib.hid hBX3
          clear hzs hSS hH hw3 hb23 hbw hbw2 hBX3 hgl hbl3 HBX HA2 e0 e1 HB3 HW
          go_wp2_with fail
          refine HG.out.mono ?_
          rintro e w4 ⟨v, rfl, ho, hb⟩
          obtain ⟨A, cap, rfl, hAg⟩ := owns_slice ho
          have HR := Lib.hid (rd_of_owns ho)
          have HB4 := Lib.hid (bl_trans HBL3.out hb)
          have HBW4 := Lib.hid (HBW2.out.bl hb)
          have HBX4 := Lib.hid (HBX3.out.below hb)
          have hg4 : ∀ b off, A = some ⟨b, off, none⟩ → zs.length ≠ 0 → H + 1 + 1 + 1 < b := by
            intro b off e hn
            rcases hAg with h | ⟨g, h1, h2, h3⟩
            · exact absurd h hn
            · rw [h3] at e
              have := (Addr.mk.inj (Option.some.inj e)).1
              have := HBW2.out.b3.lt
              omega
          have HG4 := Lib.hid hg4
          obtain ⟨G, hG⟩ : ∃ K, K = zs.length := ⟨_, rfl⟩
          rw [← hG] at hgl2 HSG HS1 HSN HG4 hT2 HBW4 ⊢
          have HGL := Lib.hid hG
          clear ho hb hAg hG HG HBL3 HBW2 f0 f1 hg4
          obtain ⟨nm, hnm⟩ : ∃ nm, nm = namB G := ⟨_, rfl⟩
          rw [← hnm] at hT2 HBW4
          have HNG : Hid (∀ j, j < G → nm (j + 1) = ⟨#[78]⟩ ++ itoaB (j + 1)) := fun j hj => by rw [hnm]; exact namB_grp hj
          have HN1 : Hid (∀ k, nm (G + k + 1) = ⟨#[76]⟩ ++ itoaB k) := fun k => by rw [hnm]; exact namB_one G k
          clear hnm
          have hMp : 2 ^ M ≤ 4294967296 := Nat.pow_le_pow_right (n := 2) (by omega) (show M ≤ 32 by omega)
          have HSV : Hid (∀ x, x ∈ SS → x < 18446744073709551616) := fun x hx => by have := HSL.out x hx; omega
          have HSA : Hid (∀ i, i < SS.length → 0 < i → vA (SS.take i) 0 &&& vA SS i = vA SS i) := fun i hi h0 => by
            have e : vA (SS.take i) 0 = 2 ^ M - 1 := by rw [← HS0.out]; simp [vA, List.getElem?_take, h0]
            rw [e, Nat.and_comm, Nat.and_two_pow_sub_one_eq_mod]
            exact Nat.mod_eq_of_lt (HSL.out _ (by rw [vA_get hi]; exact List.getElem_mem hi))
          clear hMp
          go_wp2_with fail
          go_loopw [49] (fun x wr => ∃ j : Nat, j ≤ G ∧ x = .int .i64 j ∧ (∃ g2 c2 g3 c3, BldW wr w.heap.size (H + 1) (H + 1 + 1 + 1) (SS.take (j + 1)) (treeN SS nm (j + 1)) g2 c2 g3 c3 ∧ (∀ b off, A = some ⟨b, off, none⟩ → G ≠ 0 → b ≠ g2 ∧ b ≠ g3) ∧ X < g2 ∧ X < g3) ∧ Hid (Blk wr X #[.int .i64 M, .slice a N c] 24) ∧ Hid (Rd wr A (fl encV zs)) ∧ Hid (Below w.heap.size w wr) ∧ Hid (w4.heap.size ≤ wr.heap.size)) (fun x _ => G - (intOf x).toNat)
          case atStart => exact ⟨0, by omega, rfl, ⟨H, 1, H + 1 + 1, 1, HBW4.out, fun b off e hn => by have := HG4.out b off e hn; omega, hHX, by omega⟩, HBX4, HR, HB4, Nat.le_refl _⟩
          case round =>
            obtain ⟨j, hj, rfl, ⟨g2, c2, g3, c3, hbw, hbg, hxg2, hxg3⟩, hbx, hrd, hbl, hsz⟩ := hrel
            by_cases hlt : j < G
            · obtain ⟨b, o, rfl, hb, hc2⟩ := rdV hrd.out (by rw [← HGL.out]; omega)
              have G1 := hc2 j (by rw [← HGL.out]; exact hlt)
              have hsx := HSG.out j hlt
              have hjS : j + 1 < SS.length := by rw [HSN.out]; omega
              have hxb := HSV.out _ (by rw [← hsx, vA_get hjS]; exact List.getElem_mem hjS : vA zs j ∈ SS)
              have hst := tree_step (nm := nm) hjS hsx
              have h0 := HSA.out (j + 1) hjS (by omega)
              rw [hsx] at h0
              rw [HNG.out j hlt] at hst
              obtain ⟨hbg1, hbg2⟩ := hbg b o rfl (by omega)
              have hG4 := HG4.out b o rfl (by omega)
              have hI : ∀ W, Calls Tryd.prog 37 #[.int .i64 ((j : Int) + 1)] W fun e w' => e = .returned (.string (itoaB (j + 1))) ∧ w' = W := fun W => by
                have e : ((j : Int) + 1) = ((j + 1 : Nat) : Int) := by omega
                rw [e]; exact Tryd.strconv_Itoa_small (j + 1) (by omega) W
              have HI := Lib.hid hI
              have hlen1 : (SS.take (j + 1)).length = j + 1 := by rw [List.length_take]; omega
              have hlt1 : (treeN SS nm (j + 1)).length = j + 1 := treeN_len _ _ _
              have HBW := Lib.hid hbw
              have HC1 := Lib.hid (bld1_any (H + 1) (H + 1 + 1 + 1) w.heap.size (SS.take (j + 1)) (treeN SS nm (j + 1)) g2 c2 g3 c3 (vA zs j) (⟨#[78]⟩ ++ itoaB (j + 1)) wr hbw hxb (fitV_take HSV.out _) h0 (by omega) (by omega) (by omega))
              have HST := Lib.hid hst
              have hszr := Lib.hid (HB4.out.size)
              have hisz := itoaB_size (j + 1) (by omega)
              clear hst hc2 hsx h0 hlen1 hlt1 hI hbw hbg
              generalize vA zs j = z at *
              go_wp2_with fail
              refine (HI.out _).mono ?_
              rintro e w5 ⟨rfl, rfl⟩
              go_wp2_with fail
              refine HC1.out.mono ?_
              rintro e w6 ⟨rfl, ⟨g2', c2', g3', c3', hb6, hg2', hg3'⟩, ho6, hsz6, hbl6⟩
              rw [HST.out.1, HST.out.2] at hb6
              have HRD6 : Hid (Rd w6 (some ⟨b, o, none⟩) (fl encV zs)) := rd_block hrd.out hsz6 fun b' o' e' hlt' => by
                have e2 := (Addr.mk.inj (Option.some.inj e')).1
                exact ho6 b' hlt' (by omega) (by omega) (by omega) (by omega)
              have HBL6 := Lib.hid (hbl6 w hbl.out (Nat.le_refl _))
              have HB6 := Lib.hid hb6
              have HS6 : Hid (w4.heap.size ≤ w6.heap.size) := Nat.le_trans hsz.out hsz6
              have hxl := hbx.out.lt
              have HBX6 : Hid (Blk w6 X #[.int .i64 M, .slice a N c] 24) := (ho6 X hxl (by omega) (by omega) (by omega) (by omega)).trans hbx.out
              clear ho6 hbl6 hb6 G1
              go_wp2_with fail
              go_roundw
              case rel => exact ⟨j + 1, by omega, by go_num, ⟨g2', c2', g3', c3', HB6.out, fun b' o' e' _ => by
                have e2 := (Addr.mk.inj (Option.some.inj e')).1
                omega, by omega, by omega⟩, HBX6, HRD6, HBL6, HS6⟩
              case measure => simp [intOf]; omega
            · obtain rfl : j = G := by omega
              have f0 : wr.cell? ⟨X, 0, none⟩ = some (.int .i64 M) := hbx.out.cell 0
              have f1 : wr.cell? ⟨X, 1, none⟩ = some (.slice a N c) := hbx.out.cell 1
              have HBW := Lib.hid hbw
              clear hbw hbg hrd hsz hbx HG4 HR HB4 HBX4 HBW4
              go_wp2_with fail
              clear f0 f1
              obtain ⟨w7, rfl⟩ : ∃ x : World, x = wr := ⟨_, rfl⟩
              go_loopw [64] (fun x wr => ∃ k : Nat, k ≤ M ∧ x = .int .i64 k ∧ (∃ g2 c2 g3 c3, BldW wr w.heap.size (H + 1) (H + 1 + 1 + 1) (SS.take (j + k + 1)) (treeN SS nm (j + k + 1)) g2 c2 g3 c3) ∧ Hid (Below w.heap.size w wr)) (fun x _ => M - (intOf x).toNat)
              case atStart => exact ⟨0, by omega, rfl, ⟨g2, c2, g3, c3, HBW.out⟩, hbl⟩
              case round =>
                clear HBW hbl hxg2 hxg3 g2 c2 g3 c3
                obtain ⟨k, hk, rfl, ⟨g2, c2, g3, c3, hbw⟩, hbl⟩ := hrel
                by_cases hlt : k < M
                · have hjS : j + k + 1 < SS.length := by rw [HSN.out]; omega
                  have hsx := HS1.out k hlt
                  have hxb := HSV.out _ (by rw [← hsx, vA_get hjS]; exact List.getElem_mem hjS : 2 ^ k ∈ SS)
                  have hst := tree_step (nm := nm) hjS hsx
                  have h0 := HSA.out (j + k + 1) hjS (by omega)
                  rw [hsx] at h0
                  rw [HN1.out k] at hst
                  have HI : Hid (∀ W, Calls Tryd.prog 37 #[.int .i64 (k : Int)] W fun e w' => e = .returned (.string (itoaB k)) ∧ w' = W) := fun W => Tryd.strconv_Itoa_small k (by omega) W
                  have hlen1 : (SS.take (j + k + 1)).length = j + k + 1 := by rw [List.length_take]; omega
                  have hlt1 : (treeN SS nm (j + k + 1)).length = j + k + 1 := treeN_len _ _ _
                  have HC1 := Lib.hid (fun W (hW : BldW W w.heap.size (H + 1) (H + 1 + 1 + 1) (SS.take (j + k + 1)) (treeN SS nm (j + k + 1)) g2 c2 g3 c3) => bld1_any (H + 1) (H + 1 + 1 + 1) w.heap.size (SS.take (j + k + 1)) (treeN SS nm (j + k + 1)) g2 c2 g3 c3 (2 ^ k) (⟨#[76]⟩ ++ itoaB k) W hW hxb (fitV_take HSV.out _) h0 (by omega) (by omega) (by omega))
                  have HST := Lib.hid hst
                  have hisz := itoaB_size k (by omega)
                  have e : ((2 : Int) ^ k) = ((2 ^ k : Nat) : Int) := by simp
                  have HW : Hid (IntKind.u64.wrap (2 ^ k) = ((2 ^ k : Nat) : Int)) := by show _ = _; rw [e, w64 _ hxb]
                  have HBW := Lib.hid hbw
                  clear hst hsx h0 hlen1 hlt1 hbw e
                  go_upto_region 21 with fail
                  refine wp_quiet_tail_lit 6 (by kernel_rfl) (by kernel_rfl) ?_
                  simp only [List.take_succ_cons, List.take_zero, List.drop_succ_cons, List.drop_zero]
                  repeat (go_big_quiet_step ((exact Calls.quiet_of_same (HI.out _))))
                  refine wpQuiet_nil ?_
                  intro _ hw'
                  obtain ⟨nq, hw''⟩ := hw'
                  subst hw''
                  rw [HW.out]
                  try simp only [Act.put, List.setIfInBounds_toArray, List.set_cons_zero, List.set_cons_succ]
                  go_wp2_with fail
                  refine (HC1.out _ (HBW.out.bl (bl_drewN (Below.refl _ _) nq))).mono ?_
                  rintro e w6 ⟨rfl, ⟨g2', c2', g3', c3', hb6, hg2', hg3'⟩, ho6, hsz6, hbl6⟩
                  rw [HST.out.1, HST.out.2] at hb6
                  have HBL6 := Lib.hid (hbl6 w (bl_drewN hbl.out nq) (Nat.le_refl _))
                  have HB6 := Lib.hid hb6
                  clear ho6 hbl6 hb6 hg2' hg3' hsz6
                  go_wp2_with fail
                  go_roundw
                  case rel => exact ⟨k + 1, by omega, by go_num, ⟨g2', c2', g3', c3', HB6.out⟩, HBL6⟩
                  case measure => simp [intOf]; omega
                · obtain rfl : k = M := by omega
                  have e3 : wr.cell? ⟨H + 1 + 1 + 1, 0, none⟩ = some (.slice (some ⟨g3, 0, none⟩) (treeN SS nm (j + k + 1)).length c3) := hbw.b3.cell 0
                  have HR3 := Lib.hid hbw.r3
                  clear hbw
                  rw [treeN_len] at e3 HR3
                  go_wp2_with fail
                  exact bodyPost_ret (v := .tuple #[.slice (some ⟨g3, 0, none⟩) (j + k + 1) c3, .bool true, .int .i64 0]) (by simp [results, Tryd.results15, go_sem]) rfl ⟨_, by rw [hbb.out, hE.out], by rw [hT2.out, treeN_len]; exact HR3.out, hbl.out⟩
  · have hcf := Lib.hid (cfV_bad h0)
    have hE : Hid (bdE L l = chkT L l) := if_pos h0
    have hbb : Hid (bdB L l = false) := by show _ = _; unfold bdB; rw [decide_eq_false h0]; rfl
    rw [hcf.out]
    obtain ⟨E, hEE⟩ : ∃ E, chkT L l = E := ⟨_, rfl⟩
    rw [hEE] at hE h0 ⊢
    have d0 : (E == 0) = false := by simp [h0]
    have d1 : (E != 0) = true := by simp [h0]
    clear hEE hcf h0
    go_wp2_with fail
    exact bodyPost_ret (v := .tuple #[.slice none 0 0, .bool false, .int .i64 E]) (by simp [results, Tryd.results15, go_sem]) rfl (bdPost_nil (b := false) hbb.out hE.out HB3.out)
end Go.Proofs.YtnabbmdhhddfbaaDoor
