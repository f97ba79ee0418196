/- phylo.Build at every table. The first of the longest lists without conflicts: plain. phylo.Largest at every table. The sets of a tree's nodes: plain. phylo.nodes: the iterator over the nodes and their sets. phylo.Losses at every table and tree. The example of all statements: plain. The example of all statements: works answers true. phylo.Fits at every table and tree. The document's Fits at every table and tree. phylo.On at every table and tree. The document's On at every table and tree. The document's tree: the way from the root. The document's tree: the deepest common node. The document's tree: common nodes and ways, plain. The document's tree: Path, and whether a node is below another one. The document's tree: Check. The document's tree: the set of a node. The document's tree: ways are increasing; the node above, plain. The place of a leaf, plain. The set of a node: its leaves are those whose way it lies on. The sets of a tree's nodes fit one another (plain). What is lost, as the document counts it; plain. The sets of a tree's nodes: they fit one another; what is lost (plain). The statement PhyloOnce: the walk. The statement PhyloPerfect: the walk. Sets of numbers of 64 bits in maps of the call's own. Bits of numbers, sorted lists (plain). -/
import Derived.Test.YtkdehkkkbfackaaGreatDoorZB
import Derived.Test.YtkdehkkkbfackaaGreatDoorZA
import Derived.Laws.EntriesVeiled
import Derived.Maps.OwnSet
import Derived.Maps.OwnIn
import Derived.Maps.RangeWalk
namespace Go.Proofs.YtkdehkkkbfackaaGreatDoor
open Go.RowKit Go.Shelf
theorem parZ_congr {S S' : List Nat} (s : Nat) : ∀ k, (∀ i, i < k → vA S i = vA S' i) → parZ S s k = parZ S' s k := by
  intro k
  induction k with
  | zero => intro _; rfl
  | succ k ih =>
    intro h
    unfold parZ
    rw [ih (fun i hi => h i (by omega)), h k (by omega)]
def itoaB (i : Nat) : ByteArray := ⟨(Go.Lib.decDigits i).toArray⟩
theorem itoaB_size (i : Nat) (h : i < 100) : (itoaB i).size ≤ 2 := by
  have : (Go.Lib.decDigits i).length ≤ 2 := by
    rw [Go.Lib.decDigits]
    split
    · simp
    · rw [Go.Lib.decDigits, dif_pos (by omega)]; simp
  simp only [itoaB, ByteArray.size, List.size_toArray]
  exact this
/-- The sets of the nodes: all, the groups, each language. -/
def setsB (L : Nat) (l : List Nat) : List Nat := (2 ^ L - 1) :: (grpsN L l ++ (List.range L).map fun k => 2 ^ k)
/-- The nodes' names. -/
def namB (G : Nat) (i : Nat) : ByteArray := if i = 0 then ⟨#[114, 111, 111, 116]⟩ else if i ≤ G then ⟨#[78]⟩ ++ itoaB i else ⟨#[76]⟩ ++ itoaB (i - G - 1)
def treeN (S : List Nat) (nm : Nat → ByteArray) (k : Nat) : List Nd := (List.range k).map fun i => (parZ S (vA S i) i, nm i)
theorem treeN_len (S : List Nat) (nm : Nat → ByteArray) (k : Nat) : (treeN S nm k).length = k := by simp [treeN]
theorem treeN_snoc (S : List Nat) (nm : Nat → ByteArray) (k : Nat) : treeN S nm (k + 1) = treeN S nm k ++ [(parZ S (vA S k) k, nm k)] := by
  simp [treeN, List.range_succ]
theorem setsB_len (L : Nat) (l : List Nat) : (setsB L l).length = (grpsN L l).length + L + 1 := by simp [setsB]
theorem setsB_zero (L : Nat) (l : List Nat) : vA (setsB L l) 0 = 2 ^ L - 1 := rfl
theorem setsB_grp {L : Nat} {l : List Nat} {j : Nat} (h : j < (grpsN L l).length) : vA (setsB L l) (j + 1) = vA (grpsN L l) j := by
  simp only [vA, setsB, List.getD_cons_succ]
  rw [List.getD_eq_getElem?_getD, List.getElem?_append_left h]
  simp [h]
theorem setsB_one {L : Nat} {l : List Nat} {k : Nat} (h : k < L) : vA (setsB L l) ((grpsN L l).length + k + 1) = 2 ^ k := by
  simp only [vA, setsB, List.getD_cons_succ]
  rw [List.getD_eq_getElem?_getD, List.getElem?_append_right (by omega)]
  simp [h]
theorem namB_grp {G j : Nat} (h : j < G) : namB G (j + 1) = ⟨#[78]⟩ ++ itoaB (j + 1) := by
  unfold namB; rw [if_neg (by omega), if_pos (by omega)]
theorem namB_one (G k : Nat) : namB G (G + k + 1) = ⟨#[76]⟩ ++ itoaB k := by
  unfold namB; rw [if_neg (by omega), if_neg (by omega), show G + k + 1 - G - 1 = k by omega]
theorem grpsN_lt {L : Nat} {l : List Nat} (hF : FitV l) (h : ∀ x, x ∈ l → x < 2 ^ L) : ∀ x, x ∈ grpsN L l → x < 2 ^ L := by
  intro x hx
  rw [grpsN_mem hF] at hx
  exact h x (List.mem_of_mem_take (List.mem_filter.1 hx).1)
theorem setsB_lt {L : Nat} {l : List Nat} (hF : FitV l) (h : ∀ x, x ∈ l → x < 2 ^ L) : ∀ x, x ∈ setsB L l → x < 2 ^ L := by
  intro x hx
  unfold setsB at hx
  have hp := Nat.two_pow_pos L
  rcases List.mem_cons.1 hx with rfl | hx
  · omega
  · rcases List.mem_append.1 hx with hx | hx
    · exact grpsN_lt hF h x hx
    · obtain ⟨k, hk, rfl⟩ := List.mem_map.1 hx
      exact Nat.pow_lt_pow_right (by omega) (List.mem_range.1 hk)
/-- One more node. -/
theorem tree_step {S : List Nat} {nm : Nat → ByteArray} {k s : Nat} (hk : k < S.length) (hs : vA S k = s) :
    S.take k ++ [s] = S.take (k + 1) ∧ treeN S nm k ++ [(parZ (S.take k) s (S.take k).length, nm k)] = treeN S nm (k + 1) := by
  have e : (S.take k).length = k := by rw [List.length_take]; omega
  refine ⟨?_, ?_⟩
  · rw [List.take_succ_eq_append_getElem hk, ← vA_get hk, hs]
  · rw [treeN_snoc, e, hs]
    congr 3
    refine parZ_congr s k fun i hi => ?_
    simp [vA, List.getElem?_take, hi]
theorem fitV_take {S : List Nat} (h : ∀ x, x ∈ S → x < 18446744073709551616) (k : Nat) : FitV (S.take k) := by
  intro i hi
  rw [vA_get hi]
  exact h _ (List.mem_of_mem_take (List.getElem_mem hi))
/-- Does Build answer a tree? -/
def bdB (L : Int) (l : List Nat) : Bool := decide (chkT L l = 0) && !decide (L = 0) && (confE l).isNone
def bdE (L : Int) (l : List Nat) : Int := if chkT L l ≠ 0 then chkT L l else if L = 0 then 5 else 0
def bdN (L : Nat) (l : List Nat) : List Nd := if L = 1 then [(-1, ⟨#[76, 48]⟩)] else treeN (setsB L l) (namB (grpsN L l).length) ((grpsN L l).length + L + 1)
def bdT (L : Int) (l : List Nat) : List Nd := if bdB L l then bdN L.toNat l else []
/-- What Build answers. -/
def BdPost (w : World) (L : Int) (l : List Nat) (e : Ending) (w' : World) : Prop :=
  ∃ v, e = .returned (.tuple #[v, .bool (bdB L l), .int .i64 (bdE L l)]) ∧ w'.ownsRow w.heap.size 40 2 v (bdT L l).length (fl encNd (bdT L l)) ∧ Below w.heap.size w w'
theorem BldW.bl {w w' : World} {base X2 X3 : Nat} {S : List Nat} {T : List Nd} {g2 c2 g3 c3 : Nat} (h : BldW w base X2 X3 S T g2 c2 g3 c3) (hb : Below w.heap.size w w') : BldW w' base X2 X3 S T g2 c2 g3 c3 :=
  ⟨h.b2.below hb, h.b3.below hb, owns_below h.r2 hb, owns_below h.r3 hb, h.d1, h.d2, h.d3, h.d4, h.d5, h.d6, h.h2, h.h3⟩
/-- What is laid before the first group. -/
theorem bld_first (w w2 : World) (A : Nat) (hw : w.heap.size ≤ w2.heap.size) :
    BldW ((((w2.alloc (.cells #[.int .u64 A] 41)).alloc (.cells #[.slice (some ⟨w2.heap.size, 0, none⟩) 1 1] 42)).alloc (.cells #[.int .i64 (-1), .string ⟨#[114, 111, 111, 116]⟩] 40)).alloc (.cells #[.slice (some ⟨w2.heap.size + 1 + 1, 0, none⟩) 1 1] 25))
      w.heap.size (w2.heap.size + 1) (w2.heap.size + 1 + 1 + 1) [A] [(-1, ⟨#[114, 111, 111, 116]⟩)] w2.heap.size 1 (w2.heap.size + 1 + 1) 1 := by
  have z1 : (w2.alloc (.cells #[.int .u64 A] 41)).heap.size = w2.heap.size + 1 := by simp
  have z2 : ((w2.alloc (.cells #[.int .u64 A] 41)).alloc (.cells #[.slice (some ⟨w2.heap.size, 0, none⟩) 1 1] 42)).heap.size = w2.heap.size + 1 + 1 := by simp
  have z3 : (((w2.alloc (.cells #[.int .u64 A] 41)).alloc (.cells #[.slice (some ⟨w2.heap.size, 0, none⟩) 1 1] 42)).alloc (.cells #[.int .i64 (-1), .string ⟨#[114, 111, 111, 116]⟩] 40)).heap.size = w2.heap.size + 1 + 1 + 1 := by simp
  refine ⟨?_, ?_, ?_, ?_, by omega, by omega, by omega, by omega, by omega, by omega, by omega, by omega⟩
  · exact ((Blk.new2 w2 _ _ _).alloc _).alloc _
  · have := Blk.new ((((w2.alloc (.cells #[.int .u64 A] 41)).alloc (.cells #[.slice (some ⟨w2.heap.size, 0, none⟩) 1 1] 42))).alloc (.cells #[.int .i64 (-1), .string ⟨#[114, 111, 111, 116]⟩] 40)) #[.slice (some ⟨w2.heap.size + 1 + 1, 0, none⟩) 1 1] 25
    rw [z3] at this
    exact this
  · exact (((owns_made (k := 1) (cs := #[.int .u64 A]) hw rfl (by unfold maxLen; omega)).alloc _).alloc _).alloc _
  · have := (owns_made (w := (w2.alloc (.cells #[.int .u64 A] 41)).alloc (.cells #[.slice (some ⟨w2.heap.size, 0, none⟩) 1 1] 42)) (base := w.heap.size) (e := 40) (n := 1) (k := 2) (cs := #[.int .i64 (-1), .string ⟨#[114, 111, 111, 116]⟩]) (by rw [z2]; omega) rfl (by unfold maxLen; omega)).alloc (.cells #[.slice (some ⟨w2.heap.size + 1 + 1, 0, none⟩) 1 1] 25)
    rw [z2] at this
    exact this
theorem bdPost_nil {w w' : World} {L : Int} {l : List Nat} {b : Bool} {E : Int} (hb : bdB L l = false) (hE : bdE L l = E) (hbl : Below w.heap.size w w') : BdPost w L l (.returned (.tuple #[.slice none 0 0, .bool false, .int .i64 E])) w' := by
  refine ⟨_, by rw [hb, hE], ?_, hbl⟩
  unfold bdT
  rw [hb]
  exact World.ownsRow_nil _ _ _ _
set_option maxRecDepth 100000 in
set_option maxHeartbeats 4000000 in
theorem build_any (L : Int) (a : Option Addr) (N c : Nat) (l : List Nat) (w : World) (hl : l.length = N) (hN : N ≤ 1152921504606846976) (hNc : N ≤ c) (hc : c ≤ 9223372036854775807) (hA : Rd w a (fl encV l)) (hF : FitV l) :
    Calls Tryz.prog 4 #[.agg #[.int .i64 L, .slice a N c]] w (BdPost w L l) := by
  have hb0 := bl_alloc (Below.refl _ w) (.cells #[.int .i64 L, .slice a N c] 24)
  have hB := Blk.new w #[.int .i64 L, .slice a N c] 24
  have HL := Lib.hid hl
  have HF := Lib.hid hF
  have HC := Lib.hid (conf_any L a N c l (w.alloc (.cells #[.int .i64 L, .slice a N c] 24)) hl hN hNc hc (hA.bl hb0) hF)
  have HA := Lib.hid (hA.bl hb0)
  clear hl hA hF
  obtain ⟨X, hX⟩ : ∃ X, X = w.heap.size := ⟨_, rfl⟩
  go_enter Tryz.func4, Tryz.ntmps4
  go_wp2_with fail
  refine HC.out.mono ?_
  rintro e w2 ⟨rfl, hb2⟩
  have hb3 := bl_trans hb0 hb2
  have hB2 := hB.below hb2
  have HA2 := Lib.hid (HA.out.bl hb2)
  rw [← hX] at hB2 ⊢
  have HB3 := Lib.hid hb3
  have e0 : w2.cell? ⟨X, 0, none⟩ = some (.int .i64 L) := hB2.cell 0
  have e1 : w2.cell? ⟨X, 1, none⟩ = some (.slice a N c) := hB2.cell 1
  have HBX := Lib.hid hB2
  have HX := Lib.hid hX
  clear hX hB2 hb3 hB hb0 hb2 HA HC
  by_cases h0 : chkT L l = 0
  · obtain ⟨M, rfl⟩ : ∃ M : Nat, L = M := by
      refine ⟨L.toNat, ?_⟩
      unfold chkT at h0
      by_cases q : L < 0 ∨ 32 < L
      · rw [if_pos q] at h0; omega
      · omega
    obtain ⟨hM, hl64, hlt⟩ := chk_lt h0
    have HLT := Lib.hid hlt
    have HE : Hid (∀ E : Nat, bdE (M : Int) l = (if (M : Int) = 0 then 5 else 0)) := fun _ => by unfold bdE; rw [if_neg (fun h => h h0)]
    have HBD : Hid (bdB (M : Int) l = (!decide ((M : Int) = 0) && (confE l).isNone)) := by show _ = _; unfold bdB; rw [decide_eq_true h0]; rfl
    have H0 := Lib.hid h0
    clear hlt
    cases hcf : confE l with
    | some ij =>
      obtain ⟨i, j⟩ := ij
      have hcv := Lib.hid (cfV_yes h0 hcf)
      rw [hcf] at HBD
      have hbb : Hid (bdB (M : Int) l = false) := by show _ = _; rw [HBD.out]; simp
      rw [hcv.out]
      clear h0 hcf hcv HBD hl64
      by_cases hz : M = 0
      · subst hz
        have hE : Hid (bdE ((0 : Nat) : Int) l = 5) := HE.out 0
        clear HE
        go_wp2_with fail
        exact bodyPost_ret (v := .tuple #[.slice none 0 0, .bool false, .int .i64 5]) (by simp [results, Tryz.results4, go_sem]) rfl (bdPost_nil (b := false) hbb.out hE.out HB3.out)
      · have hE : Hid (bdE (M : Int) l = 0) := by show _ = _; rw [HE.out 0, if_neg (by omega)]
        have t0 : ((M : Int) == 0) = false := by simp; omega
        have t1 : decide ((M : Int) = 0) = false := by simp; omega
        clear HE
        go_wp2_with fail
        exact bodyPost_ret (v := .tuple #[.slice none 0 0, .bool false, .int .i64 0]) (by simp [results, Tryz.results4, go_sem]) rfl (bdPost_nil (b := false) hbb.out hE.out HB3.out)
    | none =>
      have hcv := Lib.hid (cfV_no h0 hcf)
      rw [hcf] at HBD
      rw [hcv.out]
      clear h0 hcf hcv
      by_cases hz : M = 0
      · subst hz
        have hE : Hid (bdE ((0 : Nat) : Int) l = 5) := HE.out 0
        have hbb : Hid (bdB ((0 : Nat) : Int) l = false) := by show _ = _; rw [HBD.out]; simp
        clear HE HBD hl64
        go_wp2_with fail
        exact bodyPost_ret (v := .tuple #[.slice none 0 0, .bool false, .int .i64 5]) (by simp [results, Tryz.results4, go_sem]) rfl (bdPost_nil (b := false) hbb.out hE.out HB3.out)
      · have hE : Hid (bdE (M : Int) l = 0) := by show _ = _; rw [HE.out 0, if_neg (by omega)]
        have t0 : ((M : Int) == 0) = false := by simp; omega
        have t1 : decide ((M : Int) = 0) = false := by simp; omega
        have hbb : Hid (bdB (M : Int) l = true) := by show _ = _; rw [HBD.out, t1]; rfl
        have hT : Hid (bdT (M : Int) l = bdN M l) := by show _ = _; unfold bdT; rw [hbb.out, Int.toNat_natCast]; rfl
        clear HE HBD
        by_cases h1 : M = 1
        · subst h1
          have hT1 : Hid (bdT ((1 : Nat) : Int) l = [(-1, ⟨#[76, 48]⟩)]) := by show _ = _; rw [hT.out]; unfold bdN; rw [if_pos rfl]
          clear hl64 hT
          go_wp2_with fail
          have ho : (w2.alloc (.cells #[.int .i64 (-1), .string ⟨#[76, 48]⟩] 40)).ownsRow w.heap.size 40 2 (.slice (some ⟨w2.heap.size, 0, none⟩) 1 1) 1 (fl encNd [(-1, ⟨#[76, 48]⟩)]) :=
            owns_made (k := 2) (cs := #[.int .i64 (-1), .string ⟨#[76, 48]⟩]) HB3.out.size rfl (by unfold maxLen; omega)
          exact bodyPost_ret (v := .tuple #[.slice (some ⟨w2.heap.size, 0, none⟩) 1 1, .bool true, .int .i64 0]) (by simp [results, Tryz.results4, go_sem]) rfl ⟨_, by rw [hbb.out, hE.out], by rw [hT1.out]; exact ho, bl_alloc HB3.out _⟩
        · have t2 : ((M : Int) == 1) = false := by simp; omega
          have t3 : decide ((M : Int) = 1) = false := by simp; omega
          have hT2 : Hid (bdT (M : Int) l = treeN (setsB M l) (namB (grpsN M l).length) ((grpsN M l).length + M + 1)) := by show _ = _; rw [hT.out]; unfold bdN; rw [if_neg h1]
          have hw : IntKind.u64.wrap (IntKind.u64.wrap (2 ^ M) - 1) = ((2 ^ M - 1 : Nat) : Int) := wrap_all hM
          have HW := Lib.hid hw
          clear hT hw h1
          go_upto_region 10 with fail
          go_upto_region 11 with fail
          rw [HW.out]
          go_upto_region 13 with fail
          have hbl3 : Below w.heap.size w ((((w2.alloc (.cells #[.int .u64 ((2 ^ M - 1 : Nat) : Int)] 41)).alloc (.cells #[.slice (some ⟨w2.heap.size, 0, none⟩) 1 1] 42)).alloc (.cells #[.int .i64 (-1), .string ⟨#[114, 111, 111, 116]⟩] 40)).alloc (.cells #[.slice (some ⟨w2.heap.size + 1 + 1, 0, none⟩) 1 1] 25)) := bl_alloc (bl_alloc (bl_alloc (bl_alloc HB3.out _) _) _) _
          have hb23 : Below w2.heap.size w2 ((((w2.alloc (.cells #[.int .u64 ((2 ^ M - 1 : Nat) : Int)] 41)).alloc (.cells #[.slice (some ⟨w2.heap.size, 0, none⟩) 1 1] 42)).alloc (.cells #[.int .i64 (-1), .string ⟨#[114, 111, 111, 116]⟩] 40)).alloc (.cells #[.slice (some ⟨w2.heap.size + 1 + 1, 0, none⟩) 1 1] 25)) := bl_alloc (bl_alloc (bl_alloc (bl_alloc (Below.refl _ _) _) _) _) _
          have hbw := bld_first w w2 (2 ^ M - 1) HB3.out.size
          obtain ⟨w3, hw3⟩ : ∃ x, x = ((((w2.alloc (.cells #[.int .u64 ((2 ^ M - 1 : Nat) : Int)] 41)).alloc (.cells #[.slice (some ⟨w2.heap.size, 0, none⟩) 1 1] 42)).alloc (.cells #[.int .i64 (-1), .string ⟨#[114, 111, 111, 116]⟩] 40)).alloc (.cells #[.slice (some ⟨w2.heap.size + 1 + 1, 0, none⟩) 1 1] 25)) := ⟨_, rfl⟩
          rw [← hw3] at hbl3 hb23 hbw ⊢
          obtain ⟨H, hH⟩ : ∃ x, x = w2.heap.size := ⟨_, rfl⟩
          have hBX3 := HBX.out.below hb23
          have f0 : w3.cell? ⟨X, 0, none⟩ = some (.int .i64 M) := hBX3.cell 0
          have f1 : w3.cell? ⟨X, 1, none⟩ = some (.slice a N c) := hBX3.cell 1
          have HG := Lib.hid (groups_any M a N c l w3 HL.out (by have := HL.out; omega) hM (HA2.out.bl hb23) HF.out)
          have hgl := grpsU_le M l
          have hgl2 : (grpsN M l).length ≤ 64 := by rw [grpsN_len]; omega
          have HZL := Lib.hid (grpsN_lt HF.out HLT.out)
          have HSL := Lib.hid (setsB_lt HF.out HLT.out)
          have HS0 := Lib.hid (setsB_zero M l)
          have HSG : Hid (∀ j, j < (grpsN M l).length → vA (setsB M l) (j + 1) = vA (grpsN M l) j) := fun j hj => setsB_grp hj
          have HS1 : Hid (∀ k, k < M → vA (setsB M l) ((grpsN M l).length + k + 1) = 2 ^ k) := fun k hk => setsB_one hk
          have HSN := Lib.hid (setsB_len M l)
          have hbw2 : BldW w3 w.heap.size (w2.heap.size + 1) (w2.heap.size + 1 + 1 + 1) ((setsB M l).take 1) (treeN (setsB M l) (namB (grpsN M l).length) 1) w2.heap.size 1 (w2.heap.size + 1 + 1) 1 := hbw
          rw [grpsN_enc, ← grpsN_len] at HG
          obtain ⟨zs, hzs⟩ : ∃ zs, grpsN M l = zs := ⟨_, rfl⟩
          obtain ⟨SS, hSS⟩ : ∃ x, setsB M l = x := ⟨_, rfl⟩
          rw [hSS, hzs] at hbw2 HSG HS1 hT2
          rw [hzs] at HG hgl2 HZL HSN
          rw [hSS] at HSL HS0 HSN
          rw [← hH] at hbw2 ⊢
          have hHX : X < H := by rw [hH]; exact HBX.out.lt
          have HBL3 := Lib.hid hbl3
          have HBW2 := Lib.hid hbw2
          have HBX3 := Lib.hid hBX3
          clear hzs hSS hH hw3 hb23 hbw hbw2 hBX3 hgl hbl3 HBX HA2 e0 e1 HB3 HW
          go_wp2_with fail
          refine HG.out.mono ?_
          rintro e w4 ⟨v, rfl, ho, hb⟩
          obtain ⟨A, cap, rfl, hAg⟩ := owns_slice ho
          have HR := Lib.hid (rd_of_owns ho)
          have HB4 := Lib.hid (bl_trans HBL3.out hb)
          have HBW4 := Lib.hid (HBW2.out.bl hb)
          have HBX4 := Lib.hid (HBX3.out.below hb)
          have hg4 : ∀ b off, A = some ⟨b, off, none⟩ → zs.length ≠ 0 → H + 1 + 1 + 1 < b := by
            intro b off e hn
            rcases hAg with h | ⟨g, h1, h2, h3⟩
            · exact absurd h hn
            · rw [h3] at e
              have := (Addr.mk.inj (Option.some.inj e)).1
              have := HBW2.out.b3.lt
              omega
          have HG4 := Lib.hid hg4
          obtain ⟨G, hG⟩ : ∃ K, K = zs.length := ⟨_, rfl⟩
          rw [← hG] at hgl2 HSG HS1 HSN HG4 hT2 HBW4 ⊢
          have HGL := Lib.hid hG
          clear ho hb hAg hG HG HBL3 HBW2 f0 f1 hg4
          obtain ⟨nm, hnm⟩ : ∃ nm, nm = namB G := ⟨_, rfl⟩
          rw [← hnm] at hT2 HBW4
          have HNG : Hid (∀ j, j < G → nm (j + 1) = ⟨#[78]⟩ ++ itoaB (j + 1)) := fun j hj => by rw [hnm]; exact namB_grp hj
          have HN1 : Hid (∀ k, nm (G + k + 1) = ⟨#[76]⟩ ++ itoaB k) := fun k => by rw [hnm]; exact namB_one G k
          clear hnm
          have hMp : 2 ^ M ≤ 4294967296 := Nat.pow_le_pow_right (n := 2) (by omega) (show M ≤ 32 by omega)
          have HSV : Hid (∀ x, x ∈ SS → x < 18446744073709551616) := fun x hx => by have := HSL.out x hx; omega
          have HSA : Hid (∀ i, i < SS.length → 0 < i → vA (SS.take i) 0 &&& vA SS i = vA SS i) := fun i hi h0 => by
            have e : vA (SS.take i) 0 = 2 ^ M - 1 := by rw [← HS0.out]; simp [vA, List.getElem?_take, h0]
            rw [e, Nat.and_comm, Nat.and_two_pow_sub_one_eq_mod]
            exact Nat.mod_eq_of_lt (HSL.out _ (by rw [vA_get hi]; exact List.getElem_mem hi))
          clear hMp
          go_wp2_with fail
          go_loopw [49] (fun x wr => ∃ j : Nat, j ≤ G ∧ x = .int .i64 j ∧ (∃ g2 c2 g3 c3, BldW wr w.heap.size (H + 1) (H + 1 + 1 + 1) (SS.take (j + 1)) (treeN SS nm (j + 1)) g2 c2 g3 c3 ∧ (∀ b off, A = some ⟨b, off, none⟩ → G ≠ 0 → b ≠ g2 ∧ b ≠ g3) ∧ X < g2 ∧ X < g3) ∧ Hid (Blk wr X #[.int .i64 M, .slice a N c] 24) ∧ Hid (Rd wr A (fl encV zs)) ∧ Hid (Below w.heap.size w wr) ∧ Hid (w4.heap.size ≤ wr.heap.size)) (fun x _ => G - (intOf x).toNat)
          case atStart => exact ⟨0, by omega, rfl, ⟨H, 1, H + 1 + 1, 1, HBW4.out, fun b off e hn => by have := HG4.out b off e hn; omega, hHX, by omega⟩, HBX4, HR, HB4, Nat.le_refl _⟩
          case round =>
            obtain ⟨j, hj, rfl, ⟨g2, c2, g3, c3, hbw, hbg, hxg2, hxg3⟩, hbx, hrd, hbl, hsz⟩ := hrel
            by_cases hlt : j < G
            · obtain ⟨b, o, rfl, hb, hc2⟩ := rdV hrd.out (by rw [← HGL.out]; omega)
              have G1 := hc2 j (by rw [← HGL.out]; exact hlt)
              have hsx := HSG.out j hlt
              have hjS : j + 1 < SS.length := by rw [HSN.out]; omega
              have hxb := HSV.out _ (by rw [← hsx, vA_get hjS]; exact List.getElem_mem hjS : vA zs j ∈ SS)
              have hst := tree_step (nm := nm) hjS hsx
              have h0 := HSA.out (j + 1) hjS (by omega)
              rw [hsx] at h0
              rw [HNG.out j hlt] at hst
              obtain ⟨hbg1, hbg2⟩ := hbg b o rfl (by omega)
              have hG4 := HG4.out b o rfl (by omega)
              have hI : ∀ W, Calls Tryz.prog 11 #[.int .i64 ((j : Int) + 1)] W fun e w' => e = .returned (.string (itoaB (j + 1))) ∧ w' = W := fun W => by
                have e : ((j : Int) + 1) = ((j + 1 : Nat) : Int) := by omega
                rw [e]; exact Tryz.strconv_Itoa_small (j + 1) (by omega) W
              have HI := Lib.hid hI
              have hlen1 : (SS.take (j + 1)).length = j + 1 := by rw [List.length_take]; omega
              have hlt1 : (treeN SS nm (j + 1)).length = j + 1 := treeN_len _ _ _
              have HBW := Lib.hid hbw
              have HC1 := Lib.hid (bld1_any (H + 1) (H + 1 + 1 + 1) w.heap.size (SS.take (j + 1)) (treeN SS nm (j + 1)) g2 c2 g3 c3 (vA zs j) (⟨#[78]⟩ ++ itoaB (j + 1)) wr hbw hxb (fitV_take HSV.out _) h0 (by omega) (by omega) (by omega))
              have HST := Lib.hid hst
              have hszr := Lib.hid (HB4.out.size)
              have hisz := itoaB_size (j + 1) (by omega)
              clear hst hc2 hsx h0 hlen1 hlt1 hI hbw hbg
              generalize vA zs j = z at *
              go_wp2_with fail
              refine (HI.out _).mono ?_
              rintro e w5 ⟨rfl, rfl⟩
              go_wp2_with fail
              refine HC1.out.mono ?_
              rintro e w6 ⟨rfl, ⟨g2', c2', g3', c3', hb6, hg2', hg3'⟩, ho6, hsz6, hbl6⟩
              rw [HST.out.1, HST.out.2] at hb6
              have HRD6 : Hid (Rd w6 (some ⟨b, o, none⟩) (fl encV zs)) := rd_block hrd.out hsz6 fun b' o' e' hlt' => by
                have e2 := (Addr.mk.inj (Option.some.inj e')).1
                exact ho6 b' hlt' (by omega) (by omega) (by omega) (by omega)
              have HBL6 := Lib.hid (hbl6 w hbl.out (Nat.le_refl _))
              have HB6 := Lib.hid hb6
              have HS6 : Hid (w4.heap.size ≤ w6.heap.size) := Nat.le_trans hsz.out hsz6
              have hxl := hbx.out.lt
              have HBX6 : Hid (Blk w6 X #[.int .i64 M, .slice a N c] 24) := (ho6 X hxl (by omega) (by omega) (by omega) (by omega)).trans hbx.out
              clear ho6 hbl6 hb6 G1
              go_wp2_with fail
              go_roundw
              case rel => exact ⟨j + 1, by omega, by go_num, ⟨g2', c2', g3', c3', HB6.out, fun b' o' e' _ => by
                have e2 := (Addr.mk.inj (Option.some.inj e')).1
                omega, by omega, by omega⟩, HBX6, HRD6, HBL6, HS6⟩
              case measure => simp [intOf]; omega
            · obtain rfl : j = G := by omega
              have f0 : wr.cell? ⟨X, 0, none⟩ = some (.int .i64 M) := hbx.out.cell 0
              have f1 : wr.cell? ⟨X, 1, none⟩ = some (.slice a N c) := hbx.out.cell 1
              have HBW := Lib.hid hbw
              clear hbw hbg hrd hsz hbx HG4 HR HB4 HBX4 HBW4
              go_wp2_with fail
              clear f0 f1
              obtain ⟨w7, rfl⟩ : ∃ x : World, x = wr := ⟨_, rfl⟩
              go_loopw [64] (fun x wr => ∃ k : Nat, k ≤ M ∧ x = .int .i64 k ∧ (∃ g2 c2 g3 c3, BldW wr w.heap.size (H + 1) (H + 1 + 1 + 1) (SS.take (j + k + 1)) (treeN SS nm (j + k + 1)) g2 c2 g3 c3) ∧ Hid (Below w.heap.size w wr)) (fun x _ => M - (intOf x).toNat)
              case atStart => exact ⟨0, by omega, rfl, ⟨g2, c2, g3, c3, HBW.out⟩, hbl⟩
              case round =>
                clear HBW hbl hxg2 hxg3 g2 c2 g3 c3
                obtain ⟨k, hk, rfl, ⟨g2, c2, g3, c3, hbw⟩, hbl⟩ := hrel
                by_cases hlt : k < M
                · have hjS : j + k + 1 < SS.length := by rw [HSN.out]; omega
                  have hsx := HS1.out k hlt
                  have hxb := HSV.out _ (by rw [← hsx, vA_get hjS]; exact List.getElem_mem hjS : 2 ^ k ∈ SS)
                  have hst := tree_step (nm := nm) hjS hsx
                  have h0 := HSA.out (j + k + 1) hjS (by omega)
                  rw [hsx] at h0
                  rw [HN1.out k] at hst
                  have HI : Hid (∀ W, Calls Tryz.prog 11 #[.int .i64 (k : Int)] W fun e w' => e = .returned (.string (itoaB k)) ∧ w' = W) := fun W => Tryz.strconv_Itoa_small k (by omega) W
                  have hlen1 : (SS.take (j + k + 1)).length = j + k + 1 := by rw [List.length_take]; omega
                  have hlt1 : (treeN SS nm (j + k + 1)).length = j + k + 1 := treeN_len _ _ _
                  have HC1 := Lib.hid (fun W (hW : BldW W w.heap.size (H + 1) (H + 1 + 1 + 1) (SS.take (j + k + 1)) (treeN SS nm (j + k + 1)) g2 c2 g3 c3) => bld1_any (H + 1) (H + 1 + 1 + 1) w.heap.size (SS.take (j + k + 1)) (treeN SS nm (j + k + 1)) g2 c2 g3 c3 (2 ^ k) (⟨#[76]⟩ ++ itoaB k) W hW hxb (fitV_take HSV.out _) h0 (by omega) (by omega) (by omega))
                  have HST := Lib.hid hst
                  have hisz := itoaB_size k (by omega)
                  have e : ((2 : Int) ^ k) = ((2 ^ k : Nat) : Int) := by simp
                  have HW : Hid (IntKind.u64.wrap (2 ^ k) = ((2 ^ k : Nat) : Int)) := by show _ = _; rw [e, w64 _ hxb]
                  have HBW := Lib.hid hbw
                  clear hst hsx h0 hlen1 hlt1 hbw e
                  go_upto_region 21 with fail
                  refine wp_quiet_tail_lit 6 (by kernel_rfl) (by kernel_rfl) ?_
                  simp only [List.take_succ_cons, List.take_zero, List.drop_succ_cons, List.drop_zero]
                  repeat (go_big_quiet_step ((exact Calls.quiet_of_same (HI.out _))))
                  refine wpQuiet_nil ?_
                  intro _ hw'
                  obtain ⟨nq, hw''⟩ := hw'
                  subst hw''
                  rw [HW.out]
                  try simp only [Act.put, List.setIfInBounds_toArray, List.set_cons_zero, List.set_cons_succ]
                  go_wp2_with fail
                  refine (HC1.out _ (HBW.out.bl (bl_drewN (Below.refl _ _) nq))).mono ?_
                  rintro e w6 ⟨rfl, ⟨g2', c2', g3', c3', hb6, hg2', hg3'⟩, ho6, hsz6, hbl6⟩
                  rw [HST.out.1, HST.out.2] at hb6
                  have HBL6 := Lib.hid (hbl6 w (bl_drewN hbl.out nq) (Nat.le_refl _))
                  have HB6 := Lib.hid hb6
                  clear ho6 hbl6 hb6 hg2' hg3' hsz6
                  go_wp2_with fail
                  go_roundw
                  case rel => exact ⟨k + 1, by omega, by go_num, ⟨g2', c2', g3', c3', HB6.out⟩, HBL6⟩
                  case measure => simp [intOf]; omega
                · obtain rfl : k = M := by omega
                  have e3 : wr.cell? ⟨H + 1 + 1 + 1, 0, none⟩ = some (.slice (some ⟨g3, 0, none⟩) (treeN SS nm (j + k + 1)).length c3) := hbw.b3.cell 0
                  have HR3 := Lib.hid hbw.r3
                  clear hbw
                  rw [treeN_len] at e3 HR3
                  go_wp2_with fail
                  exact bodyPost_ret (v := .tuple #[.slice (some ⟨g3, 0, none⟩) (j + k + 1) c3, .bool true, .int .i64 0]) (by simp [results, Tryz.results4, go_sem]) rfl ⟨_, by rw [hbb.out, hE.out], by rw [hT2.out, treeN_len]; exact HR3.out, hbl.out⟩
  · have hcf := Lib.hid (cfV_bad h0)
    have hE : Hid (bdE L l = chkT L l) := if_pos h0
    have hbb : Hid (bdB L l = false) := by show _ = _; unfold bdB; rw [decide_eq_false h0]; rfl
    rw [hcf.out]
    obtain ⟨E, hEE⟩ : ∃ E, chkT L l = E := ⟨_, rfl⟩
    rw [hEE] at hE h0 ⊢
    have d0 : (E == 0) = false := by simp [h0]
    have d1 : (E != 0) = true := by simp [h0]
    clear hEE hcf h0
    go_wp2_with fail
    exact bodyPost_ret (v := .tuple #[.slice none 0 0, .bool false, .int .i64 E]) (by simp [results, Tryz.results4, go_sem]) rfl (bdPost_nil (b := false) hbb.out hE.out HB3.out)
end Go.Proofs.YtkdehkkkbfackaaGreatDoor
namespace Go.Proofs.YtkdehkkkbfackaaGreatDoor
open Go.RowKit Go.Shelf
theorem fitB_symm (x y : Nat) : fitB x y = fitB y x := by
  unfold fitB
  rw [Nat.and_comm y x, Bool.or_assoc, Bool.or_assoc, Bool.or_comm (decide (x &&& y = x))]
/-- The longer list; the first of two that are as long. -/
def updL (b x : List Nat) : List Nat := if b.length < x.length then x else b
/-- Number i has no conflict with those of l. -/
def okL (has : List Nat) (l : List Nat) (i : Nat) : Bool := l.all fun k => fitB (vA has k) (vA has i)
/-- The lists that go on from l with the last r numbers. -/
def goB (has : List Nat) : Nat → List Nat → List Nat → List Nat
  | 0, _, best => best
  | r + 1, l, best => goB has r l (if okL has l (has.length - (r + 1)) then goB has r (l ++ [has.length - (r + 1)]) (updL best (l ++ [has.length - (r + 1)])) else best)
/-- The same in the document's order. -/
def dsc (has : List Nat) : Nat → List Nat → List (List Nat)
  | 0, l => [l]
  | r + 1, l => (if okL has l (has.length - (r + 1)) then dsc has r (l ++ [has.length - (r + 1)]) else []) ++ dsc has r l
theorem dsc_len (has : List Nat) : ∀ r l x, x ∈ dsc has r l → l.length ≤ x.length := by
  intro r
  induction r with
  | zero => intro l x hx; rw [dsc, List.mem_singleton] at hx; subst hx; exact Nat.le_refl _
  | succ r ih =>
    intro l x hx
    rw [dsc, List.mem_append] at hx
    rcases hx with hx | hx
    · split at hx
      · have := ih _ _ hx
        rw [List.length_append, List.length_singleton] at this; omega
      · cases hx
    · exact ih _ _ hx
theorem dsc_self (has : List Nat) : ∀ r l, l ∈ dsc has r l := by
  intro r
  induction r with
  | zero => intro l; simp [dsc]
  | succ r ih => intro l; rw [dsc, List.mem_append]; exact .inr (ih l)
theorem upd_ge (b x : List Nat) : b.length ≤ (updL b x).length ∧ x.length ≤ (updL b x).length := by
  unfold updL; split <;> omega
theorem fold_ge (xs : List (List Nat)) : ∀ b, b.length ≤ (xs.foldl updL b).length ∧ ∀ x, x ∈ xs → x.length ≤ (xs.foldl updL b).length := by
  induction xs with
  | nil => intro b; exact ⟨Nat.le_refl _, fun x hx => by cases hx⟩
  | cons y xs ih =>
    intro b
    obtain ⟨h1, h2⟩ := ih (updL b y)
    have h3 := upd_ge b y
    refine ⟨by rw [List.foldl_cons]; omega, fun x hx => ?_⟩
    rw [List.foldl_cons]
    rcases List.mem_cons.1 hx with rfl | hx
    · omega
    · exact h2 x hx
theorem fold_mem (xs : List (List Nat)) : ∀ b, xs.foldl updL b = b ∨ xs.foldl updL b ∈ xs := by
  induction xs with
  | nil => intro b; exact .inl rfl
  | cons y xs ih =>
    intro b
    rw [List.foldl_cons]
    rcases ih (updL b y) with h | h
    · rw [h]
      unfold updL
      split
      · right; simp
      · left; rfl
    · right; exact List.mem_cons_of_mem _ h
theorem fold_same (xs : List (List Nat)) (b c : List Nat) (hne : xs ≠ []) (h : ∀ x, x ∈ xs → b.length < x.length ∧ c.length < x.length) : xs.foldl updL b = xs.foldl updL c := by
  cases xs with
  | nil => exact absurd rfl hne
  | cons y ys =>
    have hy := h y (by simp)
    rw [List.foldl_cons, List.foldl_cons, updL, updL, if_pos hy.1, if_pos hy.2]
theorem goB_dsc (has : List Nat) : ∀ r l best, goB has r l (updL best l) = (dsc has r l).foldl updL best := by
  intro r
  induction r with
  | zero => intro l best; rfl
  | succ r ih =>
    intro l best
    rw [goB, dsc]
    by_cases q : okL has l (has.length - (r + 1)) = true
    · rw [if_pos q, if_pos q, List.foldl_append, ih]
      generalize has.length - (r + 1) = i
      have e1 : (dsc has r (l ++ [i])).foldl updL (updL best l) = (dsc has r (l ++ [i])).foldl updL best := by
        unfold updL
        split
        · refine fold_same _ _ _ (fun e => by have := dsc_self has r (l ++ [i]); rw [e] at this; cases this) fun x hx => ?_
          have := dsc_len has r _ x hx
          rw [List.length_append, List.length_singleton] at this; omega
        · rfl
      have e2 : updL ((dsc has r (l ++ [i])).foldl updL best) l = (dsc has r (l ++ [i])).foldl updL best := by
        have := (fold_ge (dsc has r (l ++ [i])) best).2 _ (dsc_self has r (l ++ [i]))
        rw [List.length_append, List.length_singleton] at this
        rw [updL, if_neg (by omega)]
      have h3 := ih l ((dsc has r (l ++ [i])).foldl updL best)
      rw [e2] at h3
      rw [e1, h3]
    · rw [if_neg q, if_neg q, List.nil_append, ih]
/-- What Largest answers. -/
def bigL (has : List Nat) : List Nat := goB has has.length [] []
theorem bigL_dsc (has : List Nat) : bigL has = (dsc has has.length []).foldl updL [] := by
  rw [← goB_dsc]; rfl
/-- The numbers of the innovations that x takes, of the first k; the highest bit is innovation 0. -/
def bitsL (n x k : Nat) : List Nat := (List.range k).filter fun i => x.testBit (n - 1 - i)
/-- No two of them have a conflict. -/
def cmpL (has : List Nat) (l : List Nat) : Bool := (List.range l.length).all fun i => (List.range i).all fun k => fitB (vA has (vA l i)) (vA has (vA l k))
/-- The document's best after it looked at the numbers from x on down. -/
def docB (has : List Nat) (x : Nat) (best : List Nat) : List Nat := if cmpL has (bitsL has.length x has.length) then updL best (bitsL has.length x has.length) else best
theorem cmpL_snoc (has l : List Nat) (i : Nat) : cmpL has (l ++ [i]) = (cmpL has l && okL has l i) := by
  have e1 : ∀ j, j < l.length → vA (l ++ [i]) j = vA l j := fun j hj => by simp [vA, List.getElem?_append_left hj]
  have e2 : vA (l ++ [i]) l.length = i := by simp [vA]
  unfold cmpL
  rw [List.length_append, List.length_singleton, List.range_succ, List.all_append]
  congr 1
  · apply Bool.eq_iff_iff.2
    simp only [List.all_eq_true, List.mem_range]
    constructor
    · intro h j hj k hk
      have := h j hj k hk
      rwa [e1 j hj, e1 k (by omega)] at this
    · intro h j hj k hk
      rw [e1 j hj, e1 k (by omega)]; exact h j hj k hk
  · unfold okL
    apply Bool.eq_iff_iff.2
    simp only [List.all_cons, List.all_nil, Bool.and_true, List.all_eq_true, List.mem_range, e2]
    constructor
    · intro h x hx
      obtain ⟨k, hk, rfl⟩ := List.mem_iff_getElem.1 hx
      have := h k hk
      rw [e1 k hk, fitB_symm, vA_get hk] at this
      exact this
    · intro h k hk
      rw [e1 k hk, fitB_symm, vA_get hk]
      exact h _ (List.getElem_mem hk)
/-- The document's numbers from hi 2^r on, r bits, downwards. -/
def docR (has : List Nat) : Nat → Nat → List Nat → List Nat
  | 0, hi, best => docB has hi best
  | r + 1, hi, best => docR has r (2 * hi) (docR has r (2 * hi + 1) best)
theorem bitsL_shift (n hi r k : Nat) (hk : k + r ≤ n) (lo : Nat) (hlo : lo < 2 ^ r) : bitsL n (hi * 2 ^ r + lo) k = bitsL n (hi * 2 ^ r) k := by
  unfold bitsL
  apply List.filter_congr
  intro i hi'
  have := List.mem_range.1 hi'
  rw [Nat.mul_comm, Nat.testBit_two_pow_mul_add _ hlo, if_neg (by omega), Nat.testBit_two_pow_mul]
  simp [show r ≤ n - 1 - i by omega]
theorem bitsL_step (n hi r : Nat) (hr : r + 1 ≤ n) : bitsL n ((2 * hi + 1) * 2 ^ r) (n - r) = bitsL n (hi * 2 ^ (r + 1)) (n - (r + 1)) ++ [n - (r + 1)] ∧ bitsL n (2 * hi * 2 ^ r) (n - r) = bitsL n (hi * 2 ^ (r + 1)) (n - (r + 1)) := by
  have e1 : hi * 2 ^ (r + 1) = 2 * hi * 2 ^ r := by rw [Nat.pow_succ]; rw [Nat.mul_comm 2 hi, Nat.mul_assoc, Nat.mul_comm 2]
  have hx : ∀ y, bitsL n y (n - r) = bitsL n y (n - (r + 1)) ++ (if y.testBit r then [n - (r + 1)] else []) := by
    intro y
    unfold bitsL
    rw [show n - r = n - (r + 1) + 1 by omega, List.range_succ, List.filter_append]
    congr 1
    rw [List.filter_cons, show n - 1 - (n - (r + 1)) = r by omega]
    rfl
  constructor
  · rw [hx, show (2 * hi + 1) * 2 ^ r = hi * 2 ^ (r + 1) + 2 ^ r by rw [e1, Nat.add_mul, Nat.one_mul], bitsL_shift n hi (r + 1) (n - (r + 1)) (by omega) (2 ^ r) (by rw [Nat.pow_succ]; have := Nat.two_pow_pos r; omega)]
    rw [if_pos]
    rw [show hi * 2 ^ (r + 1) + 2 ^ r = 2 ^ (r + 1) * hi + 2 ^ r by rw [Nat.mul_comm], Nat.testBit_two_pow_mul_add _ (by rw [Nat.pow_succ]; have := Nat.two_pow_pos r; omega), if_pos (by omega), Nat.testBit_two_pow_self]
  · rw [hx, ← e1, if_neg, List.append_nil]
    rw [Nat.mul_comm, Nat.testBit_two_pow_mul]
    simp
    omega
theorem docR_dsc (has : List Nat) : ∀ r hi best, r ≤ has.length → docR has r hi best = if cmpL has (bitsL has.length (hi * 2 ^ r) (has.length - r)) then (dsc has r (bitsL has.length (hi * 2 ^ r) (has.length - r))).foldl updL best else best := by
  intro r
  induction r with
  | zero =>
    intro hi best _
    rw [docR, docB, dsc, Nat.pow_zero, Nat.mul_one]; rfl
  | succ r ih =>
    intro hi best hr
    obtain ⟨s1, s2⟩ := bitsL_step has.length hi r hr
    rw [docR, ih _ _ (by omega), ih _ _ (by omega), s1, s2, cmpL_snoc, dsc]
    generalize bitsL has.length (hi * 2 ^ (r + 1)) (has.length - (r + 1)) = l
    generalize has.length - (r + 1) = i
    by_cases q : cmpL has l = true
    · rw [q, if_pos rfl, if_pos rfl]
      by_cases q2 : okL has l i = true
      · rw [q2, if_pos (by rfl), if_pos rfl, List.foldl_append]
      · rw [Bool.eq_false_iff.2 q2]; rfl
    · rw [Bool.eq_false_iff.2 q]; rfl
/-- From x on down to 1. -/
def docD (has : List Nat) : Nat → List Nat → List Nat
  | 0, best => best
  | x + 1, best => docD has x (docB has (x + 1) best)
/-- k numbers from a + k on down to a + 1 (all that are greater than a). -/
def docS (has : List Nat) (a : Nat) : Nat → List Nat → List Nat
  | 0, best => best
  | k + 1, best => docS has a k (docB has (a + k) best)
theorem docS_add (has : List Nat) (a m : Nat) : ∀ k best, docS has a (m + k) best = docS has a m (docS has (a + m) k best) := by
  intro k
  induction k with
  | zero => intro best; rfl
  | succ k ih =>
    intro best
    show docS has a (m + k) (docB has (a + (m + k)) best) = docS has a m (docS has (a + m) k (docB has (a + m + k) best))
    rw [ih, Nat.add_assoc]
theorem docR_docS (has : List Nat) : ∀ r hi best, docR has r hi best = docS has (hi * 2 ^ r) (2 ^ r) best := by
  intro r
  induction r with
  | zero => intro hi best; rw [docR, Nat.pow_zero, Nat.mul_one]; rfl
  | succ r ih =>
    intro hi best
    rw [docR, ih, ih, Nat.pow_succ, show 2 ^ r * 2 = 2 ^ r + 2 ^ r by omega, docS_add]
    congr 1
    · rw [Nat.mul_add, Nat.mul_comm 2 hi, Nat.mul_assoc, Nat.two_mul, Nat.mul_add]
    · congr 1
      rw [Nat.add_mul, Nat.one_mul, Nat.mul_add, Nat.mul_comm 2 hi, Nat.mul_assoc, Nat.two_mul, Nat.mul_add]
theorem docD_S (has : List Nat) : ∀ x best, docS has 0 (x + 1) best = docB has 0 (docD has x best) := by
  intro x
  induction x with
  | zero => intro best; rfl
  | succ x ih =>
    intro best
    show docS has 0 (x + 1) (docB has (0 + (x + 1)) best) = docB has 0 (docD has x (docB has (x + 1) best))
    rw [ih, Nat.zero_add]
theorem docB_zero (has best : List Nat) : docB has 0 best = best := by
  have e : bitsL has.length 0 has.length = [] := by unfold bitsL; simp
  unfold docB
  rw [e]
  show (if cmpL has [] then updL best [] else best) = best
  split
  · rw [updL, if_neg (by simp)]
  · rfl
/-- The document's list is the program's. -/
theorem docD_big (has : List Nat) : docD has (2 ^ has.length - 1) [] = bigL has := by
  have h1 := docD_S has (2 ^ has.length - 1) []
  rw [docB_zero, Nat.sub_add_cancel (Nat.two_pow_pos _)] at h1
  rw [← h1, bigL_dsc]
  have h2 := docR_docS has has.length 0 []
  rw [Nat.zero_mul] at h2
  rw [← h2, docR_dsc has has.length 0 [] (Nat.le_refl _), Nat.sub_self]
  rfl
end Go.Proofs.YtkdehkkkbfackaaGreatDoor
namespace Go.Proofs.YtkdehkkkbfackaaGreatDoor
open Go Go.RowKit Go.Shelf
def lgE (L : Int) (l : List Nat) : Int := if chkT L l ≠ 0 then chkT L l else if 12 < l.length then 12 else 0
def lgL (L : Int) (l : List Nat) : List Nat := if lgE L l = 0 then bigL l else []
/-- What Largest answers. -/
def LgPost (w : World) (L : Int) (l : List Nat) (e : Ending) (w' : World) : Prop :=
  ∃ v, e = .returned (.tuple #[v, .int .i64 (lgE L l)]) ∧ w'.ownsRow w.heap.size 3 1 v (lgL L l).length (fl encI (iN (lgL L l))) ∧ Below w.heap.size w w'
theorem lgPost_nil {w w' : World} {L : Int} {l : List Nat} {E : Int} (hE : lgE L l = E) (h0 : E ≠ 0) (hbl : Below w.heap.size w w') : LgPost w L l (.returned (.tuple #[.slice none 0 0, .int .i64 E])) w' := by
  refine ⟨_, by rw [hE], ?_, hbl⟩
  unfold lgL
  rw [if_neg (by rw [hE]; exact h0)]
  exact World.ownsRow_nil _ _ _ _
end Go.Proofs.YtkdehkkkbfackaaGreatDoor
namespace Go.Proofs.YtkdehkkkbfackaaGreatDoor
open Go.RowKit
/-- Has node v a child among the first k? -/
def inB (t : List Nd) (k v : Nat) : Bool := (List.range k).any (kidB t v)
theorem inB_succ (t : List Nd) (k v : Nat) : inB t (k + 1) v = (inB t k v || kidB t v k) := by
  unfold inB
  rw [List.range_succ, List.any_append]
  simp
theorem leafB_in (t : List Nd) (v : Nat) : leafB t v = !inB t t.length v := by
  unfold leafB inB famL
  rw [Bool.eq_iff_iff]
  simp [List.isEmpty_iff]
/-- What a leaf begins with. -/
def botS (t : List Nd) (v : Nat) : Nat := if leafB t v then 2 ^ (lvsL t v).length else 0
/-- The sets behind j steps upwards. -/
def upS (t : List Nd) : Nat → Nat → Nat
  | 0, v => botS t v
  | j + 1, v => if nP t (t.length - 1 - j) = (v : Int) then upS t j v ||| upS t j (t.length - 1 - j) else upS t j v
/-- The set of a node. -/
def cl (t : List Nd) (v : Nat) : Nat := upS t (t.length - 1) v
theorem lvsL_mono (t : List Nd) {j k : Nat} (h : j ≤ k) : (lvsL t j).length ≤ (lvsL t k).length := by
  induction k with
  | zero => have : j = 0 := by omega
            subst this; exact Nat.le_refl _
  | succ k ih =>
    by_cases e : j = k + 1
    · subst e; exact Nat.le_refl _
    · have := ih (by omega)
      rw [lvsL_snoc, List.length_append]; omega
theorem upS_lt {t : List Nd} {n : Nat} (hL : (lvsL t t.length).length ≤ n) : ∀ j v, v < t.length → upS t j v < 2 ^ n := by
  intro j
  induction j with
  | zero =>
    intro v hv
    unfold upS botS
    by_cases q : leafB t v = true
    · rw [if_pos q]
      refine Nat.pow_lt_pow_right (by omega) ?_
      have h1 := lvsL_snoc t v
      rw [if_pos q] at h1
      have h2 := lvsL_mono t (show v + 1 ≤ t.length from hv)
      rw [h1, List.length_append, List.length_singleton] at h2
      omega
    · rw [if_neg q]; exact Nat.two_pow_pos _
  | succ j ih =>
    intro v hv
    unfold upS
    split
    · exact Nat.or_lt_two_pow (ih v hv) (ih _ (by omega))
    · exact ih v hv
theorem cl_lt {t : List Nd} {n : Nat} (hL : (lvsL t t.length).length ≤ n) (v : Nat) (hv : v < t.length) : cl t v < 2 ^ n := upS_lt hL _ v hv
/-- What the iterator hands out. -/
def ndsL (t : List Nd) (k : Nat) : List (Nat × Nat) := (List.range k).map fun v => (v, cl t v)
theorem ndsL_snoc (t : List Nd) (k : Nat) : ndsL t (k + 1) = ndsL t k ++ [(k, cl t k)] := by simp [ndsL, List.range_succ]
theorem ndsL_len (t : List Nd) (k : Nat) : (ndsL t k).length = k := by simp [ndsL]
end Go.Proofs.YtkdehkkkbfackaaGreatDoor
namespace Go.Proofs.YtkdehkkkbfackaaGreatDoor
open Go.RowKit Go.Shelf
attribute [local go_sem] Oper.semAt_some
def encQ (x : Nat × Nat) : Array Value := #[.int .i64 (x.1 : Int), .int .u64 (x.2 : Int)]
theorem bools_made (n : Nat) : madeCells #[Value.bool false] n = ofF n (fun _ => .bool false) := by
  apply Array.ext
  · simp [madeCells, ofF]
  · intro i h1 h2
    simp [madeCells, ofF, Nat.mod_one]
theorem u64s_made (n : Nat) : madeCells #[Value.int .u64 0] n = ofF n (fun _ => .int .u64 0) := by
  apply Array.ext
  · simp [madeCells, ofF]
  · intro i h1 h2
    simp [madeCells, ofF, Nat.mod_one]
theorem info_B : (Tryz.prog.info? 4).map (fun i => (i.zero, i.size, i.bytes)) = some (some (.bool false), 1, 1) := by kernel_rfl
theorem rd_dropNd {w : World} {b o : Nat} {t : List Nd} (h : Rd w (some ⟨b, o, none⟩) (fl encNd t)) (h1 : 0 < t.length) : ∀ i, i + 1 < t.length → w.cell? ⟨b, o + 2 + i * 2, none⟩ = some (.int .i64 (nP t (i + 1))) ∧ w.cell? ⟨b, o + 2 + i * 2 + 1, none⟩ = some (.string (nS t (i + 1))) := by
  intro i hi
  obtain ⟨b', o', e, _, hc⟩ := rdNd h h1
  have e2 := Option.some.inj e
  obtain rfl := (Addr.mk.inj e2).1
  obtain rfl := (Addr.mk.inj e2).2.1
  have := hc (i + 1) hi
  rw [show o + (i + 1) * 2 = o + 2 + i * 2 by omega] at this
  exact this
/-- A node's number and a set. -/
abbrev NQ (n : Nat) := Fin n × U64
def qN {n : Nat} (x : NQ n) : Nat × Nat := (x.1.val, x.2.val)
end Go.Proofs.YtkdehkkkbfackaaGreatDoor
namespace Go.Proofs.YtkdehkkkbfackaaGreatDoor
open Go.RowKit Go.Shelf
attribute [local go_sem] Oper.semAt_some
/-- What lists of pairs write. -/
def setP (l : List (Nat × Nat)) : Nat → Nat := l.foldl (fun f x v => if v = x.1 then x.2 else f v) (fun _ => 0)
theorem setP_snoc (l : List (Nat × Nat)) (x : Nat × Nat) : setP (l ++ [x]) = fun v => if v = x.1 then x.2 else setP l v := by
  unfold setP; rw [List.foldl_append]; rfl
theorem setP_nds (t : List Nd) : ∀ k v, setP (ndsL t k) v = if v < k then cl t v else 0 := by
  intro k
  induction k with
  | zero => intro v; rfl
  | succ k ih =>
    intro v
    rw [ndsL_snoc, setP_snoc]
    show (if v = k then cl t k else setP (ndsL t k) v) = _
    rw [ih]
    by_cases e : v = k
    · subst e; rw [if_pos rfl, if_pos (by omega)]
    · rw [if_neg e]
      by_cases e2 : v < k
      · rw [if_pos e2, if_pos (by omega)]
      · rw [if_neg e2, if_neg (by omega)]
/-- The last of the first k nodes that has all of x, or the root. -/
def lAt (f : Nat → Nat) (x : Nat) : Nat → Nat
  | 0 => 0
  | k + 1 => if f k &&& x = x then k else lAt f x k
/-- Is innovation x lost on the way to node v? -/
def lossB (t : List Nd) (f : Nat → Nat) (x at_ v : Nat) : Bool := ((decide (0 < v) && decide ((at_ : Int) ≤ nP t v)) && !decide (x &&& f (nP t v).toNat = 0)) && decide (x &&& f v = 0)
def lCnt (t : List Nd) (f : Nat → Nat) (x at_ : Nat) : Nat → Nat
  | 0 => 0
  | k + 1 => lCnt t f x at_ k + if lossB t f x at_ k then 1 else 0
def lossN (t : List Nd) (x : Nat) : Nat := lCnt t (cl t) x (lAt (cl t) x t.length) t.length
theorem lCnt_le (t : List Nd) (f : Nat → Nat) (x a : Nat) : ∀ k, lCnt t f x a k ≤ k := by
  intro k
  induction k with
  | zero => exact Nat.le_refl _
  | succ k ih => unfold lCnt; split <;> omega
theorem lAt_lt (f : Nat → Nat) (x : Nat) : ∀ k, lAt f x k ≤ k := by
  intro k
  induction k with
  | zero => exact Nat.le_refl _
  | succ k ih => unfold lAt; split <;> omega
/-- What Losses answers. -/
def lossL (L : Int) (l : List Nat) (t : List Nd) : List Nat := if chkP L l t = 0 then l.map (lossN t) else []
/-- The range's invariant: row g is written, other blocks lie as they lay. -/
def LsI (w6 : World) (g n : Nat) (ys : List (NQ n)) (W : World) : Prop := Blk W g (ofF n (fun v => .int .u64 (setP (ys.map qN) v : Nat))) 41 ∧ w6.grownBy W (some g)
theorem LsI.own (w6 : World) (g n : Nat) : OwnFrom w6.heap.size (LsI w6 g n) := by
  intro ys W W' row ⟨h1, h2⟩ hg hr
  have hne : ∀ r, row = some r → w6.heap.size ≤ r ∧ r ≠ g := fun r e => by
    obtain ⟨hb, o, ho, hc⟩ := hr r e
    refine ⟨hb, fun e2 => ?_⟩
    subst e2
    unfold Blk at h1
    rw [h1] at ho
    cases ho
    cases hc
  refine ⟨(hg.block g h1.lt (fun e => (hne g e.symm).2 rfl)).trans h1, hg.os.trans h2.os, hg.tape.trans h2.tape, hg.output.trans h2.output, Nat.le_trans h2.size hg.size, fun k hk hkg => ?_⟩
  exact (hg.block k (Nat.lt_of_lt_of_le hk h2.size) (fun e => by have := (hne k e.symm).1; omega)).trans (h2.block k hk hkg)
theorem rd_grown {w2 w6 w9 : World} {g : Nat} {a : Option Addr} {cs : List Value} (h : Rd w2 a cs) (hb : Below w2.heap.size w2 w6) (hg : w6.grownBy w9 (some g)) (hgz : w2.heap.size ≤ g) : Rd w9 a cs := by
  intro h0
  obtain ⟨b, off, e, hlt, hc⟩ := h h0
  have h1 := hb.size
  have h2 := hg.size
  refine ⟨b, off, e, by omega, fun i hi => ?_⟩
  exact hg.cell (a := ⟨b, off + i, none⟩) ((hb.cell (p := ⟨b, off + i, none⟩) hlt).trans (hc i hi)) (fun e2 => by have := Option.some.inj e2; simp at this; omega)
theorem grownBy_same (w : World) (g : Nat) : w.grownBy w (some g) := ⟨rfl, rfl, rfl, Nat.le_refl _, fun _ _ _ => rfl⟩
def LsPost (w : World) (L : Int) (l : List Nat) (t : List Nd) (e : Ending) (w' : World) : Prop :=
  ∃ v, e = .returned (.tuple #[v, .int .i64 (chkP L l t)]) ∧ w'.ownsRow w.heap.size 3 1 v (lossL L l t).length (fl encI (iN (lossL L l t))) ∧ Below w.heap.size w w'
end Go.Proofs.YtkdehkkkbfackaaGreatDoor
namespace Go.Proofs.YtkdehkkkbfackaaGreatDoor
open Go.RowKit Go.Shelf
theorem itoa_digit (i : Nat) (h : i < 10) : itoaB i = ⟨#[(48 + i).toUInt8]⟩ := by
  unfold itoaB
  rw [Go.Lib.decDigits, dif_pos h]
theorem fit_four : FitV [3, 7, 8, 6] := by intro i hi; have : i < 4 := hi; match i, this with | 0, _ => decide | 1, _ => decide | 2, _ => decide | 3, _ => decide
theorem fit_three : FitV [3, 7, 8] := by intro i hi; have : i < 3 := hi; match i, this with | 0, _ => decide | 1, _ => decide | 2, _ => decide
theorem grps_three : grpsN 4 [3, 7, 8] = [7, 3] := by
  rw [← refG_eq fit_three]
  decide
theorem conf_four : confE [3, 7, 8, 6] = some (0, 3) := by decide
theorem conf_three : confE [3, 7, 8] = none := by decide
theorem chk_four : chkT 4 [3, 7, 8, 6] = 0 := by decide
theorem chk_three : chkT 4 [3, 7, 8] = 0 := by decide
theorem big_four : lgL 4 [3, 7, 8, 6] = [0, 1, 2] ∧ lgE 4 [3, 7, 8, 6] = 0 := by decide
def exT : List Nd := [(-1, ⟨#[114, 111, 111, 116]⟩), (0, ⟨#[78, 49]⟩), (1, ⟨#[78, 50]⟩), (2, ⟨#[76, 48]⟩), (2, ⟨#[76, 49]⟩), (1, ⟨#[76, 50]⟩), (0, ⟨#[76, 51]⟩)]
theorem build_three : bdB 4 [3, 7, 8] = true ∧ bdE 4 [3, 7, 8] = 0 ∧ bdT 4 [3, 7, 8] = exT := by
  have h1 : bdB 4 [3, 7, 8] = true := by decide
  refine ⟨h1, by decide, ?_⟩
  unfold bdT
  rw [h1, if_pos rfl]
  show bdN 4 [3, 7, 8] = exT
  unfold bdN
  rw [if_neg (by decide), grps_three]
  have e : setsB 4 [3, 7, 8] = [15, 7, 3, 1, 2, 4, 8] := by unfold setsB; rw [grps_three]; rfl
  rw [e]
  have p : (List.range 7).map (fun i => parZ [15, 7, 3, 1, 2, 4, 8] (vA [15, 7, 3, 1, 2, 4, 8] i) i) = [-1, 0, 1, 2, 2, 1, 0] := by decide
  have q : (List.range 7).map (namB 2) = [⟨#[114, 111, 111, 116]⟩, ⟨#[78, 49]⟩, ⟨#[78, 50]⟩, ⟨#[76, 48]⟩, ⟨#[76, 49]⟩, ⟨#[76, 50]⟩, ⟨#[76, 51]⟩] := by
    show [(⟨#[114, 111, 111, 116]⟩ : ByteArray), ⟨#[78]⟩ ++ itoaB 1, ⟨#[78]⟩ ++ itoaB 2, ⟨#[76]⟩ ++ itoaB 0, ⟨#[76]⟩ ++ itoaB 1, ⟨#[76]⟩ ++ itoaB 2, ⟨#[76]⟩ ++ itoaB 3] = _
    rw [itoa_digit 0 (by omega), itoa_digit 1 (by omega), itoa_digit 2 (by omega), itoa_digit 3 (by omega)]
    rfl
  have z : treeN [15, 7, 3, 1, 2, 4, 8] (namB 2) 7 = ((List.range 7).map (fun i => parZ [15, 7, 3, 1, 2, 4, 8] (vA [15, 7, 3, 1, 2, 4, 8] i) i)).zip ((List.range 7).map (namB 2)) := by
    unfold treeN
    rw [List.zip_map']
  show treeN _ (namB 2) 7 = exT
  rw [z, p, q]
  rfl
theorem fitsE : ∀ v, v < 7 → (nS exT v).size ≤ 9223372036854775807 := by
  intro v hv
  match v, hv with
  | 0, _ => decide
  | 1, _ => decide
  | 2, _ => decide
  | 3, _ => decide
  | 4, _ => decide
  | 5, _ => decide
  | 6, _ => decide
theorem check_four : chkP 4 [3, 7, 8, 6] exT = 0 := by decide
theorem loss_four : lossL 4 [3, 7, 8, 6] exT = [0, 0, 0, 1] := by
  unfold lossL
  rw [check_four]
  decide
end Go.Proofs.YtkdehkkkbfackaaGreatDoor
namespace Go.Proofs.YtkdehkkkbfackaaGreatDoor
open Go.RowKit Go.Shelf
theorem eqI_step (l1 l2 : List Int) (k : Nat) (h : l1.take k = l2.take k) (h1 : k < l1.length) (h2 : k < l2.length) (e0 : iA l1 k = iA l2 k) : l1.take (k + 1) = l2.take (k + 1) := by
  have he : l1[k] = l2[k] := by
    simpa only [iA, List.getD_eq_getElem?_getD, List.getElem?_eq_getElem h1, List.getElem?_eq_getElem h2, Option.getD_some] using e0
  rw [List.take_succ_eq_append_getElem h1, List.take_succ_eq_append_getElem h2, h, he]
theorem neI_iA (l1 l2 : List Int) (k : Nat) (h : iA l1 k ≠ iA l2 k) : l1 ≠ l2 := fun e => h (by rw [e])
theorem Rd.of_blk {w : World} {B : Nat} {cs : List Value} {t : TypeId} (h : Blk w B cs.toArray t) : Rd w (some ⟨B, 0, none⟩) cs := by
  intro h0
  refine ⟨B, 0, rfl, h.lt, fun i hi => ?_⟩
  rw [Nat.zero_add, h.cell i]
  simp [hi]
theorem neqNd (x0 y0 : Int) (x1 y1 : ByteArray) (w : World) : (binOp .neq 40 (.agg #[.int .i64 x0, .string x1]) (.agg #[.int .i64 y0, .string y1])).run Tryz.prog w = .ok (.bool (!(decide (x0 = y0) && decide (x1 = y1)))) w := by
  have u3 := Tryz.underlying3
  have a3 := Tryz.isAgg3
  have z3 := Tryz.sizeOf3
  have u9 := Tryz.underlying9
  have a9 := Tryz.isAgg9
  have z9 := Tryz.sizeOf9
  have hS : Tryz.prog.underlying 40 = some (.struct (Tryz.prog.fieldsOf 40)) := by kernel_rfl
  have hp : Tryz.prog.stoodInHeld 40 = false := by kernel_rfl
  rw [run_neq_struct, show (10000 : Nat) = 9999 + 1 from rfl, run_equalIn_agg w 9999 40 _ _ hS hp]
  simp only [Program.fieldsOf, Tryz.underlying40]
  go_simp
  by_cases h0 : x0 = y0 <;> by_cases h1 : x1 = y1 <;> simp [ba_inj, h0, h1]
theorem guardNd : Tryz.prog.eqGuardType Tryz.prog.depth 40 = false := by kernel_rfl
theorem own_cap {w : World} {base e k n c : Nat} {a : Option Addr} {xs : List Value} (h : w.ownsRow base e k (.slice a n c) n xs) : n ≤ c ∧ c ≤ maxLen := by
  rcases h.2 with ⟨hv, hn⟩ | ⟨g, cap', cur, hv, hg, hh, hn, hm, _⟩
  · cases hv; exact ⟨Nat.le_refl _, by unfold maxLen; omega⟩
  · cases hv; exact ⟨hn, hm⟩
theorem w_build (B : Nat) (w : World) (hR : Rd w (some ⟨B, 0, none⟩) (fl encV [3, 7, 8])) :
    Calls Tryz.prog 4 #[.agg #[.int .i64 4, .slice (some ⟨B, 0, none⟩) 3 4]] w fun e w' => ∃ T c, e = .returned (.tuple #[.slice (some ⟨T, 0, none⟩) 7 c, .bool true, .int .i64 0]) ∧ Rd w' (some ⟨T, 0, none⟩) (fl encNd exT) ∧ 7 ≤ c ∧ c ≤ 9223372036854775807 ∧ Below w.heap.size w w' := by
  refine (build_any 4 (some ⟨B, 0, none⟩) 3 4 [3, 7, 8] w rfl (by omega) (by omega) (by omega) hR fit_three).mono ?_
  rintro e w' ⟨v, he, ho, hb⟩
  obtain ⟨e1, e2, e3⟩ := build_three
  rw [e1, e2] at he
  rw [e3] at ho
  obtain ⟨g, c, rfl, _, _⟩ := ho.form (by decide)
  exact ⟨g, c, he, rd_of_owns ho, (own_cap ho).1, by have := (own_cap ho).2; unfold maxLen at this; omega, hb⟩
theorem w_conf (B : Nat) (w : World) (hR : Rd w (some ⟨B, 0, none⟩) (fl encV [3, 7, 8, 6])) :
    Calls Tryz.prog 8 #[.agg #[.int .i64 4, .slice (some ⟨B, 0, none⟩) 4 4]] w fun e w' => e = .returned (.tuple #[.int .i64 0, .int .i64 3, .bool true, .int .i64 0]) ∧ Below w.heap.size w w' := by
  refine (conf_any 4 (some ⟨B, 0, none⟩) 4 4 [3, 7, 8, 6] w rfl (by omega) (by omega) (by omega) hR fit_four).mono ?_
  rintro e w' ⟨he, hb⟩
  rw [cfV_yes chk_four conf_four] at he
  exact ⟨he, hb⟩
end Go.Proofs.YtkdehkkkbfackaaGreatDoor
namespace Go.Proofs.YtkdehkkkbfackaaGreatDoor
open Go Go.RowKit Go.Shelf
/-- Was none lost? -/
def fitsB (L : Int) (l : List Nat) (t : List Nd) : Bool := decide (chkP L l t = 0) && !(iN (lossL L l t)).any (fun x => decide (0 < x))
theorem lossL_le (L : Int) (l : List Nat) (t : List Nd) : (lossL L l t).length ≤ l.length := by
  unfold lossL; split <;> simp
end Go.Proofs.YtkdehkkkbfackaaGreatDoor
namespace Go.Proofs.YtkdehkkkbfackaaGreatDoor
open Go Go.RowKit Go.Shelf
theorem any_iN {ls : List Nat} : (iN ls).any (fun x => decide (0 < x)) = true ↔ ∃ j, j < ls.length ∧ 0 < vA ls j := by
  rw [List.any_eq_true]
  constructor
  · rintro ⟨x, hx, h⟩
    obtain ⟨j, hj, e⟩ := List.mem_iff_getElem.1 hx
    rw [iN_len] at hj
    refine ⟨j, hj, ?_⟩
    have h1 := iN_get ls j
    have h2 : iA (iN ls) j = (iN ls)[j]'(by rw [iN_len]; exact hj) := by simp [iA, List.getD_eq_getElem?_getD, List.getElem?_eq_getElem (show j < (iN ls).length by rw [iN_len]; exact hj)]
    have h3 : x = (vA ls j : Int) := by rw [← e, ← h2, h1]
    rw [h3, decide_eq_true_eq] at h
    omega
  · rintro ⟨j, hj, h⟩
    have h1 := iN_get ls j
    have h2 : iA (iN ls) j = (iN ls)[j]'(by rw [iN_len]; exact hj) := by simp [iA, List.getD_eq_getElem?_getD, List.getElem?_eq_getElem (show j < (iN ls).length by rw [iN_len]; exact hj)]
    refine ⟨_, List.getElem_mem (by rw [iN_len]; exact hj), ?_⟩
    rw [← h2, h1, decide_eq_true_eq]; omega
end Go.Proofs.YtkdehkkkbfackaaGreatDoor
namespace Go.Proofs.YtkdehkkkbfackaaGreatDoor
open Go Go.RowKit Go.Shelf
attribute [local go_sem] Oper.semAt_some
/-- The first of the first k nodes whose set is x, or -1. -/
def onN (f : Nat → Nat) (x : Nat) : Nat → Int
  | 0 => -1
  | k + 1 => if 0 ≤ onN f x k then onN f x k else if f k = x then (k : Int) else -1
theorem onN_none {f : Nat → Nat} {x : Nat} : ∀ k, (∀ v, v < k → f v ≠ x) → onN f x k = -1 := by
  intro k
  induction k with
  | zero => intro _; rfl
  | succ k ih =>
    intro h
    have e := ih fun v hv => h v (by omega)
    unfold onN
    rw [e, if_neg (by omega), if_neg (h k (by omega))]
theorem onN_some {f : Nat → Nat} {x v : Nat} (hv : f v = x) (hb : ∀ u, u < v → f u ≠ x) : ∀ k, v < k → onN f x k = v := by
  intro k
  induction k with
  | zero => intro h; omega
  | succ k ih =>
    intro h
    unfold onN
    by_cases e : v < k
    · rw [ih e, if_pos (by omega)]
    · obtain rfl : v = k := by omega
      rw [onN_none v hb, if_neg (by omega), if_pos hv]
theorem onN_bd (f : Nat → Nat) (x : Nat) : ∀ k, -1 ≤ onN f x k ∧ onN f x k < k := by
  intro k
  induction k with
  | zero => exact ⟨Int.le_refl _, by show (-1 : Int) < 0; decide⟩
  | succ k ih =>
    unfold onN
    split
    · omega
    · split <;> omega
/-- What On answers. -/
def onL (L : Int) (l : List Nat) (t : List Nd) : List Int := if chkP L l t = 0 then l.map (fun x => onN (cl t) x t.length) else []
def OnPost (w : World) (L : Int) (l : List Nat) (t : List Nd) (e : Ending) (w' : World) : Prop :=
  ∃ v, e = .returned (.tuple #[v, .int .i64 (chkP L l t)]) ∧ w'.ownsRow w.heap.size 3 1 v (onL L l t).length (fl encI (onL L l t)) ∧ Below w.heap.size w w'
theorem grown_keep {w10 w11 : World} {o : Obj} {r0 : Option Nat} (h : (w10.alloc o).grownBy w11 r0) {b : Nat} (hb : b < w10.heap.size) (hne : some b ≠ r0) : w11.heap[b]? = w10.heap[b]? :=
  (h.block b (by simp; omega) hne).trans (Below.heap_alloc w10 o b hb)
/-- On's loop: the answers so far, the deferred blocks of the ranges. -/
structure OnI (w2 : World) (os : List Int) (k : Nat) (v : Value) (Ds : List Nat) (W : World) : Prop where
  own : W.ownsRow w2.heap.size 3 1 v k (fl encI os)
  bl : Below w2.heap.size w2 W
  ds : ∀ D ∈ Ds, w2.heap.size ≤ D ∧ W.heap[D]? = some (.deferred (some []))
  nd : Ds.Nodup
/-- A round's end. -/
theorem OnI.next {w2 W W' w8 : World} {os : List Int} {k g cap D : Nat} {v : Value} {Ds : List Nat} {z : Int} (h : OnI w2 os k v Ds W) (hb : Below W.heap.size W W') (hD : W.heap.size ≤ D) (hDD : W'.heap[D]? = some (.deferred (some [])))
    (h1 : w8.ownsRow w2.heap.size 3 1 (.slice (some ⟨g, 0, none⟩) (k + 1) cap) (k + 1) (fl encI (os ++ [z]))) (h2 : (W'.alloc (.cells #[.int .i64 z] 3)).grownBy w8 v.ownBlock) : OnI w2 (os ++ [z]) (k + 1) (.slice (some ⟨g, 0, none⟩) (k + 1) cap) (D :: Ds) w8 := by
  have ho := owns_below h.own hb
  have hvr : ∀ r, v.ownBlock = some r → w2.heap.size ≤ r ∧ ∃ cs t fr, W'.heap[r]? = some (.cells cs t fr) := fun r hr => by
    refine ⟨(ho.lt r hr).1, ?_⟩
    rcases ho.2 with ⟨hv, _⟩ | ⟨g0, cap0, cur, hv, _, hh, _⟩
    · rw [hv] at hr; cases hr
    · rw [hv] at hr; cases hr; exact ⟨_, _, _, hh⟩
  have hdK : ∀ D', W'.heap[D']? = some (Obj.deferred (some [])) → w8.heap[D']? = some (Obj.deferred (some [])) := fun D' hx => (grown_keep h2 (Array.getElem?_eq_some_iff.1 hx).1 (fun e => by
    obtain ⟨_, cs, t, fr, h3⟩ := hvr D' e.symm
    rw [hx] at h3; cases h3)).trans hx
  refine ⟨h1, ?_, ?_, ?_⟩
  · exact bl_grown (bl_alloc (bl_trans h.bl hb) _) h2 (fun r hr => (hvr r hr).1)
  · intro D' hD'
    rcases List.mem_cons.1 hD' with rfl | hD'
    · exact ⟨Nat.le_trans h.bl.size hD, hdK _ hDD⟩
    · obtain ⟨d1, d2⟩ := h.ds D' hD'
      exact ⟨d1, hdK D' ((hb.block D' (Array.getElem?_eq_some_iff.1 d2).1).trans d2)⟩
  · refine List.nodup_cons.2 ⟨fun hx => ?_, h.nd⟩
    have := (Array.getElem?_eq_some_iff.1 (h.ds D hx).2).1
    omega
/-- A range of On: the innovation's cell, the answer's cell. -/
structure OnR (H q : Nat) (w6 : World) (z : Int) (W : World) : Prop where
  bq : Blk W H #[.int .u64 q] 35
  ba : Blk W (H + 1) #[.int .i64 z] 3
  bl : Below H w6 W
theorem OnR.grown {H q : Nat} {w6 W W' : World} {z : Int} {row : Option Nat} (h : OnR H q w6 z W) (hz : H + 1 < w6.heap.size) (hg : W.grownBy W' row) (hr : ∀ r, row = some r → w6.heap.size ≤ r) : OnR H q w6 z W' :=
  ⟨h.bq.grown hg (fun e => by have := hr H e.symm; omega), h.ba.grown hg (fun e => by have := hr (H + 1) e.symm; omega), h.bl.grown hg (Nat.le_trans (by omega) h.bl.size) (fun r e => by have := hr r e; omega)⟩
theorem OnR.put {H q : Nat} {w6 W : World} {z : Int} (h : OnR H q w6 z W) (y : Int) : OnR H q w6 y (W.setCell ⟨H + 1, 0, none⟩ (.int .i64 y)) :=
  ⟨h.bq.other (by omega) _ _, by have := h.ba.set 0 (.int .i64 y); simpa using this, h.bl.setCell (p := ⟨H + 1, 0, none⟩) (by show H ≤ H + 1; omega) _⟩
theorem OnR.keep {H q n₀ : Nat} {W : World} (hn : H + 1 < n₀) (v : Value) : KpN n₀ W (W.setCell ⟨H + 1, 0, none⟩ v) := fun B cs t fr hB hx =>
  (Below.heap_setCell W ⟨H + 1, 0, none⟩ v B (show B ≠ H + 1 by omega)).trans hx
end Go.Proofs.YtkdehkkkbfackaaGreatDoor
namespace Go.Proofs.YtkdehkkkbfackaaGreatDoor
open Go Go.RowKit Go.Shelf
/-- z is the first node from j on whose set is x, or -1. -/
def FromJ (f : Nat → Nat) (x n j : Nat) (z : Int) : Prop := (z = -1 ∧ ∀ v, j ≤ v → v < n → f v ≠ x) ∨ ∃ v : Nat, z = v ∧ j ≤ v ∧ v < n ∧ f v = x ∧ ∀ u, j ≤ u → u < v → f u ≠ x
theorem FromJ.end {f : Nat → Nat} {x n : Nat} {z : Int} (h : FromJ f x n 0 z) : z = onN f x n := by
  rcases h with ⟨rfl, h⟩ | ⟨v, rfl, _, hv, h1, h2⟩
  · exact (onN_none n fun v hv => h v (by omega) hv).symm
  · exact (onN_some h1 (fun u hu => h2 u (by omega) hu) n hv).symm
theorem FromJ.yes {f : Nat → Nat} {x n j : Nat} (hj : j < n) (h : f j = x) : FromJ f x n j j := .inr ⟨j, rfl, Nat.le_refl _, hj, h, fun u h1 h2 => by omega⟩
theorem FromJ.no {f : Nat → Nat} {x n j : Nat} {z : Int} (hz : FromJ f x n (j + 1) z) (h : f j ≠ x) : FromJ f x n j z := by
  rcases hz with ⟨rfl, h2⟩ | ⟨v, rfl, h1, hv, h3, h4⟩
  · refine .inl ⟨rfl, fun v h1 hv => ?_⟩
    by_cases e : v = j
    · subst e; exact h
    · exact h2 v (by omega) hv
  · refine .inr ⟨v, rfl, by omega, hv, h3, fun u h5 h6 => ?_⟩
    by_cases e : u = j
    · subst e; exact h
    · exact h4 u (by omega) h6
end Go.Proofs.YtkdehkkkbfackaaGreatDoor
namespace Go.Proofs.YtkdehkkkbfackaaGreatDoor
open Go Go.RowKit Go.Shelf
/-- The way from the root to v, by f steps at most. -/
def pthF (t : List Nd) : Nat → Nat → List Nat
  | 0, _ => [0]
  | f + 1, v => if v = 0 then [0] else pthF t f (nP t v).toNat ++ [v]
theorem pthF_le (t : List Nd) : ∀ f v, (pthF t f v).length ≤ f + 1 := by
  intro f
  induction f with
  | zero => intro v; simp [pthF]
  | succ f ih =>
    intro v
    unfold pthF
    split
    · simp
    · rw [List.length_append]; have := ih (nP t v).toNat; simp; omega
theorem pthF_eq {t : List Nd} {n : Nat} (hP : ∀ v, 0 < v → v < n → 0 ≤ nP t v ∧ nP t v < v) : ∀ f g v, v ≤ f → v ≤ g → v < n → pthF t f v = pthF t g v := by
  intro f
  induction f with
  | zero =>
    intro g v hf hg hv
    obtain rfl : v = 0 := by omega
    cases g <;> simp [pthF]
  | succ f ih =>
    intro g v hf hg hv
    by_cases e : v = 0
    · subst e; cases g <;> simp [pthF]
    · cases g with
      | zero => omega
      | succ g =>
        unfold pthF
        rw [if_neg e, if_neg e]
        have := hP v (by omega) hv
        rw [ih g (nP t v).toNat (by omega) (by omega) (by omega)]
end Go.Proofs.YtkdehkkkbfackaaGreatDoor
namespace Go.Proofs.YtkdehkkkbfackaaGreatDoor
open Go Go.RowKit Go.Shelf
/-- How far two lists agree. -/
def preL : List Nat → List Nat → Nat
  | x :: xs, y :: ys => if x = y then preL xs ys + 1 else 0
  | _, _ => 0
theorem preL_eq : ∀ (x y : List Nat) (k : Nat), k ≤ x.length → k ≤ y.length → (∀ i, i < k → vA x i = vA y i) → (k = x.length ∨ k = y.length ∨ vA x k ≠ vA y k) → preL x y = k := by
  intro x
  induction x with
  | nil => intro y k h1 _ _ _; simp at h1; subst h1; cases y <;> rfl
  | cons a x ih =>
    intro y k h1 h2 h3 h4
    cases y with
    | nil => simp at h2; subst h2; rfl
    | cons b y =>
      unfold preL
      cases k with
      | zero =>
        rcases h4 with h4 | h4 | h4
        · simp at h4
        · simp at h4
        · rw [if_neg (by simpa [vA] using h4)]
      | succ k =>
        have e : a = b := by have := h3 0 (by omega); simpa [vA] using this
        rw [if_pos e, ih y k (by simpa using h1) (by simpa using h2) (fun i hi => by have := h3 (i + 1) (by omega); simpa [vA] using this) (by simpa [vA] using h4)]
theorem pthF_pos (t : List Nd) : ∀ f v, 0 < (pthF t f v).length ∧ vA (pthF t f v) 0 = 0 := by
  intro f
  induction f with
  | zero => intro v; exact ⟨by simp [pthF], rfl⟩
  | succ f ih =>
    intro v
    unfold pthF
    split
    · exact ⟨by simp, rfl⟩
    · obtain ⟨h1, h2⟩ := ih (nP t v).toNat
      refine ⟨by rw [List.length_append]; omega, ?_⟩
      have e : vA (pthF t f (nP t v).toNat ++ [v]) 0 = vA (pthF t f (nP t v).toNat) 0 := by
        simp only [vA, List.getD_eq_getElem?_getD]
        rw [List.getElem?_append_left h1]
      rw [e]; exact h2
/-- The deepest common node. -/
def cmN (t : List Nd) (f u v : Nat) : Nat := vA (pthF t f u) (preL (pthF t f u) (pthF t f v) - 1)
end Go.Proofs.YtkdehkkkbfackaaGreatDoor
namespace Go.Proofs.YtkdehkkkbfackaaGreatDoor
open Go Go.RowKit Go.Shelf
theorem pth_succ {t : List Nd} {n : Nat} (hP : ∀ v, 0 < v → v < n → 0 ≤ nP t v ∧ nP t v < v) {x : Nat} (h0 : 0 < x) (hx : x < n) : pthF t n x = pthF t n (nP t x).toNat ++ [x] := by
  obtain ⟨m, rfl⟩ : ∃ m, n = m + 1 := ⟨n - 1, by omega⟩
  have h := hP x h0 hx
  have e : pthF t (m + 1) x = pthF t m (nP t x).toNat ++ [x] := by rw [pthF, if_neg (by omega)]
  rw [e, pthF_eq hP m (m + 1) (nP t x).toNat (by omega) (by omega) (by omega)]
theorem pth_zero (t : List Nd) (n : Nat) : pthF t n 0 = [0] := by cases n <;> simp [pthF]
theorem pth_last {t : List Nd} {n : Nat} (hP : ∀ v, 0 < v → v < n → 0 ≤ nP t v ∧ nP t v < v) {x : Nat} (hx : x < n) : vA (pthF t n x) ((pthF t n x).length - 1) = x := by
  by_cases e : x = 0
  · subst e; rw [pth_zero]; rfl
  · rw [pth_succ hP (by omega) hx]; simp [vA]
theorem pth_prefix {t : List Nd} {n : Nat} (hP : ∀ v, 0 < v → v < n → 0 ≤ nP t v ∧ nP t v < v) {v : Nat} : ∀ k x, x ≤ k → x < n → v ∈ pthF t n x → pthF t n v <+: pthF t n x := by
  intro k
  induction k with
  | zero =>
    intro x hk hx hm
    obtain rfl : x = 0 := by omega
    rw [pth_zero, List.mem_singleton] at hm
    subst hm
    exact List.prefix_refl _
  | succ k ih =>
    intro x hk hx hm
    by_cases e : x = 0
    · subst e
      rw [pth_zero, List.mem_singleton] at hm
      subst hm
      exact List.prefix_refl _
    · have hp := hP x (by omega) hx
      have he := pth_succ hP (show 0 < x by omega) hx
      rw [he, List.mem_append] at hm
      rcases hm with hm | hm
      · rw [he]
        exact (ih (nP t x).toNat (by omega) (by omega) hm).trans (List.prefix_append _ _)
      · rw [List.mem_singleton] at hm
        subst hm
        exact List.prefix_refl _
theorem preL_le : ∀ x y : List Nat, preL x y ≤ x.length := by
  intro x
  induction x with
  | nil => intro y; cases y <;> exact Nat.le_refl _
  | cons a x ih =>
    intro y
    cases y with
    | nil => exact Nat.zero_le _
    | cons b y =>
      unfold preL
      split
      · have := ih y; simp; omega
      · omega
/-- The deepest common node of x and v is v exactly if v lies on the way to x. -/
theorem cmN_iff {t : List Nd} {n : Nat} (hP : ∀ v, 0 < v → v < n → 0 ≤ nP t v ∧ nP t v < v) {x v : Nat} (hx : x < n) (hv : v < n) : cmN t n x v = v ↔ v ∈ pthF t n x := by
  obtain ⟨h1, _⟩ := pthF_pos t n x
  obtain ⟨h3, _⟩ := pthF_pos t n v
  constructor
  · intro h
    unfold cmN at h
    have hj : preL (pthF t n x) (pthF t n v) - 1 < (pthF t n x).length := by
      have := preL_le (pthF t n x) (pthF t n v); omega
    rw [vA_get hj] at h
    rw [← h]; exact List.getElem_mem hj
  · intro hm
    obtain ⟨s, hs⟩ := pth_prefix hP x x (Nat.le_refl _) hx hm
    have hat : ∀ i, i < (pthF t n v).length → vA (pthF t n x) i = vA (pthF t n v) i := fun i hi => by
      rw [← hs]
      simp only [vA, List.getD_eq_getElem?_getD]
      rw [List.getElem?_append_left hi]
    have hpe : preL (pthF t n x) (pthF t n v) = (pthF t n v).length :=
      preL_eq _ _ _ (by rw [← hs, List.length_append]; omega) (Nat.le_refl _) hat (.inr (.inl rfl))
    unfold cmN
    rw [hpe, hat _ (by omega), pth_last hP hv]
end Go.Proofs.YtkdehkkkbfackaaGreatDoor
namespace Go.Proofs.YtkdehkkkbfackaaGreatDoor
open Go Go.RowKit Go.Shelf
/-- Is v below u? -/
def belB (t : List Nd) (n v u : Nat) : Bool := decide (u ∈ (pthF t n v).dropLast)
theorem belB_eq {t : List Nd} {n : Nat} (hP : ∀ v, 0 < v → v < n → 0 ≤ nP t v ∧ nP t v < v) {v u : Nat} (h0 : 0 < v) (hv : v < n) : belB t n v u = decide (u ∈ pthF t n (nP t v).toNat) := by
  unfold belB
  rw [pth_succ hP h0 hv, List.dropLast_concat]
theorem mem_dropV {l : List Nat} {u : Nat} : u ∈ l.dropLast ↔ ∃ j, j + 1 < l.length ∧ vA l j = u := by
  rw [List.mem_iff_getElem]
  constructor
  · rintro ⟨j, hj, e⟩
    rw [List.length_dropLast] at hj
    rw [List.getElem_dropLast] at e
    exact ⟨j, by omega, by rw [vA_get (by omega)]; exact e⟩
  · rintro ⟨j, hj, e⟩
    refine ⟨j, by rw [List.length_dropLast]; omega, ?_⟩
    rw [List.getElem_dropLast, ← vA_get (by omega)]; exact e
end Go.Proofs.YtkdehkkkbfackaaGreatDoor
namespace Go.Proofs.YtkdehkkkbfackaaGreatDoor
open Go Go.RowKit Go.Shelf
theorem chkE_bad {t : List Nd} (h : ¬ TreeOk t) : chkE t = 16 := if_neg h
theorem chkE_good {t : List Nd} (h : TreeOk t) : chkE t = 0 := if_pos h
theorem seenB_true {t : List Nd} {v u : Nat} (hu : u < v) (e : nS t u = nS t v) : seenB t v (nS t v) = true := by
  unfold seenB
  rw [List.any_eq_true]
  exact ⟨u, List.mem_range.2 hu, by simp [e]⟩
theorem seenB_false {t : List Nd} {v : Nat} (h : ∀ u, u < v → nS t u ≠ nS t v) : seenB t v (nS t v) = false := by
  unfold seenB
  rw [List.any_eq_false]
  intro u hu
  simp [h u (List.mem_range.1 hu)]
end Go.Proofs.YtkdehkkkbfackaaGreatDoor
namespace Go.Proofs.YtkdehkkkbfackaaGreatDoor
open Go Go.RowKit Go.Shelf
/-- The set of v from the first k leaves. -/
def clF (t : List Nd) (n v : Nat) : Nat → Nat
  | 0 => 0
  | k + 1 => if cmN t n (vA (lvT t) k) v = v then clF t n v k ||| 2 ^ k else clF t n v k
theorem clF_lt (t : List Nd) (n v : Nat) : ∀ k, clF t n v k < 2 ^ k := by
  intro k
  induction k with
  | zero => exact Nat.one_pos
  | succ k ih =>
    have h : 2 ^ k < 2 ^ (k + 1) := Nat.pow_lt_pow_right (by omega) (by omega)
    unfold clF
    split
    · exact Nat.or_lt_two_pow (by omega) h
    · omega
end Go.Proofs.YtkdehkkkbfackaaGreatDoor
namespace Go.Proofs.YtkdehkkkbfackaaGreatDoor
open Go Go.RowKit Go.Shelf
theorem pth_lt {t : List Nd} {n : Nat} (hP : ∀ v, 0 < v → v < n → 0 ≤ nP t v ∧ nP t v < v) : ∀ k x, x ≤ k → x < n → ∀ u, u ∈ pthF t n x → u ≤ x := by
  intro k
  induction k with
  | zero =>
    intro x hk hx u hu
    obtain rfl : x = 0 := by omega
    rw [pth_zero, List.mem_singleton] at hu
    omega
  | succ k ih =>
    intro x hk hx u hu
    by_cases e : x = 0
    · subst e
      rw [pth_zero, List.mem_singleton] at hu
      omega
    · have hp := hP x (by omega) hx
      rw [pth_succ hP (by omega) hx, List.mem_append] at hu
      rcases hu with hu | hu
      · have := ih (nP t x).toNat (by omega) (by omega) u hu; omega
      · rw [List.mem_singleton] at hu; omega
theorem pth_self {t : List Nd} {n : Nat} (hP : ∀ v, 0 < v → v < n → 0 ≤ nP t v ∧ nP t v < v) {x : Nat} (hx : x < n) : x ∈ pthF t n x := by
  by_cases e : x = 0
  · subst e; rw [pth_zero]; simp
  · rw [pth_succ hP (by omega) hx]; simp
/-- Two nodes of one way: the lower one's way has the upper one. -/
theorem pth_chain {t : List Nd} {n : Nat} (hP : ∀ v, 0 < v → v < n → 0 ≤ nP t v ∧ nP t v < v) : ∀ k x, x ≤ k → x < n → ∀ u v, u ∈ pthF t n x → v ∈ pthF t n x → u ≤ v → u ∈ pthF t n v := by
  intro k
  induction k with
  | zero =>
    intro x hk hx u v hu hv _
    obtain rfl : x = 0 := by omega
    rw [pth_zero, List.mem_singleton] at hv
    subst hv; exact hu
  | succ k ih =>
    intro x hk hx u v hu hv huv
    by_cases e : x = 0
    · subst e
      rw [pth_zero, List.mem_singleton] at hv
      subst hv; exact hu
    · have hp := hP x (by omega) hx
      have he := pth_succ hP (show 0 < x by omega) hx
      have hv0 := hv
      have hu0 := hu
      rw [he, List.mem_append] at hv hu
      rcases hv with hv | hv
      · have hvl := pth_lt hP (nP t x).toNat _ (Nat.le_refl _) (by omega) v hv
        rcases hu with hu | hu
        · exact ih (nP t x).toNat (by omega) (by omega) u v hu hv huv
        · rw [List.mem_singleton] at hu; omega
      · rw [List.mem_singleton] at hv
        subst hv; exact hu0
/-- If nothing of the way lies between v and c, v is the node above c. -/
theorem pth_above {t : List Nd} {n : Nat} (hP : ∀ v, 0 < v → v < n → 0 ≤ nP t v ∧ nP t v < v) {x v c : Nat} (hx : x < n) (hv : v ∈ pthF t n x) (hc : c ∈ pthF t n x) (hvc : v < c) (hno : ∀ u, u ∈ pthF t n x → v < u → c ≤ u) : nP t c = v := by
  have hcn : c < n := Nat.lt_of_le_of_lt (pth_lt hP x x (Nat.le_refl _) hx c hc) hx
  have hp := hP c (by omega) hcn
  have h1 := pth_chain hP x x (Nat.le_refl _) hx v c hv hc (by omega)
  have he := pth_succ hP (show 0 < c by omega) hcn
  rw [he, List.mem_append] at h1
  have hpm : (nP t c).toNat ∈ pthF t n x := by
    have h2 := pth_prefix hP x x (Nat.le_refl _) hx hc
    refine h2.subset ?_
    rw [he]
    exact List.mem_append_left _ (pth_self hP (by omega))
  rcases h1 with h1 | h1
  · have h3 := pth_lt hP (nP t c).toNat _ (Nat.le_refl _) (by omega) v h1
    rcases Nat.lt_or_ge v (nP t c).toNat with h4 | h4
    · have := hno _ hpm h4; omega
    · omega
  · rw [List.mem_singleton] at h1; omega
end Go.Proofs.YtkdehkkkbfackaaGreatDoor
namespace Go.Proofs.YtkdehkkkbfackaaGreatDoor
open Go Go.RowKit Go.Shelf
theorem lvs_at (t : List Nd) : ∀ n k, k < (lvsL t n).length → vA (lvsL t n) k < n ∧ leafB t (vA (lvsL t n) k) = true ∧ (lvsL t (vA (lvsL t n) k)).length = k := by
  intro n
  induction n with
  | zero => intro k hk; simp [lvsL] at hk
  | succ n ih =>
    intro k hk
    rw [lvsL_snoc] at hk ⊢
    by_cases q : k < (lvsL t n).length
    · have e : ∀ m : List Nat, vA (lvsL t n ++ m) k = vA (lvsL t n) k := fun m => by
        simp only [vA, List.getD_eq_getElem?_getD]; rw [List.getElem?_append_left q]
      rw [e]
      obtain ⟨h1, h2, h3⟩ := ih k q
      exact ⟨by omega, h2, h3⟩
    · by_cases p : leafB t n = true
      · rw [if_pos p] at hk ⊢
        rw [List.length_append, List.length_singleton] at hk
        obtain rfl : k = (lvsL t n).length := by omega
        have e : vA (lvsL t n ++ [n]) (lvsL t n).length = n := by simp [vA]
        rw [e]
        exact ⟨by omega, p, rfl⟩
      · rw [if_neg p, List.append_nil] at hk
        exact absurd hk q
/-- The bits of what a node begins with. -/
theorem botS_bit (t : List Nd) {n k v : Nat} (hk : k < (lvsL t n).length) : (botS t v).testBit k = true ↔ vA (lvsL t n) k = v ∨ (leafB t v = true ∧ (lvsL t v).length = k ∧ vA (lvsL t n) k ≠ v) := by
  obtain ⟨h1, h2, h3⟩ := lvs_at t n k hk
  unfold botS
  by_cases p : leafB t v = true
  · rw [if_pos p, Nat.testBit_two_pow]
    simp only [decide_eq_true_eq]
    constructor
    · intro h
      by_cases e : vA (lvsL t n) k = v
      · exact .inl e
      · exact .inr ⟨p, h, e⟩
    · rintro (h | ⟨_, h, _⟩)
      · rw [← h]; exact h3
      · exact h
  · rw [if_neg p]
    simp only [Nat.zero_testBit]
    constructor
    · intro h; cases h
    · rintro (h | ⟨h, _⟩)
      · rw [h] at h2; exact absurd h2 p
      · exact absurd h p
end Go.Proofs.YtkdehkkkbfackaaGreatDoor
namespace Go.Proofs.YtkdehkkkbfackaaGreatDoor
open Go Go.RowKit Go.Shelf
theorem lvs_inj {t : List Nd} {u v : Nat} (hu : leafB t u = true) (hv : leafB t v = true) (h : (lvsL t u).length = (lvsL t v).length) : u = v := by
  have key : ∀ a b, a < b → leafB t a = true → (lvsL t a).length < (lvsL t b).length := fun a b hab ha => by
    have h1 := lvsL_snoc t a
    rw [if_pos ha] at h1
    have h2 := lvsL_mono t (show a + 1 ≤ b from hab)
    rw [h1, List.length_append, List.length_singleton] at h2
    omega
  rcases Nat.lt_trichotomy u v with q | q | q
  · have := key u v q hu; omega
  · exact q
  · have := key v u q hv; omega
theorem botS_iff (t : List Nd) {n k v : Nat} (hk : k < (lvsL t n).length) : (botS t v).testBit k = true ↔ vA (lvsL t n) k = v := by
  rw [botS_bit t hk]
  obtain ⟨_, h2, h3⟩ := lvs_at t n k hk
  constructor
  · rintro (h | ⟨hl, hlen, hne⟩)
    · exact h
    · exact absurd (lvs_inj h2 hl (by rw [h3, hlen])) hne
  · exact .inl
theorem upS_bit {t : List Nd} {n k : Nat} (hn : t.length = n) (hP : ∀ v, 0 < v → v < n → 0 ≤ nP t v ∧ nP t v < v) (_h0 : nP t 0 < 0) (hk : k < (lvsL t n).length) : ∀ j v, j + 1 ≤ n → v < n →
    ((upS t j v).testBit k = true ↔ v ∈ pthF t n (vA (lvsL t n) k) ∧ ∀ u, u ∈ pthF t n (vA (lvsL t n) k) → v < u → n - j ≤ u) := by
  have hx := (lvs_at t n k hk).1
  have hb : ∀ v, (botS t v).testBit k = true ↔ vA (lvsL t n) k = v := fun v => botS_iff t hk
  generalize vA (lvsL t n) k = x at *
  intro j
  induction j with
  | zero =>
    intro v _ hv
    show (botS t v).testBit k = true ↔ _
    rw [hb]
    constructor
    · rintro rfl
      refine ⟨pth_self hP hx, fun u hu hlt => ?_⟩
      have := pth_lt hP x x (Nat.le_refl _) hx u hu; omega
    · rintro ⟨h1, h2⟩
      have h3 := pth_lt hP x x (Nat.le_refl _) hx v h1
      rcases Nat.lt_or_ge v x with h4 | h4
      · have := h2 x (pth_self hP hx) h4; omega
      · omega
  | succ j ih =>
    intro v hj hv
    obtain ⟨c, hc⟩ : ∃ c, c = n - 1 - j := ⟨_, rfl⟩
    have hc0 : 0 < c := by omega
    have hcn : c < n := by omega
    have hups : upS t (j + 1) v = if nP t c = (v : Int) then upS t j v ||| upS t j c else upS t j v := by rw [upS, hn, hc]
    have ec : n - (j + 1) = c := by omega
    have ej : n - j = c + 1 := by omega
    rw [hups, ec]
    clear hups
    have hv1 := ih v (by omega) hv
    have hc1 := ih c (by omega) hcn
    rw [ej] at hv1 hc1
    by_cases e : nP t c = (v : Int)
    · rw [if_pos e, Nat.testBit_or, Bool.or_eq_true, hv1, hc1]
      have hpc := hP c hc0 hcn
      constructor
      · rintro (⟨h1, h2⟩ | ⟨h1, h2⟩)
        · exact ⟨h1, fun u hu hlt => by have := h2 u hu hlt; omega⟩
        · have hvx : v ∈ pthF t n x := by
            refine (pth_prefix hP x x (Nat.le_refl _) hx h1).subset ?_
            rw [pth_succ hP hc0 hcn, e]
            exact List.mem_append_left _ (by rw [Int.toNat_natCast]; exact pth_self hP hv)
          refine ⟨hvx, fun u hu hlt => ?_⟩
          rcases Nat.lt_or_ge u c with h4 | h4
          · have h5 := pth_chain hP x x (Nat.le_refl _) hx u c hu h1 (by omega)
            rw [pth_succ hP hc0 hcn, e, Int.toNat_natCast, List.mem_append] at h5
            rcases h5 with h5 | h5
            · have := pth_lt hP v v (Nat.le_refl _) hv u h5; omega
            · rw [List.mem_singleton] at h5; omega
          · exact h4
      · rintro ⟨h1, h2⟩
        by_cases hcx : c ∈ pthF t n x
        · exact .inr ⟨hcx, fun u hu hlt => hlt⟩
        · exact .inl ⟨h1, fun u hu hlt => by
            have h3 := h2 u hu hlt
            rcases Nat.lt_or_ge c u with h4 | h4
            · exact h4
            · obtain rfl : u = c := by omega
              exact absurd hu hcx⟩
    · rw [if_neg e, hv1]
      constructor
      · rintro ⟨h1, h2⟩
        exact ⟨h1, fun u hu hlt => by have := h2 u hu hlt; omega⟩
      · rintro ⟨h1, h2⟩
        refine ⟨h1, fun u hu hlt => ?_⟩
        have h3 := h2 u hu hlt
        rcases Nat.lt_or_ge c u with h4 | h4
        · exact h4
        · obtain rfl : u = c := by omega
          exact absurd (pth_above hP hx h1 hu hlt h2) e
theorem cl_bit {t : List Nd} {n k v : Nat} (hn : t.length = n) (hP : ∀ v, 0 < v → v < n → 0 ≤ nP t v ∧ nP t v < v) (h0 : nP t 0 < 0) (hk : k < (lvsL t n).length) (hv : v < n) : (cl t v).testBit k = true ↔ v ∈ pthF t n (vA (lvsL t n) k) := by
  unfold cl
  rw [hn, upS_bit hn hP h0 hk (n - 1) v (by omega) hv]
  exact ⟨fun h => h.1, fun h => ⟨h, fun u _ hlt => by omega⟩⟩
theorem clF_bit (t : List Nd) (n v k : Nat) : ∀ m, (clF t n v m).testBit k = true ↔ k < m ∧ cmN t n (vA (lvT t) k) v = v := by
  intro m
  induction m with
  | zero => simp [clF]
  | succ m ih =>
    unfold clF
    by_cases q : cmN t n (vA (lvT t) m) v = v
    · rw [if_pos q, Nat.testBit_or, Bool.or_eq_true, ih, Nat.testBit_two_pow]
      simp only [decide_eq_true_eq]
      constructor
      · rintro (⟨h1, h2⟩ | h)
        · exact ⟨by omega, h2⟩
        · subst h; exact ⟨by omega, q⟩
      · rintro ⟨h1, h2⟩
        rcases Nat.lt_or_ge k m with h3 | h3
        · exact .inl ⟨h3, h2⟩
        · exact .inr (by omega)
    · rw [if_neg q, ih]
      constructor
      · rintro ⟨h1, h2⟩; exact ⟨by omega, h2⟩
      · rintro ⟨h1, h2⟩
        refine ⟨?_, h2⟩
        rcases Nat.lt_or_ge k m with h3 | h3
        · exact h3
        · obtain rfl : k = m := by omega
          exact absurd h2 q
end Go.Proofs.YtkdehkkkbfackaaGreatDoor
namespace Go.Proofs.YtkdehkkkbfackaaGreatDoor
open Go Go.RowKit Go.Shelf
theorem bit_of_ne {x : Nat} (h : x ≠ 0) : ∃ k, x.testBit k = true := by
  refine Classical.byContradiction fun hn => h ?_
  apply Nat.eq_of_testBit_eq
  intro k
  rw [Nat.zero_testBit]
  cases hb : x.testBit k with
  | false => rfl
  | true => exact absurd ⟨k, hb⟩ hn
theorem pth_root (t : List Nd) (n v : Nat) : 0 ∈ pthF t n v := by
  obtain ⟨h1, h2⟩ := pthF_pos t n v
  rw [vA_get h1] at h2
  rw [← h2]; exact List.getElem_mem h1
theorem tok_par {t : List Nd} {n : Nat} (hn : t.length = n) (hok : TreeOk t) : ∀ v, 0 < v → v < n → 0 ≤ nP t v ∧ nP t v < v := fun v h1 h2 => tree_par hok v h1 (by rw [hn]; exact h2)
theorem tok_root {t : List Nd} (hok : TreeOk t) : nP t 0 < 0 := (hok.2.2 0 (by have := hok.1; omega)).1
theorem tok_lv {t : List Nd} {n : Nat} (hn : t.length = n) (hok : TreeOk t) : lvT t = lvsL t n := by unfold lvT; rw [if_pos (chkE_good hok), hn]
theorem tok_bit {t : List Nd} {n k v : Nat} (hn : t.length = n) (hok : TreeOk t) (hk : k < (lvT t).length) (hv : v < n) : (cl t v).testBit k = true ↔ v ∈ pthF t n (vA (lvT t) k) := by
  rw [tok_lv hn hok] at hk ⊢
  exact cl_bit hn (tok_par hn hok) (tok_root hok) hk hv
theorem tok_leaf {t : List Nd} {n k : Nat} (hn : t.length = n) (hok : TreeOk t) (hk : k < (lvT t).length) : vA (lvT t) k < n ∧ leafB t (vA (lvT t) k) = true := by
  rw [tok_lv hn hok] at hk ⊢
  exact ⟨(lvs_at t n k hk).1, (lvs_at t n k hk).2.1⟩
theorem tok_lt {t : List Nd} {n v : Nat} (hn : t.length = n) (hok : TreeOk t) (hv : v < n) : cl t v < 2 ^ (lvT t).length := by
  rw [tok_lv hn hok]
  exact cl_lt (n := (lvsL t n).length) (by rw [hn]; exact Nat.le_refl _) v (by rw [hn]; exact hv)
theorem bit_lt {x k m : Nat} (hx : x < 2 ^ m) (h : x.testBit k = true) : k < m := by
  rcases Nat.lt_or_ge k m with q | q
  · exact q
  · have hp : 2 ^ m ≤ 2 ^ k := Nat.pow_le_pow_right (by omega) q
    rw [Nat.testBit_lt_two_pow (by omega)] at h; cases h
/-- What lies below has fewer leaves. -/
theorem cl_sub {t : List Nd} {n u v : Nat} (hn : t.length = n) (hok : TreeOk t) (hv : v < n) (h : u ∈ pthF t n v) : cl t u &&& cl t v = cl t v := by
  have hP := tok_par hn hok
  have hu : u < n := Nat.lt_of_le_of_lt (pth_lt hP v v (Nat.le_refl _) hv u h) hv
  apply Nat.eq_of_testBit_eq
  intro k
  rw [Nat.testBit_and]
  cases hb : (cl t v).testBit k with
  | false => simp
  | true =>
    have hk := bit_lt (tok_lt hn hok hv) hb
    have h1 := (tok_bit hn hok hk hv).1 hb
    have h2 := (pth_prefix hP _ _ (Nat.le_refl _) (tok_leaf hn hok hk).1 h1).subset h
    rw [(tok_bit hn hok hk hu).2 h2]; rfl
theorem sub_bit {a b k : Nat} (h : a &&& b = b) (hb : b.testBit k = true) : a.testBit k = true := by
  have := congrArg (fun y => y.testBit k) h
  simp only [Nat.testBit_and, hb, Bool.and_true] at this
  exact this
/-- Two nodes with a common leaf: the one with the smaller number is above. -/
theorem cl_chain {t : List Nd} {n u v k : Nat} (hn : t.length = n) (hok : TreeOk t) (hu : u < n) (hv : v < n) (h1 : (cl t u).testBit k = true) (h2 : (cl t v).testBit k = true) (huv : u ≤ v) : u ∈ pthF t n v := by
  have hk := bit_lt (tok_lt hn hok hu) h1
  exact pth_chain (tok_par hn hok) _ _ (Nat.le_refl _) (tok_leaf hn hok hk).1 u v ((tok_bit hn hok hk hu).1 h1) ((tok_bit hn hok hk hv).1 h2) huv
theorem and_bit {a b : Nat} (h : a &&& b ≠ 0) : ∃ k, a.testBit k = true ∧ b.testBit k = true := by
  obtain ⟨k, hk⟩ := bit_of_ne h
  rw [Nat.testBit_and, Bool.and_eq_true] at hk
  exact ⟨k, hk⟩
/-- The sets of two nodes fit. -/
theorem cl_fit {t : List Nd} {n u v : Nat} (hn : t.length = n) (hok : TreeOk t) (hu : u < n) (hv : v < n) : fitB (cl t u) (cl t v) = true := by
  unfold fitB
  by_cases h0 : cl t u &&& cl t v = 0
  · rw [decide_eq_true h0]; rfl
  · obtain ⟨k, h1, h2⟩ := and_bit h0
    rcases Nat.le_total u v with q | q
    · have := cl_sub hn hok hv (cl_chain hn hok hu hv h1 h2 q)
      rw [decide_eq_true this]; simp
    · have := cl_sub hn hok hu (cl_chain hn hok hv hu h2 h1 q)
      rw [Nat.and_comm] at this
      rw [decide_eq_true this]; simp
theorem leaf_end {t : List Nd} {n l : Nat} (hn : t.length = n) (hok : TreeOk t) (hl : leafB t l = true) : ∀ k y, y ≤ k → y < n → l ∈ pthF t n y → y = l := by
  have hP := tok_par hn hok
  intro k
  induction k with
  | zero =>
    intro y hy hyn h
    obtain rfl : y = 0 := by omega
    rw [pth_zero, List.mem_singleton] at h; exact h.symm
  | succ k ih =>
    intro y hy hyn h
    by_cases e : y = 0
    · subst e; rw [pth_zero, List.mem_singleton] at h; exact h.symm
    · obtain ⟨h1, h2⟩ := hP y (by omega) hyn
      rw [pth_succ hP (by omega) hyn, List.mem_append] at h
      rcases h with h | h
      · have e2 := ih (nP t y).toNat (by omega) (by omega) h
        have hk : kidB t l y = true := by unfold kidB; rw [decide_eq_true (by omega), decide_eq_true (by omega)]; rfl
        rw [leafB_in] at hl
        have : inB t t.length l = true := List.any_eq_true.2 ⟨y, List.mem_range.2 (by omega), hk⟩
        rw [this] at hl; cases hl
      · rw [List.mem_singleton] at h; exact h.symm
theorem leaf_at {t : List Nd} {n l : Nat} (hn : t.length = n) (hok : TreeOk t) (hl : leafB t l = true) (hln : l < n) : ∃ k, k < (lvT t).length ∧ vA (lvT t) k = l := by
  rw [tok_lv hn hok]
  have hm : l ∈ lvsL t n := List.mem_filter.2 ⟨List.mem_range.2 hln, hl⟩
  obtain ⟨k, hk, e⟩ := List.mem_iff_getElem.1 hm
  exact ⟨k, hk, by rw [vA_get hk]; exact e⟩
/-- Each node has a leaf. -/
theorem cl_ne {t : List Nd} {n : Nat} (hn : t.length = n) (hok : TreeOk t) : ∀ j v, n - v ≤ j → v < n → cl t v ≠ 0 := by
  have hP := tok_par hn hok
  intro j
  induction j with
  | zero => intro v h1 h2; omega
  | succ j ih =>
    intro v h1 hv
    by_cases q : leafB t v = true
    · obtain ⟨k, hk, e⟩ := leaf_at hn hok q hv
      have hb : (cl t v).testBit k = true := (tok_bit hn hok hk hv).2 (by rw [e]; exact pth_self hP hv)
      intro h; rw [h, Nat.zero_testBit] at hb; cases hb
    · rw [leafB_in, hn] at q
      have q2 : inB t n v = true := by cases h : inB t n v <;> simp_all
      obtain ⟨c, hc, hk⟩ := List.any_eq_true.1 q2
      have hcn := List.mem_range.1 hc
      unfold kidB at hk
      rw [Bool.and_eq_true, decide_eq_true_eq, decide_eq_true_eq] at hk
      obtain ⟨hc0, hcp⟩ := hk
      obtain ⟨p0, p1⟩ := hP c hc0 hcn
      have hz := ih c (by omega) hcn
      have hm : v ∈ pthF t n c := by
        rw [pth_succ hP hc0 hcn]
        refine List.mem_append_left _ ?_
        rw [hcp, Int.toNat_natCast]; exact pth_self hP hv
      have hs := cl_sub hn hok hcn hm
      intro h; rw [h, Nat.zero_and] at hs; exact hz hs.symm
theorem u8_inj {a b : Nat} (ha : a < 256) (hb : b < 256) (h : UInt8.ofNat a = UInt8.ofNat b) : a = b := by
  have := congrArg UInt8.toNat h
  rw [UInt8.toNat_ofNat', UInt8.toNat_ofNat'] at this
  omega
theorem nmB_of {s : ByteArray} (h1 : ∀ c ∈ s.data.toList, ltrI c.toNat = true) (h2 : 0 < s.data.toList.length) (h3 : s.data.toList.length ≤ 24) : nmB s = true := by
  have e : s.size = s.data.toList.length := Array.length_toList.symm
  unfold nmB
  rw [List.all_eq_true.2 h1, decide_eq_true (by omega), decide_eq_true (by omega)]; rfl
end Go.Proofs.YtkdehkkkbfackaaGreatDoor
namespace Go.Proofs.YtkdehkkkbfackaaGreatDoor
open Go Go.RowKit Go.Shelf
/-- The root has all leaves. -/
theorem cl_root {t : List Nd} {n x : Nat} (hn : t.length = n) (hok : TreeOk t) (hx : x < 2 ^ (lvT t).length) : cl t 0 &&& x = x := by
  have hP : ∀ v, 0 < v → v < n → 0 ≤ nP t v ∧ nP t v < v := fun v h1 h2 => tree_par hok v h1 (by rw [hn]; exact h2)
  have h0 : nP t 0 < 0 := (hok.2.2 0 (by have := hok.1; omega)).1
  have hL : lvT t = lvsL t n := by unfold lvT; rw [if_pos (chkE_good hok), hn]
  have h1 : 0 < n := by have := hok.1; omega
  apply Nat.eq_of_testBit_eq
  intro k
  rw [Nat.testBit_and]
  by_cases hk : k < (lvsL t n).length
  · have h2 : (cl t 0).testBit k = true := (cl_bit hn hP h0 hk h1).2 (pth_root t n _)
    rw [h2, Bool.true_and]
  · have hp : 2 ^ (lvsL t n).length ≤ 2 ^ k := Nat.pow_le_pow_right (by omega) (by omega)
    rw [hL] at hx
    rw [Nat.testBit_lt_two_pow (x := x) (by omega), Bool.and_false]
theorem lAt_has {f : Nat → Nat} {x : Nat} (h0 : f 0 &&& x = x) : ∀ k, f (lAt f x k) &&& x = x := by
  intro k
  induction k with
  | zero => exact h0
  | succ k ih =>
    unfold lAt
    by_cases e : f k &&& x = x
    · rw [if_pos e]; exact e
    · rw [if_neg e]; exact ih
theorem lAt_lt' (f : Nat → Nat) (x : Nat) : ∀ k, 0 < k → lAt f x k < k := by
  intro k
  induction k with
  | zero => intro h; omega
  | succ k ih =>
    intro _
    unfold lAt
    split
    · omega
    · by_cases e : k = 0
      · subst e; exact Nat.lt_succ_of_le (lAt_lt f x 0)
      · have := ih (by omega); omega
/-- As the document: v is below the node at_, it has nothing of x, the node above has something. -/
def rlossB (t : List Nd) (n : Nat) (x at_ v : Nat) : Bool := (belB t n v at_ && decide (cl t v &&& x = 0)) && !decide (cl t (nP t v).toNat &&& x = 0)
theorem loss_eq {t : List Nd} {n x v : Nat} (hn : t.length = n) (hok : TreeOk t) (hx : x < 2 ^ (lvT t).length) (h0 : 0 < v) (hv : v < n) :
    rlossB t n x (lAt (cl t) x n) v = lossB t (cl t) x (lAt (cl t) x n) v := by
  have hP : ∀ v, 0 < v → v < n → 0 ≤ nP t v ∧ nP t v < v := fun v h1 h2 => tree_par hok v h1 (by rw [hn]; exact h2)
  have hr : nP t 0 < 0 := (hok.2.2 0 (by have := hok.1; omega)).1
  have hL : lvT t = lvsL t n := by unfold lvT; rw [if_pos (chkE_good hok), hn]
  have hat := lAt_has (cl_root hn hok hx) n
  have hatn := lAt_lt' (cl t) x n (by omega)
  generalize lAt (cl t) x n = A at *
  unfold rlossB lossB
  rw [belB_eq hP h0 hv, decide_eq_true h0, Bool.true_and, Nat.and_comm x, Nat.and_comm x]
  obtain ⟨hp0, hpv⟩ := hP v h0 hv
  obtain ⟨p, hp⟩ : ∃ p : Nat, nP t v = p := ⟨(nP t v).toNat, by omega⟩
  rw [hp, Int.toNat_natCast]
  rw [hp] at hpv
  by_cases hz : cl t p &&& x = 0
  · rw [decide_eq_true hz]; simp
  · have key : A ∈ pthF t n p ↔ (A : Int) ≤ (p : Int) := by
      constructor
      · intro h
        have := pth_lt hP p p (Nat.le_refl _) (by omega) A h; omega
      · intro h
        obtain ⟨k, hk⟩ := bit_of_ne hz
        rw [Nat.testBit_and, Bool.and_eq_true] at hk
        obtain ⟨h1, h2⟩ := hk
        have hkl : k < (lvsL t n).length := by
          rcases Nat.lt_or_ge k (lvsL t n).length with q | q
          · exact q
          · have hp : 2 ^ (lvsL t n).length ≤ 2 ^ k := Nat.pow_le_pow_right (by omega) q
            rw [hL] at hx
            rw [Nat.testBit_lt_two_pow (by omega)] at h2; cases h2
        have h3 : (cl t A).testBit k = true := by
          have := congrArg (fun y => y.testBit k) hat
          simp only [Nat.testBit_and, h2, Bool.and_true] at this
          exact this
        have hq := (lvs_at t n k hkl).1
        exact pth_chain hP _ _ (Nat.le_refl _) hq A p ((cl_bit hn hP hr hkl hatn).1 h3) ((cl_bit hn hP hr hkl (by omega)).1 h1) (by omega)
    rw [decide_eq_false hz]
    by_cases q : A ∈ pthF t n p
    · rw [decide_eq_true q, decide_eq_true (key.1 q)]; simp
    · rw [decide_eq_false q, decide_eq_false (fun h => q (key.2 h))]; simp
theorem lossB_root (t : List Nd) (f : Nat → Nat) (x a : Nat) : lossB t f x a 0 = false := by simp [lossB]
theorem loss_zero (t : List Nd) (f : Nat → Nat) (a : Nat) : ∀ k, lCnt t f 0 a k = 0 := by
  intro k
  induction k with
  | zero => rfl
  | succ k ih => unfold lCnt; rw [ih]; simp [lossB]
end Go.Proofs.YtkdehkkkbfackaaGreatDoor
namespace Go.Proofs.YtkdehkkkbfackaaGreatDoor
open Go Go.RowKit Go.Shelf
theorem lAt_ge {f : Nat → Nat} {x u : Nat} (h : f u &&& x = x) : ∀ k, u < k → u ≤ lAt f x k := by
  intro k
  induction k with
  | zero => intro h; omega
  | succ k ih =>
    intro hu
    unfold lAt
    by_cases e : f k &&& x = x
    · rw [if_pos e]; omega
    · rw [if_neg e]
      by_cases q : u = k
      · subst q; exact absurd h e
      · exact ih (by omega)
theorem lCnt_zero {t : List Nd} {f : Nat → Nat} {x a : Nat} : ∀ k, lCnt t f x a k = 0 ↔ ∀ v, v < k → lossB t f x a v = false := by
  intro k
  induction k with
  | zero => exact ⟨fun _ v hv => by omega, fun _ => rfl⟩
  | succ k ih =>
    unfold lCnt
    constructor
    · intro h v hv
      by_cases e : v = k
      · subst e
        cases hb : lossB t f x a v with
        | false => rfl
        | true => rw [hb] at h; simp at h
      · exact ih.1 (by omega) v (by omega)
    · intro h
      rw [ih.2 fun v hv => h v (by omega), h k (by omega)]; rfl
/-- The set of a node is never lost. -/
theorem loss_node {t : List Nd} {n u : Nat} (hn : t.length = n) (hok : TreeOk t) (hu : u < n) : lossN t (cl t u) = 0 := by
  have hP := tok_par hn hok
  have hx := tok_lt hn hok hu
  unfold lossN
  rw [hn, lCnt_zero]
  intro v hv
  by_cases hv0 : v = 0
  · subst hv0; exact lossB_root t _ _ _
  rw [← loss_eq hn hok hx (by omega) hv]
  have hat := lAt_has (cl_root hn hok hx) n
  have hatn := lAt_lt' (cl t) (cl t u) n (by omega)
  have hge := lAt_ge (f := cl t) (x := cl t u) (u := u) (Nat.and_self _) n hu
  generalize lAt (cl t) (cl t u) n = A at *
  have hne := cl_ne hn hok n u (by omega) hu
  obtain ⟨k, hk⟩ := bit_of_ne hne
  have h1 := cl_chain hn hok hu hatn hk (sub_bit hat hk) hge
  unfold rlossB
  rw [belB_eq hP (by omega) hv]
  obtain ⟨p0, p1⟩ := hP v (by omega) hv
  by_cases q : A ∈ pthF t n (nP t v).toNat
  · have h2 : A ∈ pthF t n v := by rw [pth_succ hP (by omega) hv]; exact List.mem_append_left _ q
    have h3 : u ∈ pthF t n v := (pth_prefix hP v v (Nat.le_refl _) hv h2).subset h1
    have h4 := cl_sub hn hok hv h3
    rw [Nat.and_comm] at h4
    rw [h4, decide_eq_false (cl_ne hn hok n v (by omega) hv)]; simp
  · rw [decide_eq_false q]; rfl
/-- What is never lost is the set of a node. -/
theorem node_of_loss {t : List Nd} {n x : Nat} (hn : t.length = n) (hok : TreeOk t) (hx : x < 2 ^ (lvT t).length) (h0 : x ≠ 0) (hz : lossN t x = 0) : ∃ u, u < n ∧ cl t u = x := by
  have hP := tok_par hn hok
  have hn1 : 0 < n := by have := hok.1; omega
  unfold lossN at hz
  rw [hn, lCnt_zero] at hz
  have hat := lAt_has (cl_root hn hok hx) n
  have hatn := lAt_lt' (cl t) x n hn1
  have hle : ∀ v, 0 < v → v < n → rlossB t n x (lAt (cl t) x n) v = false := fun v h1 h2 => by rw [loss_eq hn hok hx h1 h2]; exact hz v h2
  generalize lAt (cl t) x n = A at *
  refine ⟨A, hatn, Classical.byContradiction fun hne => ?_⟩
  have hd : ∃ k, (cl t A).testBit k = true ∧ x.testBit k = false := by
    refine Classical.byContradiction fun hno => hne ?_
    apply Nat.eq_of_testBit_eq
    intro k
    cases hb : x.testBit k with
    | true => exact sub_bit hat hb
    | false =>
      cases hc : (cl t A).testBit k with
      | false => rfl
      | true => exact absurd ⟨k, hc, hb⟩ hno
  obtain ⟨k, hk1, hk2⟩ := hd
  have hk := bit_lt (tok_lt hn hok hatn) hk1
  obtain ⟨hl1, hl2⟩ := tok_leaf hn hok hk
  have hA := (tok_bit hn hok hk hatn).1 hk1
  have hleaf : cl t (vA (lvT t) k) &&& x = 0 := by
    refine Classical.byContradiction fun hnz => ?_
    obtain ⟨j, j1, j2⟩ := and_bit hnz
    have hj := bit_lt hx j2
    have h1 := (tok_bit hn hok hj hl1).1 j1
    have h2 := leaf_end hn hok hl2 _ _ (Nat.le_refl _) (tok_leaf hn hok hj).1 h1
    have h3 : j = k := by
      rw [tok_lv hn hok] at h2 hj hk
      have e1 := (lvs_at t n j hj).2.2
      have e2 := (lvs_at t n k hk).2.2
      rw [h2] at e1; omega
    rw [h3, hk2] at j2; cases j2
  have key : ∀ m y, y ≤ m → y < n → A ∈ pthF t n y → cl t y &&& x = 0 → False := by
    intro m
    induction m with
    | zero =>
      intro y hy hyn hm h
      obtain rfl : y = 0 := by omega
      rw [pth_zero, List.mem_singleton] at hm
      subst hm
      rw [hat] at h; exact h0 h
    | succ m ih =>
      intro y hy hyn hm h
      by_cases e : y = A
      · subst e; rw [hat] at h; exact h0 h
      · have hy0 : y ≠ 0 := by
          intro e2; subst e2
          rw [pth_zero, List.mem_singleton] at hm; exact e hm.symm
        obtain ⟨p0, p1⟩ := hP y (by omega) hyn
        rw [pth_succ hP (by omega) hyn, List.mem_append] at hm
        rcases hm with hm | hm
        · by_cases hp : cl t (nP t y).toNat &&& x = 0
          · exact ih (nP t y).toNat (by omega) (by omega) hm hp
          · have := hle y (by omega) hyn
            unfold rlossB at this
            rw [belB_eq hP (by omega) hyn, decide_eq_true hm, decide_eq_true h, decide_eq_false hp] at this
            cases this
        · rw [List.mem_singleton] at hm; exact e hm.symm
  exact key _ _ (Nat.le_refl _) hl1 hA hleaf
/-- On finds a node with the set, if there is one. -/
theorem onN_at {f : Nat → Nat} {x : Nat} : ∀ k, 0 ≤ onN f x k → f (onN f x k).toNat = x ∧ (onN f x k).toNat < k := by
  intro k
  induction k with
  | zero => intro h; exact absurd h (by show ¬ (0 : Int) ≤ -1; decide)
  | succ k ih =>
    intro h
    unfold onN at h ⊢
    by_cases q : 0 ≤ onN f x k
    · rw [if_pos q]; have := ih q; exact ⟨this.1, by omega⟩
    · rw [if_neg q] at h ⊢
      by_cases e : f k = x
      · rw [if_pos e]; exact ⟨by rw [Int.toNat_natCast]; exact e, by rw [Int.toNat_natCast]; omega⟩
      · rw [if_neg e] at h; omega
theorem onN_iff {f : Nat → Nat} {x n : Nat} : 0 ≤ onN f x n ↔ ∃ u, u < n ∧ f u = x := by
  constructor
  · intro h
    obtain ⟨h1, h2⟩ := onN_at n h
    exact ⟨_, h2, h1⟩
  · rintro ⟨u, hu, e⟩
    refine Classical.byContradiction fun hn => ?_
    have key : ∀ k, ¬ 0 ≤ onN f x k → ∀ v, v < k → f v ≠ x := by
      intro k
      induction k with
      | zero => intro _ v hv; omega
      | succ k ih =>
        intro h v hv
        unfold onN at h
        by_cases q : 0 ≤ onN f x k
        · rw [if_pos q] at h; exact absurd q h
        · rw [if_neg q] at h
          by_cases e2 : f k = x
          · rw [if_pos e2] at h; omega
          · by_cases e3 : v = k
            · subst e3; exact e2
            · exact ih q v (by omega)
    exact key n hn u hu e
end Go.Proofs.YtkdehkkkbfackaaGreatDoor
namespace Go.Proofs.YtkdehkkkbfackaaGreatDoor
open Go Go.RowKit Go.Shelf
theorem conf_fit {l : List Nat} (h : ∀ i j, i < j → j < l.length → fitB (vA l i) (vA l j) = true) : confE l = none :=
  conf_no fun i _ => cfRow_no fun j h1 h2 => h i j h1 h2
/-- Was none of the first k lost? -/
def allF (t : List Nd) (l : List Nat) (k : Nat) : Bool := (l.take k).all fun x => decide (lossN t x = 0)
theorem allF_succ {t : List Nd} {l : List Nat} {k : Nat} (hk : k < l.length) : allF t l (k + 1) = (allF t l k && decide (lossN t (vA l k) = 0)) := by
  unfold allF
  rw [List.take_succ_eq_append_getElem hk, List.all_append, vA_get hk]; simp
theorem fits_all {L : Int} {l : List Nat} {t : List Nd} (h : chkP L l t = 0) : fitsB L l t = allF t l l.length := by
  unfold fitsB allF
  rw [decide_eq_true h, Bool.true_and, List.take_length]
  have e : lossL L l t = l.map (lossN t) := if_pos h
  rw [e, Bool.eq_iff_iff, Bool.not_eq_true', Bool.eq_false_iff, List.all_eq_true]
  constructor
  · intro hn x hx
    rw [decide_eq_true_eq]
    refine Classical.byContradiction fun h0 => hn ?_
    obtain ⟨j, hj, e2⟩ := List.mem_iff_getElem.1 hx
    refine any_iN.2 ⟨j, by simpa using hj, ?_⟩
    rw [vA_get (by simpa using hj), List.getElem_map, e2]; omega
  · intro ha h2
    obtain ⟨j, hj, hp⟩ := any_iN.1 h2
    rw [List.length_map] at hj
    rw [vA_get (by simpa using hj), List.getElem_map] at hp
    have := ha _ (List.getElem_mem hj)
    rw [decide_eq_true_eq] at this; omega
theorem fit_zero (x : Nat) : fitB 0 x = true ∧ fitB x 0 = true := by unfold fitB; simp
theorem all_conf {t : List Nd} {n : Nat} {l : List Nat} (hn : t.length = n) (hok : TreeOk t) (hx : ∀ k, k < l.length → vA l k < 2 ^ (lvT t).length) (h : allF t l l.length = true) : confE l = none := by
  unfold allF at h
  rw [List.take_length, List.all_eq_true] at h
  have key : ∀ k, k < l.length → vA l k = 0 ∨ ∃ u, u < n ∧ cl t u = vA l k := fun k hk => by
    by_cases e : vA l k = 0
    · exact .inl e
    · have := h (vA l k) (by rw [vA_get hk]; exact List.getElem_mem hk)
      rw [decide_eq_true_eq] at this
      exact .inr (node_of_loss hn hok (hx k hk) e this)
  refine conf_fit fun i j hij hj => ?_
  rcases key i (by omega) with e | ⟨u, hu, e⟩
  · rw [e]; exact (fit_zero _).1
  · rcases key j hj with e2 | ⟨v, hv, e2⟩
    · rw [e2]; exact (fit_zero _).2
    · rw [← e, ← e2]; exact cl_fit hn hok hu hv
end Go.Proofs.YtkdehkkkbfackaaGreatDoor
namespace Go.Proofs.YtkdehkkkbfackaaGreatDoor
open Go Go.RowKit Go.Shelf
theorem tok_size {t : List Nd} {n : Nat} (hn : t.length = n) (hok : TreeOk t) : ∀ v, v < n → (nS t v).size ≤ 9223372036854775807 := fun v hv => by
  have h := (hok.2.2 v (by omega)).2.2.1
  unfold nmB at h
  rw [Bool.and_eq_true, decide_eq_true_eq] at h
  omega
theorem owns_cap3 {w : World} {base e k n cap : Nat} {a : Option Addr} {cs : List Value} (h : w.ownsRow base e k (.slice a n cap) n cs) : n ≤ cap ∧ cap ≤ 9223372036854775807 := by
  rcases h.2 with ⟨hv, hn⟩ | ⟨g, cap', cur, hv, hg, hh, hn, hm, _⟩
  · cases hv; exact ⟨by omega, by omega⟩
  · cases hv; exact ⟨hn, by unfold maxLen at hm; omega⟩
theorem allF_true {t : List Nd} {l : List Nat} (h : ∀ x, x ∈ l → lossN t x = 0) : allF t l l.length = true := by
  unfold allF
  rw [List.take_length, List.all_eq_true]
  intro x hx
  rw [decide_eq_true_eq]; exact h x hx
theorem bdE_zero {L : Int} {l : List Nat} (h : bdE L l = 0) : chkT L l = 0 ∧ L ≠ 0 := by
  unfold bdE at h
  by_cases q : chkT L l = 0
  · rw [if_neg (fun h => h q)] at h
    by_cases e : L = 0
    · rw [if_pos e] at h; omega
    · exact ⟨q, e⟩
  · rw [if_pos q] at h; exact absurd h q
theorem bdB_of {L : Int} {l : List Nat} (h : bdE L l = 0) : bdB L l = (confE l).isNone := by
  obtain ⟨h1, h2⟩ := bdE_zero h
  unfold bdB
  rw [decide_eq_true h1, decide_eq_false h2]; rfl
theorem bdB_bad {L : Int} {l : List Nat} (h : bdE L l ≠ 0) : bdB L l = false := by
  unfold bdB
  by_cases q : chkT L l = 0
  · by_cases e : L = 0
    · rw [decide_eq_true e]; simp
    · exfalso; apply h; unfold bdE; rw [if_neg (fun h => h q), if_neg e]
  · rw [decide_eq_false q]; rfl
end Go.Proofs.YtkdehkkkbfackaaGreatDoor
namespace Go.Proofs.YtkdehkkkbfackaaGreatDoor
open Go Go.RowKit Go.Maps
theorem lawU : Keyed Tryz.prog 35 := int_keyed Tryz.underlying35
/-- A number as a key. -/
def kU (x : Nat) : Lit := .int .u64 (x : Int)
theorem kU_inj {x y : Nat} (h : kU x = kU y) : x = y := by
  unfold kU at h
  injection h with _ h
  omega
theorem kU_key {x : Nat} (hx : x < 18446744073709551616) : keyOf Tryz.prog 35 (.int .u64 (x : Int)) = some (kU x) := keyOf_int_mk Tryz.underlying35 (by simp [Lit.wf, IntKind.min, IntKind.max, IntKind.bits, IntKind.signed]; omega)
/-- Block b is a set that holds S. -/
structure MU (w : World) (b n : Nat) (S : List Nat) : Prop where
  ex : ∃ D : DataW Unit, w.ownsMap Tryz.prog 35 unitElem b n D ∧ (∀ x : Nat, has D (kU x) = decide (x ∈ S)) ∧ Maps.size D = S.length
  nd : S.Nodup
  lt : ∀ x, x ∈ S → x < 18446744073709551616
theorem MU.made (w : World) : MU (w.alloc (.map #[] 0)) w.heap.size 0 [] := ⟨⟨_, World.ownsMap_made w _ _ _, fun _ => rfl, rfl⟩, List.nodup_nil, fun x h => absurd h (by simp)⟩
theorem MU.kept {w w' : World} {b n : Nat} {S : List Nat} {row : Option Nat} (h : MU w b n S) (hg : w.grownBy w' row) (hne : some b ≠ row) : MU w' b n S := let ⟨D, h1, h2, h3⟩ := h.ex; ⟨⟨D, h1.kept hg hne, h2, h3⟩, h.nd, h.lt⟩
theorem MU.alloc {w : World} {b n : Nat} {S : List Nat} (h : MU w b n S) (o : Obj) : MU (w.alloc o) b n S := let ⟨D, h1, h2, h3⟩ := h.ex; ⟨⟨D, h1.alloc o, h2, h3⟩, h.nd, h.lt⟩
theorem MU.mono {w : World} {b n n' : Nat} {S : List Nat} (h : MU w b n S) (hn : n ≤ n') : MU w b n' S := let ⟨D, h1, h2, h3⟩ := h.ex; ⟨⟨D, h1.mono hn, h2, h3⟩, h.nd, h.lt⟩
theorem MU.blk {w : World} {b n : Nat} {S : List Nat} (h : MU w b n S) : ∃ es c, w.heap[b]? = some (.map es c) := let ⟨_, ⟨es, c, h1, _⟩, _⟩ := h.ex; ⟨es, c, h1⟩
theorem MU.blt {w : World} {b n : Nat} {S : List Nat} (h : MU w b n S) : b < w.heap.size := let ⟨_, _, e⟩ := h.blk; (Array.getElem?_eq_some_iff.1 e).1
theorem MU.at {w w' : World} {b n : Nat} {S : List Nat} (h : MU w b n S) (he : w'.heap[b]? = w.heap[b]?) : MU w' b n S := by
  obtain ⟨D, ⟨es, clock, h1, h2⟩, h3, h4⟩ := h.ex
  exact ⟨⟨D, ⟨es, clock, he.trans h1, h2⟩, h3, h4⟩, h.nd, h.lt⟩
theorem MU.bl {w w' : World} {b n : Nat} {S : List Nat} (h : MU w b n S) (hb : Below w.heap.size w w') : MU w' b n S := h.at (hb.block b h.blt)
theorem MU.set {w : World} {b n : Nat} {S : List Nat} (h : MU w b n S) (a : Addr) (v : Value) : MU (w.setCell a v) b n S := by
  obtain ⟨es, c, hb⟩ := h.blk
  refine h.at ?_
  by_cases e : b = a.block
  · subst e
    rw [hb]
    show (w.heap.modify a.block _)[a.block]? = _
    rw [Array.getElem?_modify, if_pos rfl, hb]; rfl
  · exact Below.heap_setCell w a v b e
theorem MU.le {w : World} {b n : Nat} {S : List Nat} (h : MU w b n S) : S.length ≤ n := by
  obtain ⟨D, h1, _, h3⟩ := h.ex
  rw [← h3]; exact h1.size_le
theorem zeroT (w : World) : (zeroValue 108).run Tryz.prog w = .ok (.agg #[]) w := by kernel_rfl
theorem MU.ask {w : World} {b n : Nat} {S : List Nat} (h : MU w b n S) (x : Nat) (hx : x < 18446744073709551616) : (Instr.lookup 74 (.map (some b)) (.int .u64 (x : Int)) true).run Tryz.prog w = .ok (.tuple #[.agg #[], .bool (decide (x ∈ S))]) w := by
  obtain ⟨D, h1, h2, _⟩ := h.ex
  obtain ⟨v, ps, hrun, hv⟩ := h1.look_ok lawU Tryz.underlying74 (zeroT w) (unitElem_mk) (kU_key hx)
  obtain ⟨rfl, _⟩ := unitElem_inv hv
  rw [← h2 x]; exact hrun
theorem MU.len {w : World} {b n : Nat} {S : List Nat} (h : MU w b n S) (ty : TypeId) : (Builtin.len_ #[74] ty #[.map (some b)]).run Tryz.prog w = .ok (.int .i64 (S.length : Int)) w := by
  obtain ⟨D, h1, _, h3⟩ := h.ex
  rw [← h3]; exact h1.len Tryz.underlying74 ty
/-- A set with one more. -/
def addU (S : List Nat) (x : Nat) : List Nat := if x ∈ S then S else S ++ [x]
theorem addU_mem (S : List Nat) (x y : Nat) : y ∈ addU S x ↔ y ∈ S ∨ y = x := by
  unfold addU
  by_cases h : x ∈ S
  · rw [if_pos h]
    exact ⟨.inl, fun h2 => by rcases h2 with h2 | h2; exact h2; rw [h2]; exact h⟩
  · rw [if_neg h]; simp
theorem addU_nd {S : List Nat} (h : S.Nodup) (x : Nat) : (addU S x).Nodup := by
  unfold addU
  by_cases q : x ∈ S
  · rw [if_pos q]; exact h
  · rw [if_neg q, List.nodup_append]
    exact ⟨h, by simp, fun a ha b hb e => by rw [List.mem_singleton.1 hb] at e; rw [e] at ha; exact q ha⟩
theorem MU.put_of {w w' : World} {b n x : Nat} {S : List Nat} {D : DataW Unit} (h : MU w b n S) (hx : x < 18446744073709551616) (hD : w.ownsMap Tryz.prog 35 unitElem b n D) (h2 : ∀ x : Nat, has D (kU x) = decide (x ∈ S)) (h3 : Maps.size D = S.length) (hD' : w'.ownsMap Tryz.prog 35 unitElem b (n + 1) (D.put (kU x) (.agg []))) : MU w' b (n + 1) (addU S x) := by
  refine ⟨⟨_, hD', fun y => ?_, ?_⟩, addU_nd h.nd x, fun y hy => ?_⟩
  · rw [Bool.eq_iff_iff, decide_eq_true_eq, addU_mem]
    by_cases e : y = x
    · subst e
      rw [has_put_same hD.isMap (lawU.key (kU_key hx)) _]
      simp
    · rw [has_put_other (fun e2 => e (kU_inj e2)), h2, decide_eq_true_eq]
      exact ⟨.inl, fun q => q.resolve_right e⟩
  · rw [size_put (hD.tidy lawU), h2, h3]
    unfold addU
    by_cases q : x ∈ S
    · rw [if_pos q, if_pos (by simpa using q)]
    · rw [if_neg q, if_neg (by simpa using q)]; simp
  · rcases (addU_mem S x y).1 hy with q | q
    · exact h.lt y q
    · rw [q]; exact hx
theorem wpList_putU {w : World} {ops : Array Oper} {rest : List Oper} {o : Oper} {a : Act} {Q : Exit → Act → World → Prop} (hg : o.guard = none) (m x v : Operand) (hop : o.op = Op.mapUpdate 74 m x v) (b n : Nat) (S : List Nat) (hm : a.eval m = .map (some b)) (h : MU w b n S) (hn : n < 1152921504606846976)
    (z : Nat) (hx : a.eval x = .int .u64 (z : Int)) (hv : a.eval v = .agg #[]) (hz : z < 18446744073709551616) (hK : ∀ w', MU w' b (n + 1) (addU S z) → w.grownBy w' (some b) → wpList Tryz.prog ops Q rest (a.put o.dst undef) w') : wpList Tryz.prog ops Q (o :: rest) a w := by
  obtain ⟨D, h1, h2, h3⟩ := h.ex
  refine wpList_mapUpdate_own w hg m x v 74 hop 35 108 lawU Tryz.underlying74 _ b n D hm h1 (by unfold maxLen; omega) _ _ _ hx hv (kU_key hz) _ [] unitElem_mk fun w' h5 h4 => hK w' (h.put_of hz h1 h2 h3 h5) h4
theorem wpListIn_putU {F : Fence} {d : Nat} {w : World} {ops : Array Oper} {rest : List Oper} {o : Oper} {a : Act} {Q : Exit → Act → World → Prop} (hg : o.guard = none) (m x v : Operand) (hop : o.op = Op.mapUpdate 74 m x v) (b n : Nat) (S : List Nat) (hm : a.eval m = .map (some b)) (h : MU w b n S) (hn : n < 1152921504606846976)
    (z : Nat) (hx : a.eval x = .int .u64 (z : Int)) (hv : a.eval v = .agg #[]) (hz : z < 18446744073709551616) (hK : ∀ w', MU w' b (n + 1) (addU S z) → w.grownBy w' (some b) → wpListIn F d Tryz.prog ops Q rest (a.put o.dst undef) w') : wpListIn F d Tryz.prog ops Q (o :: rest) a w := by
  obtain ⟨D, h1, h2, h3⟩ := h.ex
  refine wpListIn_mapUpdate_own w hg m x v 74 hop 35 108 lawU Tryz.underlying74 _ b n D hm h1 (by unfold maxLen; omega) _ _ _ hx hv (kU_key hz) _ [] unitElem_mk fun w' h5 h4 => hK w' (h.put_of hz h1 h2 h3 h5) h4
end Go.Proofs.YtkdehkkkbfackaaGreatDoor
namespace Go.Proofs.YtkdehkkkbfackaaGreatDoor
theorem sorted_ext4 {α : Type} {R : α → α → Prop} (irr : ∀ x, ¬ R x x) (asy : ∀ x y, R x y → R y x → False) {l m : List α} (hl : l.Pairwise R) (hm : m.Pairwise R) (h : ∀ x, x ∈ l ↔ x ∈ m) : l = m := by
  have nl : l.Nodup := hl.imp (fun {a b} h e => by subst e; exact irr _ h)
  have nm : m.Nodup := hm.imp (fun {a b} h e => by subst e; exact irr _ h)
  exact List.Perm.eq_of_pairwise (fun a b _ _ h1 h2 => (asy a b h1 h2).elim) hl hm ((List.perm_ext_iff_of_nodup nl nm).2 h)
theorem bit_of_ne4 {x : Nat} (h : x ≠ 0) : ∃ k, x.testBit k = true := by
  refine Classical.byContradiction fun hn => h ?_
  apply Nat.eq_of_testBit_eq
  intro k
  rw [Nat.zero_testBit]
  cases hb : x.testBit k with
  | false => rfl
  | true => exact absurd ⟨k, hb⟩ hn
theorem bit_lt4 {x k m : Nat} (hx : x < 2 ^ m) (h : x.testBit k = true) : k < m := by
  rcases Nat.lt_or_ge k m with q | q
  · exact q
  · have hp : 2 ^ m ≤ 2 ^ k := Nat.pow_le_pow_right (by omega) q
    rw [Nat.testBit_lt_two_pow (by omega)] at h; cases h
/-- What lies below has fewer leaves. -/
theorem sub_bit4 {a b k : Nat} (h : a &&& b = b) (hb : b.testBit k = true) : a.testBit k = true := by
  have := congrArg (fun y => y.testBit k) h
  simp only [Nat.testBit_and, hb, Bool.and_true] at this
  exact this
/-- Two nodes with a common leaf: the one with the smaller number is above. -/
theorem and_bit4 {a b : Nat} (h : a &&& b ≠ 0) : ∃ k, a.testBit k = true ∧ b.testBit k = true := by
  obtain ⟨k, hk⟩ := bit_of_ne4 h
  rw [Nat.testBit_and, Bool.and_eq_true] at hk
  exact ⟨k, hk⟩
/-- The sets of two nodes fit. -/
theorem cnt_mono4 {a b : Nat} (h : ∀ i, a.testBit i = true → b.testBit i = true) : ∀ n, cntB a n ≤ cntB b n ∧ (cntB b n ≤ cntB a n → ∀ i, i < n → b.testBit i = true → a.testBit i = true) := by
  intro n
  induction n with
  | zero => exact ⟨Nat.le_refl _, fun _ i hi => by omega⟩
  | succ n ih =>
    obtain ⟨h1, h2⟩ := ih
    unfold cntB
    cases ha : a.testBit n with
    | true =>
      rw [h n ha]
      refine ⟨by simp; exact h1, fun hle i hi hb => ?_⟩
      by_cases e : i = n
      · subst e; exact ha
      · exact h2 (by simp at hle; exact hle) i (by omega) hb
    | false =>
      cases hb : b.testBit n with
      | true => exact ⟨by simp; omega, fun hle => by simp at hle; omega⟩
      | false =>
        refine ⟨by simp; exact h1, fun hle i hi hb2 => ?_⟩
        by_cases e : i = n
        · subst e; rw [hb] at hb2; cases hb2
        · exact h2 (by simp at hle; exact hle) i (by omega) hb2
theorem sub_eq4 {a b : Nat} (ha : a < 2 ^ 64) (hb : b < 2 ^ 64) (h : b &&& a = a) (hc : cntB b 64 ≤ cntB a 64) : a = b := by
  have hs : ∀ i, a.testBit i = true → b.testBit i = true := fun i hi => sub_bit4 h hi
  have hk := (cnt_mono4 hs 64).2 hc
  apply Nat.eq_of_testBit_eq
  intro i
  cases hbi : b.testBit i with
  | true => exact hk i (bit_lt4 hb hbi) hbi
  | false =>
    cases hai : a.testBit i with
    | true => rw [hs i hai] at hbi; cases hbi
    | false => rfl
theorem sub_trans4 {a b c : Nat} (h1 : a &&& b = b) (h2 : b &&& c = c) : a &&& c = c := by
  rw [← h2, ← Nat.and_assoc, h1]
theorem sub_ne4 {a b c : Nat} (hc : c ≠ 0) (h1 : a &&& c = c) (h2 : b &&& c = c) : a &&& b ≠ 0 := by
  intro h
  obtain ⟨k, hk⟩ := bit_of_ne4 hc
  have := congrArg (fun y => y.testBit k) h
  simp only [Nat.testBit_and, sub_bit4 h1 hk, sub_bit4 h2 hk, Nat.zero_testBit, Bool.and_self] at this
  cases this
theorem sub_all4 {L x : Nat} (hx : x < 2 ^ L) : (2 ^ L - 1) &&& x = x := by
  apply Nat.eq_of_testBit_eq
  intro k
  rw [Nat.testBit_and, Nat.testBit_two_pow_sub_one]
  cases hb : x.testBit k with
  | true => rw [decide_eq_true (bit_lt4 hx hb)]; rfl
  | false => simp
/-- The node above. -/
theorem one_sub4 {x k : Nat} (h : x.testBit k = true) : x &&& 2 ^ k = 2 ^ k := by
  apply Nat.eq_of_testBit_eq
  intro i
  rw [Nat.testBit_and, Nat.testBit_two_pow]
  by_cases e : k = i
  · subst e; rw [h]; simp
  · rw [decide_eq_false e, Bool.and_false]
theorem sub_one4 {x k : Nat} (h : x &&& 2 ^ k = 2 ^ k) : x.testBit k = true := sub_bit4 h (Nat.testBit_two_pow_self)
end Go.Proofs.YtkdehkkkbfackaaGreatDoor
