/- tree.Leaves; phylo.check. -/
import Derived.Test.YtnabbmdhhddfbaaDoorC1
namespace Go.Proofs.YtnabbmdhhddfbaaDoor
open Go.RowKit
/-- Node v is a leaf. -/
def leafB (t : List Nd) (v : Nat) : Bool := (famL t t.length v).isEmpty
def lvsL (t : List Nd) (k : Nat) : List Nat := (List.range k).filter (leafB t)
theorem lvsL_snoc (t : List Nd) (k : Nat) : lvsL t (k + 1) = lvsL t k ++ (if leafB t k then [k] else []) := by
  unfold lvsL
  rw [List.range_succ, List.filter_append]
  congr 1
  by_cases q : leafB t k <;> simp [q]
theorem lvsL_le (t : List Nd) (k : Nat) : (lvsL t k).length ≤ k := by
  have := List.length_filter_le (leafB t) (List.range k)
  simpa [lvsL] using this
theorem leafB_len (t : List Nd) (v : Nat) : leafB t v = decide ((famL t t.length v).length = 0) := by
  unfold leafB
  cases famL t t.length v <;> rfl
set_option maxRecDepth 100000 in
set_option maxHeartbeats 4000000 in
theorem leaves_any (a : Option Addr) (n c : Nat) (t : List Nd) (w : World) (hn : t.length = n) (hN : n ≤ 64) (hA : Rd w a (fl encNd t)) (hP : ∀ v, 0 < v → v < n → 0 ≤ nP t v ∧ nP t v < n) :
    Calls Tryd.prog 58 #[.slice a n c] w fun e w' => ∃ v, e = .returned v ∧ w'.ownsRow w.heap.size 3 1 v (lvsL t n).length (fl encI (iN (lvsL t n))) ∧ Below w.heap.size w w' := by
  have HC := Lib.hid (families_any a n c t w hn hN hA hP)
  have HLB : Hid (∀ v, leafB t v = decide ((famL t n v).length = 0)) := fun v => by rw [← hn]; exact leafB_len t v
  have hle := fun v => famL_le t n v
  have HLE := Lib.hid hle
  clear hn hA hP hle
  go_enter Tryd.func58, Tryd.ntmps58
  go_wp2_with fail
  refine HC.out.mono ?_
  rintro e w1 ⟨g, rs, rfl, hF, hb⟩
  have HF := Lib.hid hF
  have HB := Lib.hid hb
  clear hF hb HC
  go_wp2_with fail
  go_loopw [9, 3] (fun x v wr => ∃ k : Nat, k ≤ n ∧ x = .int .i64 k ∧ Hid (wr.ownsRow w1.heap.size 3 1 v (lvsL t k).length (fl encI (iN (lvsL t k)))) ∧ Hid (Below w1.heap.size w1 wr)) (fun x _ _ => n - (intOf x).toNat)
  case atStart => exact ⟨0, by omega, rfl, World.ownsRow_nil _ _ _ _, Below.refl _ _⟩
  case round =>
    obtain ⟨k, hk, rfl, how, hbl⟩ := hrel
    by_cases hlt : k < n
    · have G := (HF.out.bl hbl.out).cell hlt
      have hlen := HF.out.len k hlt
      obtain ⟨⟨A, m, cp⟩, hx⟩ : ∃ x, x = rs k := ⟨_, rfl⟩
      rw [← hx] at G hlen
      have G' : wr.cell? ⟨g, k, none⟩ = some (.slice A m cp) := G
      have hm : m = (famL t n k).length := hlen
      have hsn := Lib.hid (lvsL_snoc t k)
      have hlb := HLB.out k
      rw [← hm] at hlb
      have HLB2 := Lib.hid hlb
      have hm64 : m ≤ 64 := by have := HLE.out k; omega
      clear G hlen hx hm hlb
      by_cases h0 : m = 0
      · have hs : Hid (lvsL t (k + 1) = lvsL t k ++ [k]) := by show _ = _; rw [hsn.out, HLB2.out, decide_eq_true h0]; rfl
        have t1 : ((m : Int) == 0) = true := by simp [h0]
        have t2 : decide ((m : Int) = 0) = true := by simp [h0]
        have t3 : decide (m = 0) = true := by simp [h0]
        have t4 : (m == 0) = true := by simp [h0]
        have hl2 := lvsL_le t k
        obtain ⟨q, hq⟩ : ∃ q, q = (lvsL t k).length := ⟨_, rfl⟩
        have HQ := Lib.hid hq
        rw [← hq] at how hl2
        clear h0 hsn HLB2 hq
        have hbase : w1.heap.size ≤ (wr.alloc (.cells #[.int .i64 k] 3)).heap.size := (bl_alloc hbl.out _).size
        go_wp2_with (at_builtin; refine push_I rfl (.tmp 17) (.tmp 19) rfl w1.heap.size u3 (iN (lvsL t k)) q (by rw [iN_len]; exact HQ.out) rfl (how.out.alloc _) _ _ (k : Int) rfl (Blk.new _ _ _) (by omega) hbase ?_; intro g2 cap w8 h81 h82 h83 h84; rw [← iN_snoc, ← hs.out] at h81; have H81 := Lib.hid h81; have H82 := Lib.hid h82; clear h81 h82 h83)
        have hlen2 : Hid ((lvsL t (k + 1)).length = q + 1) := by show _ = _; rw [hs.out, List.length_append, HQ.out]; rfl
        have HB8 := Lib.hid (bl_grown (bl_alloc hbl.out (.cells #[.int .i64 k] 3)) H82.out (fun x e => (how.out.lt x e).1))
        go_roundw
        case rel => exact ⟨k + 1, by omega, by go_num, by rw [hlen2.out]; exact H81, HB8⟩
        case measure => simp [intOf]; omega
      · have hs : Hid (lvsL t (k + 1) = lvsL t k) := by show _ = _; rw [hsn.out, HLB2.out, decide_eq_false h0]; simp
        have t1 : ((m : Int) == 0) = false := by simp; omega
        have t2 : decide ((m : Int) = 0) = false := by simp; omega
        have t3 : decide (m = 0) = false := by simp; omega
        have t4 : (m == 0) = false := by simp; omega
        clear h0 hsn HLB2
        go_wp2_with fail
        go_roundw
        case rel => exact ⟨k + 1, by omega, by go_num, by rw [hs.out]; exact how, hbl⟩
        case measure => simp [intOf]; omega
    · obtain rfl : k = n := by omega
      go_wp2_with fail
      go_ret
      exact ⟨_, rfl, owns_mono how.out HB.out.size, bl_trans HB.out hbl.out⟩
/-- The parents of a valid tree. -/
theorem tree_par {t : List Nd} (h : TreeOk t) : ∀ v, 0 < v → v < t.length → 0 ≤ nP t v ∧ nP t v < v := by
  intro v h0 hv
  obtain ⟨h1, h2, _⟩ := h.2.2 v hv
  rw [if_neg (by omega)] at h2
  exact ⟨h2, h1⟩
theorem chk_tree {t : List Nd} (h : chkE t = 0) : TreeOk t := by
  unfold chkE at h
  by_cases q : TreeOk t
  · exact q
  · rw [if_neg q] at h; omega
theorem chk_tree' {t : List Nd} (h : chkE t ≠ 0) : chkE t = 16 ∧ ¬ TreeOk t := by
  unfold chkE at *
  by_cases q : TreeOk t
  · rw [if_pos q] at h; omega
  · rw [if_neg q]; exact ⟨rfl, q⟩
/-- The leaves that tree.Leaves answers. -/
def lvT (t : List Nd) : List Nat := if chkE t = 0 then lvsL t t.length else []
set_option maxRecDepth 100000 in
set_option maxHeartbeats 4000000 in
theorem Leaves_any (a : Option Addr) (n c : Nat) (t : List Nd) (w : World) (hn : t.length = n) (hN : n ≤ 1152921504606846976) (hA : Rd w a (fl encNd t)) (hS : ∀ v, v < n → (nS t v).size ≤ 9223372036854775807) :
    Calls Tryd.prog 32 #[.slice a n c] w fun e w' => ∃ v, e = .returned (.tuple #[v, .int .i64 (chkE t)]) ∧ w'.ownsRow w.heap.size 3 1 v (lvT t).length (fl encI (iN (lvT t))) ∧ Below w.heap.size w w' := by
  have HC := Lib.hid (check_any a n c t w hn hN hA hS)
  have HN := Lib.hid hn
  have HA := Lib.hid hA
  clear hn hA hS
  go_enter Tryd.func32, Tryd.ntmps32
  go_wp2_with fail
  refine HC.out.mono ?_
  rintro e w1 ⟨rfl, hb⟩
  have HB := Lib.hid hb
  clear hb HC
  by_cases h0 : chkE t = 0
  · have hok := chk_tree h0
    have HL : Hid (lvT t = lvsL t n) := by show _ = _; unfold lvT; rw [if_pos h0, HN.out]
    have HC2 := Lib.hid (leaves_any a n c t w1 HN.out (by have := hok.2.1; have := HN.out; omega) (HA.out.bl HB.out) (fun v h1 h2 => by
      have := tree_par hok v h1 (by rw [HN.out]; exact h2)
      omega))
    have HE := Lib.hid h0
    rw [h0]
    clear hok h0
    go_wp2_with fail
    refine HC2.out.mono ?_
    rintro e w2 ⟨v, rfl, ho, hb2⟩
    obtain ⟨A, cp, rfl, _⟩ := owns_slice ho
    have HO := Lib.hid (owns_mono ho HB.out.size)
    have HB2 := Lib.hid (bl_trans HB.out hb2)
    obtain ⟨q, hq⟩ : ∃ q, q = (lvsL t n).length := ⟨_, rfl⟩
    rw [← hq] at HO ⊢
    have HQ := Lib.hid hq
    clear ho hb2 hq
    go_wp2_with fail
    exact bodyPost_ret (v := .tuple #[.slice A q cp, .int .i64 0]) (by simp [results, Tryd.results32, go_sem]) rfl ⟨_, by rw [HE.out], by rw [HL.out, ← HQ.out]; exact HO.out, HB2.out⟩
  · have HL : Hid (lvT t = []) := by show _ = _; unfold lvT; rw [if_neg h0]
    have h16 := (chk_tree' h0).1
    have HE := Lib.hid h16
    rw [h16]
    clear h0 h16
    go_wp2_with fail
    exact bodyPost_ret (v := .tuple #[.slice none 0 0, .int .i64 16]) (by simp [results, Tryd.results32, go_sem]) rfl ⟨_, by rw [HE.out], by rw [HL.out]; exact World.ownsRow_nil _ _ _ _, HB.out⟩
/-- Why a table or a tree is not valid, or both do not fit each other. -/
def chkP (L : Int) (l : List Nat) (t : List Nd) : Int := if chkT L l ≠ 0 then chkT L l else if chkE t ≠ 0 then chkE t else if ((lvT t).length : Int) = L then 0 else 2
set_option maxRecDepth 100000 in
set_option maxHeartbeats 4000000 in
theorem pcheck_any (L : Int) (a : Option Addr) (N c : Nat) (l : List Nat) (b : Option Addr) (n d : Nat) (t : List Nd) (w : World) (hl : l.length = N) (hN : N ≤ 1152921504606846976) (hA : Rd w a (fl encV l)) (hF : FitV l)
    (ht : t.length = n) (hn : n ≤ 1152921504606846976) (hB : Rd w b (fl encNd t)) (hS : ∀ v, v < n → (nS t v).size ≤ 9223372036854775807) :
    Calls Tryd.prog 49 #[.agg #[.int .i64 L, .slice a N c], .slice b n d] w fun e w' => e = .returned (.int .i64 (chkP L l t)) ∧ Below w.heap.size w w' := by
  have hb0 := bl_alloc (Below.refl _ w) (.cells #[.int .i64 L, .slice a N c] 24)
  have hX := Blk.new w #[.int .i64 L, .slice a N c] 24
  have HC := Lib.hid (tchk_any L a N c l (w.alloc (.cells #[.int .i64 L, .slice a N c] 24)) hl hN (hA.bl hb0) hF)
  have HB := Lib.hid (hB.bl hb0)
  have HT := Lib.hid ht
  have HS := Lib.hid hS
  clear hl hA hF hB ht hS
  go_enter Tryd.func49, Tryd.ntmps49
  go_wp2_with fail
  refine HC.out.mono ?_
  rintro e w2 ⟨rfl, hb2⟩
  have HB2 := Lib.hid (bl_trans hb0 hb2)
  have HX2 := Lib.hid (hX.below hb2)
  have HR2 := Lib.hid (HB.out.bl hb2)
  clear hb0 hb2 hX HC HB
  by_cases h0 : chkT L l = 0
  · have HE : Hid (chkP L l t = if chkE t ≠ 0 then chkE t else if ((lvT t).length : Int) = L then 0 else 2) := if_neg (fun h => h h0)
    have HC2 := Lib.hid (Leaves_any b n d t w2 HT.out hn HR2.out HS.out)
    rw [h0]
    clear h0
    go_wp2_with fail
    refine HC2.out.mono ?_
    rintro e w3 ⟨v, rfl, ho, hb3⟩
    obtain ⟨A, cp, rfl, _⟩ := owns_slice ho
    have HB3 := Lib.hid (bl_trans HB2.out hb3)
    have hx3 := HX2.out.below hb3
    obtain ⟨X, hXe⟩ : ∃ x, x = w.heap.size := ⟨_, rfl⟩
    rw [← hXe] at hx3 ⊢
    have c0 : w3.cell? ⟨X, 0, none⟩ = some (.int .i64 L) := hx3.cell 0
    obtain ⟨q, hq⟩ : ∃ q, q = (lvT t).length := ⟨_, rfl⟩
    rw [← hq] at HE ⊢
    have hq63 : q ≤ 9223372036854775807 := by
      rcases ho.2 with ⟨_, e⟩ | ⟨g, cp2, cur, e1, _, _, e2, e3, _⟩
      · omega
      · unfold maxLen at e3; omega
    clear ho hb3 hx3 hq hXe HC2
    by_cases h1 : chkE t = 0
    · rw [h1] at HE ⊢
      by_cases h2 : (q : Int) = L
      · have hv : Hid (chkP L l t = 0) := by show _ = _; rw [HE.out, if_neg (by simp), if_pos h2]
        have t1 : ((q : Int) != L) = false := by simp [h2]
        have t2 : decide ((q : Int) = L) = true := by simp [h2]
        have t3 : ((q : Int) == L) = true := by simp [h2]
        clear HE h1 h2
        go_wp2_with fail
        go_ret
        exact ⟨by rw [hv.out]; rfl, HB3.out⟩
      · have hv : Hid (chkP L l t = 2) := by show _ = _; rw [HE.out, if_neg (by simp), if_neg h2]
        have t1 : ((q : Int) != L) = true := by simp [h2]
        have t2 : decide ((q : Int) = L) = false := by simp [h2]
        have t3 : ((q : Int) == L) = false := by simp [h2]
        clear HE h1 h2
        go_wp2_with fail
        go_ret
        exact ⟨by rw [hv.out]; rfl, HB3.out⟩
    · have h16 := (chk_tree' h1).1
      have hv : Hid (chkP L l t = 16) := by show _ = _; rw [HE.out, if_pos h1, h16]
      rw [h16]
      clear HE h1 h16
      go_wp2_with fail
      go_ret
      exact ⟨by rw [hv.out]; rfl, HB3.out⟩
  · have hE : Hid (chkP L l t = chkT L l) := if_pos h0
    obtain ⟨E, hEE⟩ : ∃ E, chkT L l = E := ⟨_, rfl⟩
    rw [hEE] at hE h0 ⊢
    have d0 : (E == 0) = false := by simp [h0]
    have d1 : (E != 0) = true := by simp [h0]
    clear hEE h0
    go_wp2_with fail
    go_ret
    exact ⟨by rw [hE.out]; rfl, HB2.out⟩
end Go.Proofs.YtnabbmdhhddfbaaDoor
