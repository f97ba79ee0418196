/- pars.check. pars.Lengths, pars.Length. The numbered tree is a tree, and binary; its leaves are the last nodes (plain). The neighbours of a binary tree (plain). A numbered tree is a neighbour of its neighbours; how many neighbours there are (plain). pars.children: the children of all nodes. pars.Binary. A range over an iterator whose elements stand in memory (no program in sight). pars.neighbours: an exchange of two children; plain laws, and the test of the sibling. pars.neighbours: the iterator gives the neighbours, one after the other. slices.AppendSeq onto nil, slices.Collect over an iterator of trees in blocks of their own. -/
import Derived.Test.YtjmnakkkimgifaaGreatDoorZB
import Derived.Test.YtjmnakkkimgifaaGreatDoorZC
import Derived.Test.YtjmnakkkimgifaaGreatDoorZA
namespace Go.Proofs.YtjmnakkkimgifaaGreatDoor
open Go Go.RowKit Go.Shelf
set_option maxRecDepth 100000 in
set_option maxHeartbeats 4000000 in
theorem pscheck_any (L : Int) (a : Option Addr) (N c : Nat) (l : List Nat) (b : Option Addr) (n d : Nat) (t : List Nd) (w : World) (hl : l.length = N) (hN : N ≤ 1152921504606846976) (hA : Rd w a (fl encV l)) (hF : FitV l)
    (ht : t.length = n) (hn : n ≤ 1152921504606846976) (hB : Rd w b (fl encNd t)) (hS : ∀ v, v < n → (nS t v).size ≤ 9223372036854775807) :
    Calls Tryz.prog 31 #[.agg #[.int .i64 L, .slice a N c], .slice b n d] w fun e w' => e = .returned (.int .i64 (chkP L l t)) ∧ Below w.heap.size w w' := by
  have hb0 := bl_alloc (Below.refl _ w) (.cells #[.int .i64 L, .slice a N c] 24)
  have hX := Blk.new w #[.int .i64 L, .slice a N c] 24
  have HC := Lib.hid (tchk_any L a N c l (w.alloc (.cells #[.int .i64 L, .slice a N c] 24)) hl hN (hA.bl hb0) hF)
  have HB := Lib.hid (hB.bl hb0)
  have HT := Lib.hid ht
  have HS := Lib.hid hS
  clear hl hA hF hB ht hS
  go_enter Tryz.func31, Tryz.ntmps31
  go_wp2_with fail
  refine HC.out.mono ?_
  rintro e w2 ⟨rfl, hb2⟩
  have HB2 := Lib.hid (bl_trans hb0 hb2)
  have HX2 := Lib.hid (hX.below hb2)
  have HR2 := Lib.hid (HB.out.bl hb2)
  clear hb0 hb2 hX HC HB
  by_cases h0 : chkT L l = 0
  · have HE : Hid (chkP L l t = if chkE t ≠ 0 then chkE t else if ((lvT t).length : Int) = L then 0 else 2) := if_neg (fun h => h h0)
    have HC2 := Lib.hid (Leaves_any b n d t w2 HT.out hn HR2.out HS.out)
    rw [h0]
    clear h0
    go_wp2_with fail
    refine HC2.out.mono ?_
    rintro e w3 ⟨v, rfl, ho, hb3⟩
    obtain ⟨A, cp, rfl, _⟩ := owns_slice ho
    have HB3 := Lib.hid (bl_trans HB2.out hb3)
    have hx3 := HX2.out.below hb3
    obtain ⟨X, hXe⟩ : ∃ x, x = w.heap.size := ⟨_, rfl⟩
    rw [← hXe] at hx3 ⊢
    have c0 : w3.cell? ⟨X, 0, none⟩ = some (.int .i64 L) := hx3.cell 0
    obtain ⟨q, hq⟩ : ∃ q, q = (lvT t).length := ⟨_, rfl⟩
    rw [← hq] at HE ⊢
    have hq63 : q ≤ 9223372036854775807 := by
      rcases ho.2 with ⟨_, e⟩ | ⟨g, cp2, cur, e1, _, _, e2, e3, _⟩
      · omega
      · unfold maxLen at e3; omega
    clear ho hb3 hx3 hq hXe HC2
    by_cases h1 : chkE t = 0
    · rw [h1] at HE ⊢
      by_cases h2 : (q : Int) = L
      · have hv : Hid (chkP L l t = 0) := by show _ = _; rw [HE.out, if_neg (by simp), if_pos h2]
        have t1 : ((q : Int) != L) = false := by simp [h2]
        have t2 : decide ((q : Int) = L) = true := by simp [h2]
        have t3 : ((q : Int) == L) = true := by simp [h2]
        clear HE h1 h2
        go_wp2_with fail
        go_ret
        exact ⟨by rw [hv.out]; rfl, HB3.out⟩
      · have hv : Hid (chkP L l t = 2) := by show _ = _; rw [HE.out, if_neg (by simp), if_neg h2]
        have t1 : ((q : Int) != L) = true := by simp [h2]
        have t2 : decide ((q : Int) = L) = false := by simp [h2]
        have t3 : ((q : Int) == L) = false := by simp [h2]
        clear HE h1 h2
        go_wp2_with fail
        go_ret
        exact ⟨by rw [hv.out]; rfl, HB3.out⟩
    · have h16 := (chk_tree' h1).1
      have hv : Hid (chkP L l t = 16) := by show _ = _; rw [HE.out, if_pos h1, h16]
      rw [h16]
      clear HE h1 h16
      go_wp2_with fail
      go_ret
      exact ⟨by rw [hv.out]; rfl, HB3.out⟩
  · have hE : Hid (chkP L l t = chkT L l) := if_pos h0
    obtain ⟨E, hEE⟩ : ∃ E, chkT L l = E := ⟨_, rfl⟩
    rw [hEE] at hE h0 ⊢
    have d0 : (E == 0) = false := by simp [h0]
    have d1 : (E != 0) = true := by simp [h0]
    clear hEE h0
    go_wp2_with fail
    go_ret
    exact ⟨by rw [hE.out]; rfl, HB2.out⟩
end Go.Proofs.YtjmnakkkimgifaaGreatDoor
namespace Go.Proofs.YtjmnakkkimgifaaGreatDoor
open Go Go.RowKit Go.Shelf
/-- How many changes each innovation needs. -/
def lenL (L : Int) (l : List Nat) (t : List Nd) : List Nat := if chkP L l t = 0 then l.map (chg t) else []
theorem chg_le32 {L : Int} {l : List Nat} {t : List Nd} (h : chkP L l t = 0) (x : Nat) : chg t x ≤ 32 := by
  obtain ⟨h1, h2, h3⟩ := chkP_ok h
  have hL : L ≤ 32 := by
    unfold chkT at h1
    by_cases q : L < 0 ∨ 32 < L
    · rw [if_pos q] at h1; omega
    · omega
  have := chg_le rfl h2 x true
  have := offK_le x true (lvT t).length
  omega
set_option maxRecDepth 100000 in
set_option maxHeartbeats 4000000 in
theorem lengths_any (L : Int) (a : Option Addr) (N c : Nat) (l : List Nat) (b : Option Addr) (n d : Nat) (t : List Nd) (w : World) (hl : l.length = N) (hN : N ≤ 1152921504606846976) (hA : Rd w a (fl encV l)) (hF : FitV l)
    (ht : t.length = n) (hn : n ≤ 1152921504606846976) (hB : Rd w b (fl encNd t)) (hS : ∀ v, v < n → (nS t v).size ≤ 9223372036854775807) :
    Calls Tryz.prog 10 #[.agg #[.int .i64 L, .slice a N c], .slice b n d] w fun e w' => ∃ v, e = .returned (.tuple #[v, .int .i64 (chkP L l t)]) ∧ w'.ownsRow w.heap.size 3 1 v (lenL L l t).length (fl encI (iN (lenL L l t))) ∧ Below w.heap.size w w' := by
  have hb0 := bl_alloc (Below.refl _ w) (.cells #[.int .i64 L, .slice a N c] 24)
  have hX := Blk.new w #[.int .i64 L, .slice a N c] 24
  have HC := Lib.hid (pscheck_any L a N c l b n d t (w.alloc (.cells #[.int .i64 L, .slice a N c] 24)) hl hN (hA.bl hb0) hF ht hn (hB.bl hb0) hS)
  have HL := Lib.hid hl
  have HF := Lib.hid hF
  have HT := Lib.hid ht
  have HS := Lib.hid hS
  have HA := Lib.hid (hA.bl hb0)
  have HB := Lib.hid (hB.bl hb0)
  clear hl hA hF ht hB hS
  go_enter Tryz.func10, Tryz.ntmps10
  go_wp2_with fail
  refine HC.out.mono ?_
  rintro e w2 ⟨rfl, hb2⟩
  have HB2 := Lib.hid (bl_trans hb0 hb2)
  have HX2 := Lib.hid (hX.below hb2)
  have HRA := Lib.hid (HA.out.bl hb2)
  have HRB := Lib.hid (HB.out.bl hb2)
  obtain ⟨X, hXe⟩ : ∃ x, x = w.heap.size := ⟨_, rfl⟩
  rw [← hXe] at HX2 ⊢
  have HXE := Lib.hid hXe
  clear hb0 hb2 hX HC HA HB hXe
  by_cases h0 : chkP L l t = 0
  · have hLL : Hid (lenL L l t = l.map (chg t)) := if_pos h0
    have HE := Lib.hid h0
    obtain ⟨k0, k1, k2⟩ := chkP_ok h0
    have hn1 : 1 ≤ n := by have := k1.1; have := HT.out; omega
    have hn63 : n ≤ 63 := by have := k1.2.1; have := HT.out; omega
    have HP : Hid (∀ v, 0 < v → v < n → 0 ≤ nP t v ∧ nP t v < v) := fun v h1 h2 => tree_par k1 v h1 (by rw [HT.out]; exact h2)
    have hN64 : N ≤ 64 := by
      obtain ⟨M, hM⟩ : ∃ M : Nat, L = M := ⟨(lvT t).length, k2.symm⟩
      rw [hM] at k0
      have := (chk_lt k0).2.1; have := HL.out; omega
    have HLV : Hid (lvT t = lvsL t n) := tok_lv HT.out k1
    have HCE : Hid (chkE t = 0) := chkE_good k1
    rw [h0]
    clear k0 k1 k2 h0
    go_wp2_with fail
    refine (Leaves_any b n d t w2 HT.out hn HRB.out HS.out).mono ?_
    rintro e w3 ⟨v, rfl, ho, hb3⟩
    rw [HCE.out]
    rw [HLV.out] at ho
    obtain ⟨A, cp, rfl, _⟩ := owns_slice ho
    have HB3 := Lib.hid (bl_trans HB2.out hb3)
    have HX3 := Lib.hid (HX2.out.below hb3)
    have HRA3 := Lib.hid (HRA.out.bl hb3)
    have HRB3 := Lib.hid (HRB.out.bl hb3)
    have HRL := Lib.hid (rd_of_owns ho)
    obtain ⟨q, hq⟩ : ∃ q, q = (lvsL t n).length := ⟨_, rfl⟩
    rw [← hq] at ho ⊢
    have HQ := Lib.hid hq
    have e1 : w3.cell? ⟨X, 1, none⟩ = some (.slice a N c) := HX3.out.cell 1
    clear ho hb3 hq HB2 HX2 HRA HRB
    go_wp2_with fail
    clear e1
    go_loopw [26, 9] (fun x y wr => ∃ k : Nat, k ≤ N ∧ x = .int .i64 k ∧ Hid (wr.ownsRow w3.heap.size 3 1 y k (fl encI (iN ((l.take k).map (chg t))))) ∧ Hid (Below w3.heap.size w3 wr)) (fun x _ _ => N - (intOf x).toNat)
    case atStart => exact ⟨0, by omega, rfl, World.ownsRow_nil _ _ _ _, Below.refl _ _⟩
    case round =>
      obtain ⟨k, hk, rfl, how, hbl⟩ := hrel
      by_cases hlt : k < N
      · obtain ⟨ba, oa, rfl, _, hca⟩ := rdV (HRA3.out.bl hbl.out) (by rw [HL.out]; omega)
        have G := hca k (by rw [HL.out]; exact hlt)
        have hx : vA l k < 18446744073709551616 := HF.out k (by rw [HL.out]; exact hlt)
        have HTK : Hid ((l.take (k + 1)).map (chg t) = (l.take k).map (chg t) ++ [chg t (vA l k)]) := by
          show _ = _
          rw [List.take_succ_eq_append_getElem (by rw [HL.out]; exact hlt), List.map_append, vA_get (by rw [HL.out]; exact hlt)]; rfl
        have HLN : Hid (k = ((l.take k).map (chg t)).length) := by show _ = _; rw [List.length_map, List.length_take, HL.out]; omega
        obtain ⟨A7, c7, rfl, _⟩ := owns_slice how.out
        clear hca
        generalize vA l k = x at *
        go_wp2_with fail
        refine (changes_any x b n d t A q cp wr hx HT.out hn1 hn63 (HRB3.out.bl hbl.out) HP.out HQ.out (HRL.out.bl hbl.out)).mono ?_
        rintro e w6 ⟨rfl, hb6⟩
        have HOW := Lib.hid (owns_below how.out hb6)
        have HB6 := Lib.hid (bl_trans hbl.out hb6)
        have hbase : w3.heap.size ≤ (w6.alloc (.cells #[.int .i64 (chg t x : Nat)] 3)).heap.size := (bl_alloc HB6.out _).size
        clear hb6
        generalize chg t x = y at *
        go_wp2_with (at_builtin; refine push_I rfl (.tmp 30) (.tmp 35) rfl w3.heap.size (.slice A7 k c7) (iN ((l.take k).map (chg t))) k (by rw [iN_len]; exact HLN.out) rfl (HOW.out.alloc _) _ _ (y : Int) rfl (Blk.new _ _ _) (by omega) hbase ?_; intro g2 cap w8 h81 h82 h83 h84; rw [← iN_snoc, ← HTK.out] at h81; have H81 := Lib.hid h81; have H82 := Lib.hid h82; clear h81 h82 h83)
        have HB8 := Lib.hid (bl_grown (bl_alloc HB6.out (.cells #[.int .i64 (y : Nat)] 3)) H82.out (fun x e => (HOW.out.lt x e).1))
        go_roundw
        case rel => exact ⟨k + 1, by omega, by go_num, H81, HB8⟩
        case measure => simp [intOf]; omega
      · obtain rfl : k = N := by omega
        obtain ⟨A7, c7, rfl, _⟩ := owns_slice how.out
        go_wp2_with fail
        refine bodyPost_ret (v := .tuple #[.slice A7 k c7, .int .i64 0]) (by simp [results, Tryz.results10, go_sem]) rfl ⟨_, by rw [HE.out], ?_, bl_trans HB3.out hbl.out⟩
        have h := how.out
        rw [List.take_of_length_le (by rw [HL.out]; exact Nat.le_refl _)] at h
        rw [hLL.out]
        have e : (l.map (chg t)).length = k := by rw [List.length_map, HL.out]
        rw [e]
        exact owns_mono h HB3.out.size
  · have hE : Hid (lenL L l t = []) := if_neg h0
    obtain ⟨E, hEE⟩ : ∃ E, chkP L l t = E := ⟨_, rfl⟩
    have HEE := Lib.hid hEE
    rw [hEE] at h0 ⊢
    have d0 : (E == 0) = false := by simp [h0]
    have d1 : (E != 0) = true := by simp [h0]
    clear hEE h0
    go_wp2_with fail
    exact bodyPost_ret (v := .tuple #[.slice none 0 0, .int .i64 E]) (by simp [results, Tryz.results10, go_sem]) rfl ⟨_, by rw [HEE.out], by rw [hE.out]; exact World.ownsRow_nil _ _ _ _, HB2.out⟩
/-- The length of a tree. -/
def lenS (L : Int) (l : List Nat) (t : List Nd) : Nat := (lenL L l t).sum
theorem sum_take_succ {l : List Nat} {k : Nat} (hk : k < l.length) : (l.take (k + 1)).sum = (l.take k).sum + vA l k := by
  rw [List.take_succ_eq_append_getElem hk, List.sum_append, vA_get hk]; simp
theorem sum_le {l : List Nat} {c : Nat} (h : ∀ x ∈ l, x ≤ c) : l.sum ≤ l.length * c := by
  induction l with
  | nil => simp
  | cons x l ih =>
    rw [List.sum_cons, List.length_cons, Nat.succ_mul]
    have := h x List.mem_cons_self
    have := ih fun y hy => h y (List.mem_cons_of_mem _ hy)
    omega
theorem lenL_le (L : Int) (l : List Nat) (t : List Nd) : (lenL L l t).length ≤ 64 ∧ ∀ x ∈ lenL L l t, x ≤ 32 := by
  by_cases h : chkP L l t = 0
  · have e : lenL L l t = l.map (chg t) := if_pos h
    rw [e]
    obtain ⟨k0, k1, k2⟩ := chkP_ok h
    obtain ⟨M, hM⟩ : ∃ M : Nat, L = M := ⟨(lvT t).length, k2.symm⟩
    rw [hM] at k0
    refine ⟨by rw [List.length_map]; exact (chk_lt k0).2.1, fun x hx => ?_⟩
    obtain ⟨y, _, rfl⟩ := List.mem_map.1 hx
    exact chg_le32 h y
  · have e : lenL L l t = [] := if_neg h
    rw [e]; simp
set_option maxRecDepth 100000 in
set_option maxHeartbeats 4000000 in
theorem length_any (L : Int) (a : Option Addr) (N c : Nat) (l : List Nat) (b : Option Addr) (n d : Nat) (t : List Nd) (w : World) (hl : l.length = N) (hN : N ≤ 1152921504606846976) (hA : Rd w a (fl encV l)) (hF : FitV l)
    (ht : t.length = n) (hn : n ≤ 1152921504606846976) (hB : Rd w b (fl encNd t)) (hS : ∀ v, v < n → (nS t v).size ≤ 9223372036854775807) :
    Calls Tryz.prog 12 #[.agg #[.int .i64 L, .slice a N c], .slice b n d] w fun e w' => e = .returned (.tuple #[.int .i64 (lenS L l t : Nat), .int .i64 (chkP L l t)]) ∧ Below w.heap.size w w' := by
  have hb0 := bl_alloc (Below.refl _ w) (.cells #[.int .i64 L, .slice a N c] 24)
  have HC := Lib.hid (lengths_any L a N c l b n d t (w.alloc (.cells #[.int .i64 L, .slice a N c] 24)) hl hN (hA.bl hb0) hF ht hn (hB.bl hb0) hS)
  obtain ⟨hl64, hx32⟩ := lenL_le L l t
  clear hl hA hF ht hB hS
  obtain ⟨m, hm⟩ : ∃ m, m = lenL L l t := ⟨_, rfl⟩
  have hsum : lenS L l t = m.sum := by unfold lenS; rw [hm]
  rw [← hm] at HC hl64 hx32
  have hsb : ∀ k, (m.take k).sum ≤ 2048 := fun k => by
    have h1 := sum_le (l := m.take k) (c := 32) fun x hx => hx32 x (List.mem_of_mem_take hx)
    rw [List.length_take] at h1
    omega
  have HSB := Lib.hid hsb
  have HX := Lib.hid hx32
  have HSUM := Lib.hid hsum
  obtain ⟨q, hq⟩ : ∃ q, q = m.length := ⟨_, rfl⟩
  rw [← hq] at HC hl64
  have HQ := Lib.hid hq
  obtain ⟨E, hE⟩ : ∃ E, E = chkP L l t := ⟨_, rfl⟩
  rw [← hE] at HC ⊢
  have HB0 := Lib.hid hb0
  clear hm hsum hsb hx32 hq hE hb0
  go_enter Tryz.func12, Tryz.ntmps12
  go_wp2_with fail
  refine HC.out.mono ?_
  rintro e w2 ⟨v, rfl, ho, hb2⟩
  obtain ⟨A, cp, rfl, _⟩ := owns_slice ho
  have HR := Lib.hid (rd_of_owns ho)
  have HB2 := Lib.hid (bl_trans HB0.out hb2)
  clear ho hb2 HB0 HC
  go_wp2_with fail
  go_loop [19, 8] (fun x y => ∃ k : Nat, k ≤ q ∧ x = .int .i64 k ∧ y = .int .i64 ((m.take k).sum : Nat)) (fun x _ => q - (intOf x).toNat)
  case atStart => exact ⟨0, by omega, rfl, rfl⟩
  case round =>
    obtain ⟨k, hk, rfl, rfl⟩ := hrel
    by_cases hlt : k < q
    · obtain ⟨b1, o1, rfl, _, hc⟩ := rdI HR.out (by rw [iN_len, ← HQ.out]; omega)
      have G := hc k (by rw [iN_len, ← HQ.out]; exact hlt)
      rw [iN_get] at G
      have HST := Lib.hid (sum_take_succ (l := m) (k := k) (by rw [← HQ.out]; exact hlt))
      have s1 := HSB.out k
      have s2 := HSB.out (k + 1)
      have s3 : vA m k ≤ 32 := HX.out _ (by rw [vA_get (by rw [← HQ.out]; exact hlt)]; exact List.getElem_mem _)
      clear hc
      generalize vA m k = y at *
      obtain ⟨S, hS⟩ : ∃ S, S = (m.take k).sum := ⟨_, rfl⟩
      rw [← hS] at HST s1 ⊢
      clear hS
      go_wp2_with fail
      go_round
      case rel => exact ⟨k + 1, by omega, by go_num, by rw [HST.out]; go_num⟩
      case measure => simp [intOf]; omega
    · obtain rfl : k = q := by omega
      have HF : Hid ((m.take k).sum = lenS L l t) := by show _ = _; rw [HSUM.out, List.take_of_length_le (by rw [HQ.out]; exact Nat.le_refl _)]
      obtain ⟨S, hS⟩ : ∃ S, S = (m.take k).sum := ⟨_, rfl⟩
      rw [← hS] at HF ⊢
      clear hS
      go_wp2_with fail
      go_ret2
      exact ⟨by rw [← HF.out]; rfl, HB2.out⟩
end Go.Proofs.YtjmnakkkimgifaaGreatDoor
namespace Go.Proofs.YtjmnakkkimgifaaGreatDoor
open Go Go.RowKit Go.Shelf
theorem in_of_all {v : Nat} : ∀ {s : Sh}, v ∈ s.all → ∃ z, Sh.In z s ∧ z.top = v
  | .lf u, h => ⟨.lf u, rfl, (List.mem_singleton.1 h).symm⟩
  | .nd u a b, h => by
    rcases List.mem_cons.1 h with h | h
    · exact ⟨.nd u a b, .inl rfl, h.symm⟩
    · rcases List.mem_append.1 h with h | h
      · obtain ⟨z, h1, h2⟩ := in_of_all h; exact ⟨z, .inr (.inl h1), h2⟩
      · obtain ⟨z, h1, h2⟩ := in_of_all h; exact ⟨z, .inr (.inr h1), h2⟩
theorem rho_top {L : List Nat} {s : Sh} (hL : L.Perm s.lvs) : rho L s s.top = 0 := by
  cases s with
  | nd v a b =>
    unfold rho ordL Sh.pre
    rw [List.cons_append]
    simp [Sh.top]
  | lf v =>
    have e : L = [v] := List.perm_singleton.1 hL
    unfold rho ordL Sh.pre
    rw [e]; simp [Sh.top]
theorem NumOk.root {t : List Nd} {L : List Nat} {s : Sh} (h : NumOk t L s) : nP (numS t L s) 0 = -1 := by
  have := par_top (par_num (t := t) h.nd h.perm)
  rwa [rho_top h.perm] at this
theorem NumOk.par {t : List Nd} {L : List Nat} {s : Sh} (h : NumOk t L s) {i : Nat} (h0 : 0 < i) (hi : i < s.all.length) : 0 ≤ nP (numS t L s) i ∧ nP (numS t L s) i < i := by
  obtain ⟨w, hw, rfl⟩ := h.sur hi
  rcases Sh.child_ex hw with e | ⟨v', a', b', hi', hc⟩
  · rw [e, rho_top h.perm] at h0; omega
  · obtain ⟨q1, q2, q3, q4⟩ := par_in (par_num (t := t) h.nd h.perm) hi'
    rcases hc with rfl | rfl <;> omega
theorem NumOk.nm {t : List Nd} {L : List Nat} {s : Sh} (h : NumOk t L s) {v : Nat} (hv : v ∈ s.all) : nS (numS t L s) (rho L s v) = nS t v := (num_name h.nd h.perm hv).2
theorem NumOk.tree {t : List Nd} {L : List Nat} {s : Sh} (h : NumOk t L s) : TreeOk (numS t L s) := by
  have hl := h.len
  have hf := h.few
  refine ⟨by rw [hl, Sh.all_len]; omega, by omega, fun i hi => ?_⟩
  rw [hl] at hi
  refine ⟨?_, ?_, ?_, ?_⟩
  · by_cases e : i = 0
    · subst e; rw [h.root]; decide
    · exact (h.par (by omega) hi).2
  · by_cases e : i = 0
    · subst e; rw [h.root]; decide
    · rw [if_neg e]; exact (h.par (by omega) hi).1
  · obtain ⟨w, hw, rfl⟩ := h.sur hi
    rw [h.nm hw]; exact h.name w hw
  · unfold seenB
    rw [List.any_eq_false]
    intro u hu
    have hu := List.mem_range.1 hu
    obtain ⟨w, hw, rfl⟩ := h.sur hi
    obtain ⟨w', hw', rfl⟩ := h.sur (show u < s.all.length by omega)
    rw [decide_eq_true_eq, h.nm hw, h.nm hw']
    intro e
    rw [h.inj _ _ hw' hw e] at hu
    omega
theorem NumOk.bin {t : List Nd} {L : List Nat} {s : Sh} (h : NumOk t L s) : BinT (numS t L s) s.all.length := by
  intro i hi
  obtain ⟨w, hw, rfl⟩ := h.sur hi
  obtain ⟨z, hz, e⟩ := in_of_all hw
  obtain ⟨r, r1, r2⟩ := h.shape z hz
  have ht : r.top = rho L s w := by rw [← r2.top, ← e]; cases z <;> rfl
  cases r with
  | lf v => left; rw [← ht]; show (famL _ _ v).length = 0; rw [show famL (numS t L s) s.all.length v = [] from r1]; rfl
  | nd v a b => right; rw [← ht]; show (famL _ _ v).length = 2; rw [r1.1]; rfl
theorem rho_leafs {L : List Nat} {s : Sh} (hn : s.all.Nodup) (hL : L.Perm s.lvs) {v : Nat} (hv : v ∈ s.all) : v ∈ s.lvs ↔ s.inn ≤ rho L s v := by
  constructor
  · intro h
    obtain ⟨j, hj, e⟩ := List.mem_iff_getElem.1 (hL.mem_iff.2 h)
    rw [← e, rho_leaf hn hL hj]; omega
  · intro h
    rcases List.mem_append.1 (s.pre_all.mem_iff.2 hv) with h2 | h2
    · exfalso
      obtain ⟨i, hi, e⟩ := List.mem_iff_getElem.1 h2
      have hi' : i < s.inn := by rw [Sh.pre_len] at hi; exact hi
      have := rho_pre hn hL hi'
      rw [e] at this; omega
    · exact h2
theorem in_nd_lvs {v : Nat} {a b : Sh} : ∀ {s : Sh}, s.all.Nodup → Sh.In (.nd v a b) s → v ∉ s.lvs
  | .lf u, _, hi => by cases hi
  | .nd u x y, hn, hi => by
    obtain ⟨n1, n2⟩ := List.nodup_cons.1 hn
    obtain ⟨n3, n4, n5⟩ := List.nodup_append.1 n2
    intro hm
    rcases hi with hi | hi | hi
    · cases hi
      rcases List.mem_append.1 hm with hm | hm
      · exact n1 (List.mem_append_left _ (Sh.lvs_sub _ _ hm))
      · exact n1 (List.mem_append_right _ (Sh.lvs_sub _ _ hm))
    · rcases List.mem_append.1 hm with hm | hm
      · exact in_nd_lvs n3 hi hm
      · exact n5 _ (Sh.in_all hi _ List.mem_cons_self) _ (Sh.lvs_sub _ _ hm) rfl
    · rcases List.mem_append.1 hm with hm | hm
      · exact n5 _ (Sh.lvs_sub _ _ hm) _ (Sh.in_all hi _ List.mem_cons_self) rfl
      · exact in_nd_lvs n4 hi hm
theorem NumOk.leafB {t : List Nd} {L : List Nat} {s : Sh} (h : NumOk t L s) {i : Nat} (hi : i < s.all.length) : Go.Proofs.YtjmnakkkimgifaaGreatDoor.leafB (numS t L s) i = decide (s.inn ≤ i) := by
  obtain ⟨w, hw, rfl⟩ := h.sur hi
  have hiff := rho_leafs h.nd h.perm hw
  unfold Go.Proofs.YtjmnakkkimgifaaGreatDoor.leafB
  rw [h.len]
  by_cases q : w ∈ s.lvs
  · rw [h.nokid q, decide_eq_true (hiff.1 q)]; rfl
  · rw [decide_eq_false fun h2 => q (hiff.2 h2)]
    obtain ⟨z, hz, e⟩ := in_of_all hw
    obtain ⟨r, r1, r2⟩ := h.shape z hz
    have ht : r.top = rho L s w := by rw [← r2.top, ← e]; cases z <;> rfl
    cases z with
    | lf v =>
      exfalso
      have hv : v ∈ s.lvs := by
        have key : ∀ (s : Sh), Sh.In (.lf v) s → v ∈ s.lvs := by
          intro s
          induction s with
          | lf u => intro hi; cases hi; exact List.mem_singleton.2 rfl
          | nd u x y ihx ihy =>
            intro hi
            rcases hi with hi | hi | hi
            · cases hi
            · exact List.mem_append_left _ (ihx hi)
            · exact List.mem_append_right _ (ihy hi)
        exact key s hz
      exact q (by rw [← e]; exact hv)
    | nd v a b =>
      cases r2 with
      | nd _ _ _ => rw [← ht]; show (famL _ _ (rho L s v)).isEmpty = false; rw [r1.1]; rfl
      | sw _ _ _ => rw [← ht]; show (famL _ _ (rho L s v)).isEmpty = false; rw [r1.1]; rfl
theorem NumOk.lvs {t : List Nd} {L : List Nat} {s : Sh} (h : NumOk t L s) : lvT (numS t L s) = (List.range L.length).map fun k => s.inn + k := by
  have hl := h.len
  rw [tok_lv hl h.tree]
  have hn : s.all.length = s.inn + L.length := by rw [← hl, numS_len]
  have base : ∀ i, i ≤ s.inn → lvsL (numS t L s) i = [] := by
    intro i
    induction i with
    | zero => intro _; rfl
    | succ i ih =>
      intro hi
      rw [lvsL_snoc, ih (by omega), h.leafB (by omega), decide_eq_false (by omega)]; rfl
  have step : ∀ j, j ≤ L.length → lvsL (numS t L s) (s.inn + j) = (List.range j).map fun k => s.inn + k := by
    intro j
    induction j with
    | zero => intro _; exact base s.inn (Nat.le_refl _)
    | succ j ih =>
      intro hj
      rw [show s.inn + (j + 1) = (s.inn + j) + 1 by omega, lvsL_snoc, ih (by omega), h.leafB (by omega), decide_eq_true (by omega), List.range_succ, List.map_append]
      simp
  rw [hn]
  exact step L.length (Nat.le_refl _)
/-- The names of the leaves. -/
theorem NumOk.leaf_name {t : List Nd} {L : List Nat} {s : Sh} {k : Nat} (hk : k < L.length) : nS (numS t L s) (s.inn + k) = nS t (vA L k) := by
  rw [vA_get hk]; exact (numS_leaf hk).2
/-- A binary tree, its shape and its leaves. -/
structure ShT (t : List Nd) (n : Nat) (s : Sh) : Prop where
  sub : Sub (famL t n) s
  top : s.top = 0
  mem : ∀ u, u ∈ s.all ↔ u < n
  nd : s.all.Nodup
theorem ShT.perm {t : List Nd} {n : Nat} {s : Sh} (h : ShT t n s) : s.all.Perm (List.range n) :=
  (List.perm_ext_iff_of_nodup h.nd List.nodup_range).2 fun u => by rw [h.mem, List.mem_range]
theorem ShT.len {t : List Nd} {n : Nat} {s : Sh} (h : ShT t n s) : s.all.length = n := by rw [h.perm.length_eq, List.length_range]
theorem ShT.lvs {t : List Nd} {n : Nat} {s : Sh} (hn : t.length = n) (h : ShT t n s) : (lvsL t n).Perm s.lvs := by
  refine (List.perm_ext_iff_of_nodup (show (lvsL t n).Nodup from List.Pairwise.filter _ List.nodup_range) (List.nodup_append.1 (s.pre_all.nodup_iff.2 h.nd)).2.1).2 fun u => ?_
  rw [sub_lvs h.sub, h.mem]
  unfold lvsL
  rw [List.mem_filter, List.mem_range]
  unfold Go.Proofs.YtjmnakkkimgifaaGreatDoor.leafB
  rw [hn, List.isEmpty_iff]
theorem shT_of {t : List Nd} {n : Nat} (hn : t.length = n) (hok : TreeOk t) (hb : BinT t n) : ∃ s, ShT t n s := by
  obtain ⟨s, h1, h2, h3, h4⟩ := shape_of hn hok hb
  exact ⟨s, h1, h2, h3, h4⟩
theorem seen_inj {t : List Nd} {n : Nat} (hn : t.length = n) (hok : TreeOk t) {u v : Nat} (hu : u < n) (hv : v < n) (h : nS t u = nS t v) : u = v := by
  have key : ∀ a b, a < b → b < n → nS t a ≠ nS t b := fun a b hab hb e => by
    have h1 := (hok.2.2 b (by omega)).2.2.2
    unfold seenB at h1
    rw [List.any_eq_false] at h1
    exact h1 a (List.mem_range.2 hab) (decide_eq_true e)
  rcases Nat.lt_trichotomy u v with q | q | q
  · exact absurd h (key u v q hv)
  · exact q
  · exact absurd h.symm (key v u q hu)
/-- Any shape of the same nodes can be numbered. -/
theorem numOk_of {t : List Nd} {n : Nat} {L : List Nat} {s : Sh} (hn : t.length = n) (hok : TreeOk t) (hp : s.all.Perm (List.range n)) (hL : L.Perm s.lvs) : NumOk t L s := by
  have hm : ∀ v, v ∈ s.all → v < n := fun v hv => List.mem_range.1 (hp.mem_iff.1 hv)
  refine ⟨hp.nodup_iff.2 List.nodup_range, hL, by rw [hp.length_eq, List.length_range]; have := hok.2.1; omega, fun v hv => (hok.2.2 v (by have := hm v hv; omega)).2.2.1, fun u v hu hv e => seen_inj hn hok (hm u hu) (hm v hv) e⟩
end Go.Proofs.YtjmnakkkimgifaaGreatDoor
namespace Go.Proofs.YtjmnakkkimgifaaGreatDoor
open Go Go.RowKit Go.Shelf
theorem sub_uniq {K : Nat → List Nat} {z z' : Sh} (h : Sub K z) (h' : Sub K z') (e : z.top = z'.top) : z = z' := by
  have h1 := shF_sub z h (z.inn + z'.inn) (by omega)
  have h2 := shF_sub z' h' (z.inn + z'.inn) (by omega)
  rw [e] at h1
  exact h1.symm.trans h2
/-- The nodes of a part of a tree's shape are those below its top. -/
theorem ShT.part {t : List Nd} {n : Nat} {s z : Sh} (hn : t.length = n) (hok : TreeOk t) (hb : BinT t n) (h : ShT t n s) (hz : Sh.In z s) (u : Nat) : u ∈ z.all ↔ u < n ∧ z.top ∈ pthF t n u := by
  have hv : z.top < n := (h.mem _).1 (Sh.in_all hz _ z.top_mem)
  obtain ⟨z', h1, h2, h3, h4⟩ := shape_at hn hok hb n z.top (by omega) hv
  rw [sub_uniq (sub_in h.sub hz) h1 h2.symm, h2] at *
  exact h3 u
/-- The other child of the parent. -/
def sibK (K : Nat → List Nat) (p c : Nat) : Nat := match K p with
  | [a, b] => if a = c then b else a
  | _ => 0
def sibT (t : List Nd) (n c : Nat) : Nat := sibK (famL t n) (nP t c).toNat c
def swK (t : List Nd) (n c x : Nat) : Nat → List Nat := fun v => (famL t n v).map (swp x (sibT t n c))
def exS (t : List Nd) (n c x : Nat) : Sh := shF (swK t n c x) n 0
def nearAt (t : List Nd) (n c x : Nat) : List Nd := numL t (lvsL t n) (exS t n c x)
def nearL (t : List Nd) (n : Nat) : List (List Nd) := (List.range' 1 (n - 1)).flatMap fun c => (famL t n c).map fun x => nearAt t n c x
/-- A node with its parent, its sibling and a child. -/
structure Nni (t : List Nd) (n p c y x : Nat) : Prop where
  cn : c < n
  pc : nP t c = (p : Int)
  pp : p < c
  yn : y < n
  py : nP t y = (p : Int)
  yp : p < y
  yc : y ≠ c
  xn : x < n
  px : nP t x = (c : Int)
  xc : c < x
  fam : ∀ u, u ∈ famL t n p ↔ u = c ∨ u = y
theorem nni_of {t : List Nd} {n c x : Nat} (hn : t.length = n) (hok : TreeOk t) (hb : BinT t n) (h0 : 0 < c) (hc : c < n) (hx : x ∈ famL t n c) : Nni t n (nP t c).toNat c (sibT t n c) x := by
  have hP := tok_par hn hok
  obtain ⟨p0, p1⟩ := hP c h0 hc
  obtain ⟨p, hp⟩ : ∃ p : Nat, nP t c = p := ⟨(nP t c).toNat, by omega⟩
  obtain ⟨x1, x2, x3⟩ := fam_mem.1 hx
  have hcm : c ∈ famL t n p := fam_mem.2 ⟨hc, h0, hp⟩
  have h2 : (famL t n p).length = 2 := by
    rcases hb p (by omega) with h | h
    · rw [List.eq_nil_of_length_eq_zero h] at hcm; cases hcm
    · exact h
  obtain ⟨a, b, hk⟩ := len_two h2
  have hab : a < b := by have := fam_pw t n p; rw [hk] at this; simpa using this
  unfold sibT sibK
  rw [hp, Int.toNat_natCast]
  have hyy : (match famL t n p with | [a, b] => if a = c then b else a | _ => 0) = if a = c then b else a := by rw [hk]
  rw [hyy]
  have hxc := (hP x x2 x1).2
  have hmem : ∀ u, u ∈ famL t n p ↔ u = a ∨ u = b := fun u => by rw [hk]; simp
  have hca : c = a ∨ c = b := (hmem c).1 hcm
  by_cases e : a = c
  · rw [if_pos e]
    obtain ⟨b1, b2, b3⟩ := fam_mem.1 ((hmem b).2 (.inr rfl))
    have := (hP b b2 b1).2
    exact ⟨hc, hp, by omega, b1, b3, by omega, by omega, x1, x3, by omega, fun u => by rw [hmem, e]⟩
  · rw [if_neg e]
    obtain ⟨b1, b2, b3⟩ := fam_mem.1 ((hmem a).2 (.inl rfl))
    have := (hP a b2 b1).2
    have hcb : c = b := hca.resolve_left fun h => e h.symm
    exact ⟨hc, hp, by omega, b1, b3, by omega, e, x1, x3, by omega, fun u => by rw [hmem, hcb]; exact Or.comm⟩
/-- What is exchanged. -/
structure ExOk (t : List Nd) (n x y : Nat) (s X Y r : Sh) : Prop where
  eq : r = rep x y X Y s
  inX : Sh.In X s
  inY : Sh.In Y s
  tX : X.top = x
  tY : Y.top = y
  xY : x ∉ Y.all
  yX : y ∉ X.all
  sub : Sub (fun v => (famL t n v).map (swp x y)) r
  subX : Sub (fun v => (famL t n v).map (swp x y)) X
  subY : Sub (fun v => (famL t n v).map (swp x y)) Y
  top : r.top = 0
  perm : r.all.Perm (List.range n)
  lvs : r.lvs.Perm s.lvs
theorem ex_ok {t : List Nd} {n p c y x : Nat} {s : Sh} (hn : t.length = n) (hok : TreeOk t) (hb : BinT t n) (h : ShT t n s) (hN : Nni t n p c y x) (hy : y = sibT t n c) : ∃ X Y, ExOk t n x y s X Y (exS t n c x) := by
  have hP := tok_par hn hok
  obtain ⟨X, iX, tX⟩ := in_of_all ((h.mem x).2 hN.xn)
  obtain ⟨Y, iY, tY⟩ := in_of_all ((h.mem y).2 hN.yn)
  have pX := h.part hn hok hb iX
  have pY := h.part hn hok hb iY
  rw [tX] at pX
  rw [tY] at pY
  have hpn : p < n := by have := hN.cn; have := hN.pp; omega
  have ex : pthF t n x = pthF t n p ++ [c] ++ [x] := by
    rw [pth_succ hP (by have := hN.xc; omega) hN.xn, hN.px, Int.toNat_natCast, pth_succ hP (by have := hN.pp; omega) hN.cn, hN.pc, Int.toNat_natCast]
  have ey : pthF t n y = pthF t n p ++ [y] := by rw [pth_succ hP (by have := hN.yp; omega) hN.yn, hN.py, Int.toNat_natCast]
  have hxy : x ≠ y := fun e => by have := hN.px; have := hN.py; have := hN.pp; rw [e] at *; omega
  have xY : x ∉ Y.all := fun hm => by
    have := ((pY x).1 hm).2
    rw [ex, List.mem_append, List.mem_append, List.mem_singleton, List.mem_singleton] at this
    rcases this with (h1 | h1) | h1
    · have := pth_lt hP p p (Nat.le_refl _) hpn y h1; have := hN.yp; omega
    · exact hN.yc h1
    · exact hxy h1.symm
  have yX : y ∉ X.all := fun hm => by
    have := ((pX y).1 hm).2
    rw [ey, List.mem_append, List.mem_singleton] at this
    rcases this with h1 | h1
    · have := pth_lt hP p p (Nat.le_refl _) hpn x h1; have := hN.xc; have := hN.pp; omega
    · exact hxy h1
  have ndl : ∀ {z : Sh}, Sh.In z s → z.top ∉ z.low := fun {z} hz hm => by
    have key : ∀ (s : Sh), s.all.Nodup → Sh.In z s → z.all.Nodup := by
      intro s
      induction s with
      | lf u => intro h1 h2; rw [show z = .lf u from h2]; exact h1
      | nd u a b iha ihb =>
        intro h1 h2
        obtain ⟨n1, n2⟩ := List.nodup_cons.1 h1
        obtain ⟨n3, n4, n5⟩ := List.nodup_append.1 n2
        rcases h2 with h2 | h2 | h2
        · rw [h2]; exact h1
        · exact iha n3 h2
        · exact ihb n4 h2
    have h1 := key s h.nd hz
    cases z with
    | lf v => cases hm
    | nd v a b => exact (List.nodup_cons.1 h1).1 hm
  have uniq : ∀ z, Sh.In z s → (z.top = x → z = X) ∧ (z.top = y → z = Y) := fun z hz => ⟨fun e => Sh.in_uniq h.nd hz iX (by rw [e, tX]), fun e => Sh.in_uniq h.nd hz iY (by rw [e, tY])⟩
  have x1 : x ∉ X.low := by have := ndl iX; rwa [tX] at this
  have y2 : y ∉ Y.low := by have := ndl iY; rwa [tY] at this
  have x2 : y ∉ X.low := fun hm => yX ((low_all X y).2 (.inr hm))
  have y1 : x ∉ Y.low := fun hm => xY ((low_all Y x).2 (.inr hm))
  have hsub := sub_rep tX tY (sub_in h.sub iX) (sub_in h.sub iY) x1 x2 y1 y2 h.sub
  have hperm := (rep_perm uniq h.nd xY yX ((h.mem x).2 hN.xn) ((h.mem y).2 hN.yn)).trans h.perm
  have htop : (rep x y X Y s).top = 0 := by
    rw [rep_top tX tY, h.top]
    unfold swp
    rw [if_neg (by have := hN.xc; omega), if_neg (by have := hN.yp; omega)]
  have hinn : (rep x y X Y s).inn ≤ n := by
    have := hperm.length_eq
    rw [Sh.all_len, List.length_range] at this; omega
  have hex : exS t n c x = rep x y X Y s := by
    unfold exS swK
    rw [← hy]
    have := shF_sub _ hsub n hinn
    rw [htop] at this; exact this
  refine ⟨X, Y, hex, iX, iY, tX, tY, xY, yX, by rw [hex]; exact hsub, sub_keep (sub_in h.sub iX) x1 x2, sub_keep (sub_in h.sub iY) y1 y2, by rw [hex]; exact htop, by rw [hex]; exact hperm, ?_⟩
  rw [hex]
  have nd1 := hperm.nodup_iff.2 List.nodup_range
  refine (List.perm_ext_iff_of_nodup (List.nodup_append.1 ((Sh.pre_all _).nodup_iff.2 nd1)).2.1 (List.nodup_append.1 (s.pre_all.nodup_iff.2 h.nd)).2.1).2 fun u => ?_
  rw [sub_lvs hsub, sub_lvs h.sub, hperm.mem_iff, h.perm.mem_iff, List.map_eq_nil_iff]
/-- A neighbour is numbered. -/
theorem near_ok {t : List Nd} {n c x : Nat} {s X Y : Sh} {y : Nat} (hn : t.length = n) (hok : TreeOk t) (h : ShT t n s) (hE : ExOk t n x y s X Y (exS t n c x)) : NumOk t (lvsL t n) (exS t n c x).srt :=
  numOk_of hn hok ((Sh.srt_all _).trans hE.perm) ((h.lvs hn).trans (hE.lvs.symm.trans (Sh.srt_lvs _).symm))
theorem lvs_pw (t : List Nd) (n : Nat) : (lvsL t n).Pairwise (· < ·) := List.Pairwise.filter _ List.pairwise_lt_range
/-- A numbered tree: its shape; numbered again it is the same. -/
structure Canon (t one : List Nd) (n : Nat) (L : List Nat) (s r : Sh) : Prop where
  ok : NumOk t L s
  eq : one = numS t L s
  srt : s.srt = s
  len : s.all.length = n
  pw : L.Pairwise (· < ·)
  shT : ShT one n r
  sw : Sh.Sw (s.map (rho L s)) r
  lvs : lvsL one n = L.map (rho L s)
theorem rho_mono {L : List Nat} {s : Sh} (hn : s.all.Nodup) (hL : L.Perm s.lvs) (hp : L.Pairwise (· < ·)) : ∀ u v, u ∈ s.lvs → v ∈ s.lvs → u < v → rho L s u < rho L s v := fun u v hu hv huv => by
  obtain ⟨i, hi, ei⟩ := List.mem_iff_getElem.1 (hL.mem_iff.2 hu)
  obtain ⟨j, hj, ej⟩ := List.mem_iff_getElem.1 (hL.mem_iff.2 hv)
  rw [← ei, ← ej, rho_leaf hn hL hi, rho_leaf hn hL hj]
  rcases Nat.lt_trichotomy i j with q | q | q
  · omega
  · subst q; rw [ei] at ej; omega
  · have := List.pairwise_iff_getElem.1 hp j i hj hi q
    omega
theorem canon_of {t : List Nd} {n : Nat} {L : List Nat} {s : Sh} (h : NumOk t L s) (hs : s.srt = s) (hl : s.all.length = n) (hp : L.Pairwise (· < ·)) : ∃ r, Canon t (numS t L s) n L s r := by
  obtain ⟨r, h1, h2⟩ := h.shape s s.in_self
  have hlen := h.len
  subst hl
  refine ⟨r, h, rfl, hs, rfl, hp, ⟨h1, ?_, fun u => ?_, ?_⟩, h2, ?_⟩
  · rw [← h2.top, map_top, rho_top h.perm]
  · rw [← h2.all.mem_iff, Sh.map_all, List.mem_map]
    constructor
    · rintro ⟨v, hv, rfl⟩; exact h.lt hv
    · intro hu
      obtain ⟨v, hv, e⟩ := h.sur hu
      exact ⟨v, hv, e⟩
  · refine h2.all.nodup_iff.1 ?_
    rw [Sh.map_all]
    have key : ∀ l : List Nat, l.Nodup → (∀ v, v ∈ l → v ∈ s.all) → (l.map (rho L s)).Nodup := by
      intro l
      induction l with
      | nil => intro _ _; exact List.nodup_nil
      | cons a l ih =>
        intro hn hm
        obtain ⟨n1, n2⟩ := List.nodup_cons.1 hn
        refine List.nodup_cons.2 ⟨fun hx => ?_, ih n2 fun v hv => hm v (List.mem_cons_of_mem _ hv)⟩
        obtain ⟨v, hv, e⟩ := List.mem_map.1 hx
        have := rho_inj h.perm (hm v (List.mem_cons_of_mem _ hv)) (hm a List.mem_cons_self) e
        rw [this] at hv; exact n1 hv
    exact key s.all h.nd fun v hv => hv
  · rw [← tok_lv hlen h.tree, h.lvs]
    refine List.ext_getElem (by simp) fun i h1 h2 => ?_
    rw [List.getElem_map, List.getElem_range, List.getElem_map, rho_leaf h.nd h.perm (by simpa using h2)]
theorem Canon.again {t one : List Nd} {n : Nat} {L : List Nat} {s r : Sh} (h : Canon t one n L s r) : numL one (lvsL one n) r = one := by
  rw [← numL_sw h.sw ?_, h.lvs]
  · have h1 := numL_map (t := t) (t' := one) (L := L) (s := s) (f := rho L s) (rho_mono h.ok.nd h.ok.perm h.pw) (fun v hv => h.ok.perm.mem_iff.1 hv) (fun v hv => by rw [h.eq]; exact h.ok.nm hv)
    rw [h1]
    show numS t L s.srt = one
    rw [h.srt, h.eq]
  · have := (List.nodup_append.1 ((Sh.pre_all r).nodup_iff.2 h.shT.nd)).2.1
    exact h.sw.lvs.nodup_iff.2 this
end Go.Proofs.YtjmnakkkimgifaaGreatDoor
namespace Go.Proofs.YtjmnakkkimgifaaGreatDoor
open Go Go.RowKit Go.Shelf
theorem in_map {f : Nat → Nat} {z : Sh} : ∀ {s : Sh}, Sh.In z s → Sh.In (z.map f) (s.map f)
  | .lf v, h => by rw [show z = .lf v from h]; exact Sh.in_self _
  | .nd v a b, h => by
    rcases h with h | h | h
    · rw [h]; exact Sh.in_self _
    · exact .inr (.inl (in_map h))
    · exact .inr (.inr (in_map h))
theorem sw_in {z s s' : Sh} (h : Sh.Sw s s') : Sh.In z s → ∃ z', Sh.In z' s' ∧ Sh.Sw z z' := by
  induction h with
  | lf v => intro hz; rw [show z = .lf v from hz]; exact ⟨_, Sh.in_self _, .lf v⟩
  | nd v h1 h2 i1 i2 =>
    intro hz
    rcases hz with hz | hz | hz
    · rw [hz]; exact ⟨_, Sh.in_self _, .nd v h1 h2⟩
    · obtain ⟨z', k1, k2⟩ := i1 hz; exact ⟨z', .inr (.inl k1), k2⟩
    · obtain ⟨z', k1, k2⟩ := i2 hz; exact ⟨z', .inr (.inr k1), k2⟩
  | sw v h1 h2 i1 i2 =>
    intro hz
    rcases hz with hz | hz | hz
    · rw [hz]; exact ⟨_, Sh.in_self _, .sw v h1 h2⟩
    · obtain ⟨z', k1, k2⟩ := i1 hz; exact ⟨z', .inr (.inr k1), k2⟩
    · obtain ⟨z', k1, k2⟩ := i2 hz; exact ⟨z', .inr (.inl k1), k2⟩
/-- A child's parent in the numbered tree. -/
theorem NumOk.kid_par {t : List Nd} {L : List Nat} {e : Sh} {K : Nat → List Nat} (h : NumOk t L e.srt) (hs : Sub K e) {v w : Nat} (hv : v ∈ e.all) (hw : w ∈ K v) : nP (numS t L e.srt) (rho L e.srt w) = rho L e.srt v := by
  obtain ⟨z, hz, ez⟩ := in_of_all hv
  have hsz := sub_in hs hz
  obtain ⟨z', hz', sz⟩ := sw_in (Sh.Sw.srtS e) hz
  cases z with
  | lf u =>
    have : K v = [] := by rw [← ez]; exact hsz
    rw [this] at hw; cases hw
  | nd u a b =>
    have eu : u = v := ez
    subst eu
    rw [hsz.1] at hw
    have hp := par_num (t := t) h.nd h.perm
    cases sz with
    | nd _ s1 s2 =>
      obtain ⟨q1, q2, _, _⟩ := par_in hp hz'
      rw [← s1.top] at q1
      rw [← s2.top] at q2
      rcases List.mem_cons.1 hw with rfl | hw
      · exact q1
      · rw [List.mem_singleton.1 hw]; exact q2
    | sw _ s1 s2 =>
      obtain ⟨q1, q2, _, _⟩ := par_in hp hz'
      rw [← s2.top] at q1
      rw [← s1.top] at q2
      rcases List.mem_cons.1 hw with rfl | hw
      · exact q2
      · rw [List.mem_singleton.1 hw]; exact q1
/-- Back again. -/
theorem near_back {t one : List Nd} {n : Nat} {L : List Nat} {s r : Sh} (hC : Canon t one n L s r) {c x : Nat} (h0 : 0 < c) (hc : c < n) (hx : x ∈ famL one n c) :
    ∃ c2 x2, 0 < c2 ∧ c2 < n ∧ x2 ∈ famL (nearAt one n c x) n c2 ∧ nearAt (nearAt one n c x) n c2 x2 = one := by
  have hlen : one.length = n := by rw [hC.eq, hC.ok.len, hC.len]
  have hok : TreeOk one := by rw [hC.eq]; exact hC.ok.tree
  have hb : BinT one n := by rw [hC.eq, ← hC.len]; exact hC.ok.bin
  obtain ⟨y, hy⟩ : ∃ y, y = sibT one n c := ⟨_, rfl⟩
  have hN := nni_of hlen hok hb h0 hc hx
  obtain ⟨p, hp⟩ : ∃ p, p = (nP one c).toNat := ⟨_, rfl⟩
  rw [← hy, ← hp] at hN
  obtain ⟨X, Y, hE⟩ := ex_ok hlen hok hb hC.shT hN hy
  have hK := near_ok hlen hok hC.shT hE
  obtain ⟨e1, he1⟩ : ∃ e, e = exS one n c x := ⟨_, rfl⟩
  have htwo : nearAt one n c x = numS one (lvsL one n) e1.srt := by rw [he1]; rfl
  rw [← he1] at hE hK
  have hlen2 : e1.srt.all.length = n := by rw [(Sh.srt_all e1).length_eq, hE.perm.length_eq, List.length_range]
  obtain ⟨r2, hC2⟩ := canon_of hK (Sh.srt_srt e1) hlen2 (lvs_pw one n)
  rw [htwo]
  obtain ⟨two, h2⟩ : ∃ two, two = numS one (lvsL one n) e1.srt := ⟨_, rfl⟩
  rw [← h2] at hC2 ⊢
  obtain ⟨ρ, hρ⟩ : ∃ ρ, ρ = rho (lvsL one n) e1.srt := ⟨_, rfl⟩
  have hok2 : TreeOk two := by rw [h2]; exact hK.tree
  have hlt2 : two.length = n := by rw [h2, hK.len, hlen2]
  have hb2 : BinT two n := by have := hK.bin; rw [hlen2, ← h2] at this; exact this
  have mem1 : ∀ u, u < n → u ∈ e1.all := fun u hu => hE.perm.mem_iff.2 (List.mem_range.2 hu)
  have mem2 : ∀ u, u < n → u ∈ e1.srt.all := fun u hu => (Sh.srt_all e1).mem_iff.2 (mem1 u hu)
  have hpn : p < n := by have := hN.pp; omega
  have kp : ∀ v w, v < n → w ∈ (famL one n v).map (swp x y) → nP two (ρ w) = ρ v := fun v w hv hw => by
    rw [h2, hρ]; exact hK.kid_par hE.sub (mem1 v hv) hw
  have hcx : c ≠ x := by have := hN.xc; omega
  have swx : swp x y x = y := if_pos rfl
  have swc : swp x y c = c := by unfold swp; rw [if_neg hcx, if_neg (fun e => hN.yc e.symm)]
  have swy : swp x y y = x := by
    unfold swp
    by_cases e : y = x
    · rw [if_pos e]; exact e
    · rw [if_neg e, if_pos rfl]
  have k1 : nP two (ρ y) = ρ c := kp c y hc (List.mem_map.2 ⟨x, hx, swx⟩)
  have k2 : nP two (ρ c) = ρ p := kp p c hpn (List.mem_map.2 ⟨c, (hN.fam c).2 (.inl rfl), swc⟩)
  have k3 : nP two (ρ x) = ρ p := kp p x hpn (List.mem_map.2 ⟨y, (hN.fam y).2 (.inr rfl), swy⟩)
  have rlt : ∀ u, u < n → ρ u < n := fun u hu => by have := hK.lt (mem2 u hu); rw [hlen2, ← hρ] at this; exact this
  have rinj : ∀ u v, u < n → v < n → ρ u = ρ v → u = v := fun u v hu hv e => by rw [hρ] at e; exact rho_inj hK.perm (mem2 u hu) (mem2 v hv) e
  have hroot : nP two 0 = -1 := by rw [h2]; exact hK.root
  have rpos : ∀ u, (∃ q : Nat, nP two (ρ u) = q) → 0 < ρ u := fun u ⟨q, hq⟩ => by
    rcases Nat.eq_zero_or_pos (ρ u) with e | e
    · rw [e, hroot] at hq; omega
    · exact e
  have c20 := rpos c ⟨_, k2⟩
  have hx2 : ρ y ∈ famL two n (ρ c) := fam_mem.2 ⟨rlt y hN.yn, rpos y ⟨_, k1⟩, k1⟩
  refine ⟨ρ c, ρ y, c20, rlt c hc, hx2, ?_⟩
  have hN2 := nni_of hlt2 hok2 hb2 c20 (rlt c hc) hx2
  rw [k2, Int.toNat_natCast] at hN2
  have hsib : ρ x = sibT two n (ρ c) := by
    have hm : ρ x ∈ famL two n (ρ p) := fam_mem.2 ⟨rlt x hN.xn, rpos x ⟨_, k3⟩, k3⟩
    rcases (hN2.fam _).1 hm with e | e
    · exact absurd (rinj x c hN.xn hc e) (fun e => hcx e.symm)
    · exact e
  rw [← hsib] at hN2
  obtain ⟨X2, Y2, hE2⟩ := ex_ok hlt2 hok2 hb2 hC2.shT hN2 hsib
  have hsw : Sh.Sw (e1.map ρ) r2 := by
    rw [hρ]; exact (Sh.Sw.map _ (Sh.Sw.srtS e1)).trans hC2.sw
  have part : ∀ {Z : Sh}, Sub (fun v => (famL one n v).map (swp x y)) Z → Z.top < n → ∀ {Z2 : Sh}, Sh.In Z2 r2 → Z2.top = ρ Z.top → Sh.Sw (Z.map ρ) Z2 := fun {Z} hZ hZn {Z2} hi ht => by
    obtain ⟨z, hz, ez⟩ := in_of_all (mem1 Z.top hZn)
    have e := sub_uniq (sub_in hE.sub hz) hZ ez
    rw [e] at hz
    obtain ⟨z2, i2, s2⟩ := sw_in hsw (in_map (f := ρ) hz)
    have e2 : z2 = Z2 := Sh.in_uniq hC2.shT.nd i2 hi (by rw [← s2.top, map_top, ht])
    rw [← e2]; exact s2
  have sX := part hE.subY (by rw [hE.tY]; exact hN.yn) hE2.inX (by rw [hE2.tX, hE.tY])
  have sY := part hE.subX (by rw [hE.tX]; exact hN.xn) hE2.inY (by rw [hE2.tY, hE.tX])
  have hfin : Sh.Sw (r.map ρ) (exS two n (ρ c) (ρ y)) := by
    rw [hE2.eq]
    have h3 := rep_sw (x := ρ y) (y := ρ x) sX sY hsw
    rw [rep_map fun u hu => ⟨fun e => rinj u y (List.mem_range.1 (hE.perm.mem_iff.1 hu)) hN.yn e, fun e => rinj u x (List.mem_range.1 (hE.perm.mem_iff.1 hu)) hN.xn e⟩] at h3
    have h4 : rep y x Y X e1 = r := by
      rw [hE.eq]
      exact rep_rep hE.tX hE.tY (fun e => hE.yX (by rw [← e, ← hE.tX]; exact Sh.top_mem X)) fun z hz => ⟨fun e => Sh.in_uniq hC.shT.nd hz hE.inX (by rw [e, hE.tX]), fun e => Sh.in_uniq hC.shT.nd hz hE.inY (by rw [e, hE.tY])⟩
    rw [h4] at h3; exact h3
  show numL two (lvsL two n) (exS two n (ρ c) (ρ y)) = one
  have hlv : r.lvs.Perm e1.srt.lvs := hE.lvs.symm.trans (Sh.srt_lvs e1).symm
  have hnd : (r.map ρ).lvs.Nodup := by
    have h5 := hE2.perm.nodup_iff.2 List.nodup_range
    exact hfin.lvs.nodup_iff.2 (List.nodup_append.1 ((Sh.pre_all _).nodup_iff.2 h5)).2.1
  rw [← numL_sw hfin hnd, hC2.lvs, ← hρ]
  have hL1 : (lvsL one n).Perm r.lvs := hC.shT.lvs hlen
  have h6 := numL_map (t := one) (t' := two) (L := lvsL one n) (s := r) (f := ρ) (fun u v hu hv huv => by
    rw [hρ]; exact rho_mono hK.nd hK.perm (lvs_pw one n) u v (hlv.mem_iff.1 hu) (hlv.mem_iff.1 hv) huv) (fun v hv => hL1.mem_iff.1 hv) (fun v hv => by
    rw [h2, hρ]; exact hK.nm (mem2 v ((hC.shT.mem v).1 hv)))
  rw [h6]
  exact hC.again
theorem mem_near {t : List Nd} {n : Nat} {w : List Nd} : w ∈ nearL t n ↔ ∃ c x, 0 < c ∧ c < n ∧ x ∈ famL t n c ∧ w = nearAt t n c x := by
  unfold nearL
  rw [List.mem_flatMap]
  constructor
  · rintro ⟨c, hc, h⟩
    obtain ⟨x, hx, e⟩ := List.mem_map.1 h
    rw [List.mem_range'_1] at hc
    exact ⟨c, x, by omega, by omega, hx, e.symm⟩
  · rintro ⟨c, x, h1, h2, hx, e⟩
    exact ⟨c, by rw [List.mem_range'_1]; omega, List.mem_map.2 ⟨x, hx, e.symm⟩⟩
theorem sum_range' (g : Nat → Nat) : ∀ m a, sumF g a + ((List.range' a m).map g).sum = sumF g (a + m) := by
  intro m
  induction m with
  | zero => intro a; simp
  | succ m ih =>
    intro a
    have h := ih (a + 1)
    rw [List.range'_succ, List.map_cons, List.sum_cons, ← Nat.add_assoc]
    show sumF g (a + 1) + _ = _
    rw [h, show a + 1 + m = a + (m + 1) by omega]
/-- Each node but the root is a child of one. -/
theorem fam_sum {t : List Nd} {n : Nat} (hP : ∀ v, 0 < v → v < n → 0 ≤ nP t v ∧ nP t v < v) : ∀ k, k + 1 ≤ n → sumF (fun c => (famL t (k + 1) c).length) n = k := by
  intro k
  induction k with
  | zero =>
    intro _
    have : ∀ m, sumF (fun c => (famL t 1 c).length) m = 0 := by
      intro m
      induction m with
      | zero => rfl
      | succ m ih =>
        show sumF _ m + (famL t 1 m).length = 0
        rw [ih]
        have : famL t 1 m = [] := fam_none fun u hu => by have := fam_mem.1 hu; omega
        rw [this]; rfl
    exact this n
  | succ k ih =>
    intro hk
    obtain ⟨p0, p1⟩ := hP (k + 1) (by omega) (by omega)
    obtain ⟨p, hp⟩ : ∃ p : Nat, nP t (k + 1) = p := ⟨(nP t (k + 1)).toNat, by omega⟩
    have h1 : sumF (fun c => (famL t (k + 2) c).length) n = sumF (fun c => (famL t (k + 1) c).length + if (p : Int) = (c : Int) then 1 else 0) n := sumF_congr n fun c _ => by
      show (famL t (k + 1 + 1) c).length = _
      rw [famL_snoc, List.length_append]
      unfold kidB
      rw [decide_eq_true (show 0 < k + 1 by omega), hp]
      by_cases e : (p : Int) = (c : Int)
      · rw [decide_eq_true e, if_pos e]; rfl
      · rw [decide_eq_false e, if_neg e]; rfl
    show sumF (fun c => (famL t (k + 2) c).length) n = k + 1
    rw [h1, sumF_add, ih (by omega), sumF_one, if_pos (by omega)]
theorem near_len {t : List Nd} {n : Nat} (hn : t.length = n) (hok : TreeOk t) (hb : BinT t n) : (nearL t n).length = n - 3 := by
  have hP := tok_par hn hok
  have h1 : 1 ≤ n := by have := hok.1; omega
  have hs := fam_sum hP (n - 1) (by omega)
  rw [show n - 1 + 1 = n by omega] at hs
  have h2 := sum_range' (fun c => (famL t n c).length) (n - 1) 1
  rw [show 1 + (n - 1) = n by omega, hs] at h2
  have h3 : (nearL t n).length = ((List.range' 1 (n - 1)).map fun c => (famL t n c).length).sum := by
    unfold nearL
    rw [List.length_flatMap]
    congr 1
    refine List.map_congr_left fun c _ => ?_
    rw [List.length_map]
  rw [h3]
  have h4 : sumF (fun c => (famL t n c).length) 1 = (famL t n 0).length := by simp [sumF]
  rw [h4] at h2
  rcases hb 0 (by omega) with h | h
  · rw [h] at h2
    by_cases e : n = 1
    · subst e; rfl
    · exfalso
      have : 1 ∈ famL t n 0 := fam_mem.2 ⟨by omega, by omega, by have := hP 1 (by omega) (by omega); omega⟩
      rw [List.eq_nil_of_length_eq_zero h] at this; cases this
  · rw [h] at h2; omega
end Go.Proofs.YtjmnakkkimgifaaGreatDoor
namespace Go.Proofs.YtjmnakkkimgifaaGreatDoor
open Go Go.RowKit Go.Shelf
set_option maxRecDepth 100000 in
set_option maxHeartbeats 4000000 in
theorem children_any (a : Option Addr) (n c : Nat) (t : List Nd) (w : World) (hn : t.length = n) (hN : n ≤ 64) (hA : Rd w a (fl encNd t)) (hP : ∀ v, 0 < v → v < n → 0 ≤ nP t v ∧ nP t v < n) (h0 : nP t 0 < 0) :
    Calls Tryz.prog 38 #[.slice a n c] w fun e w' => ∃ g rs, e = .returned (.slice (some ⟨g, 0, none⟩) n n) ∧ FamW w' w.heap.size g n (fun v => famL t n v) rs ∧ Below w.heap.size w w' := by
  have HN := Lib.hid hn
  have HA := Lib.hid hA
  have HP := Lib.hid hP
  have HZ := Lib.hid h0
  obtain ⟨i0, hi0, hz0, hz1, hz2⟩ := info_parts info_R
  have hmk := run_make (P := Tryz.prog) w 68 29 i0 _ Tryz.underlying68 hi0 hz0 .i64 .i64 (n : Int) (n : Int) (by omega) (by omega) (by rw [hz2]; omega) (by omega)
  simp only [hz1, Int.toNat_natCast, Nat.mul_one] at hmk
  have hF0 := FamW.made w w.heap.size n (Nat.le_refl _) (by unfold maxLen; omega)
  have hb0 := bl_alloc (Below.refl _ w) (.cells (madeCells #[.slice none 0 0] n) 29)
  have HF0 := Lib.hid hF0
  have HB0 := Lib.hid hb0
  clear hi0 hz0 hz1 hz2 hn hA hP hF0 hb0 h0
  go_enter Tryz.func38, Tryz.ntmps38
  go_upto_region 2 with fail
  obtain ⟨g, hg⟩ : ∃ x, x = w.heap.size := ⟨_, rfl⟩
  obtain ⟨w1, hw1⟩ : ∃ x, x = w.alloc (.cells (madeCells #[.slice none 0 0] n) 29) := ⟨_, rfl⟩
  rw [← hw1] at HF0 HB0 ⊢
  rw [← hg] at HF0 HB0 ⊢
  have HG := Lib.hid hg
  clear hw1 hg hmk
  go_wp2_with fail
  go_loopw [11] (fun x wr => ∃ k : Nat, k ≤ n ∧ x = .int .i64 k ∧ ∃ rs, Hid (FamW wr g g n (fun v => famL t k v) rs) ∧ Hid (Below g w wr)) (fun x _ => n - (intOf x).toNat)
  case atStart => exact ⟨0, by omega, rfl, _, HF0, HB0⟩
  case round =>
    clear HF0 HB0
    obtain ⟨k, hk, rfl, rs, hF, hbl⟩ := hrel
    by_cases hlt : k < n
    · obtain ⟨b, o, rfl, hb, hc⟩ := rdNd HA.out (by rw [HN.out]; omega)
      obtain ⟨G0, G1⟩ := hc k (by rw [HN.out]; exact hlt)
      rw [← HG.out] at hb
      have G0' := (hbl.out.cell (p := ⟨b, o + k * 2, none⟩) hb).trans G0
      have G1' := (hbl.out.cell (p := ⟨b, o + k * 2 + 1, none⟩) hb).trans G1
      have hsn : Hid (∀ v, famL t (k + 1) v = famL t k v ++ (if kidB t v k then [k] else [])) := fun v => famL_snoc t k v
      have HPK := Lib.hid (HP.out k)
      have HZK : Hid (k = 0 → nP t k < 0) := fun e => by rw [e]; exact HZ.out
      have hkd : Hid (∀ v, kidB t v k = (decide (0 < k) && decide (nP t k = (v : Int)))) := fun v => rfl
      clear hc G0 G1
      generalize nP t k = P at *
      generalize nS t k = s at *
      by_cases h0 : k = 0
      · have hfam : Hid ((fun v => famL t (k + 1) v) = fun v => famL t k v) := by
          show _ = _
          funext v
          rw [hsn.out, hkd.out, decide_eq_false (by omega)]
          simp
        have hPneg := HZK.out h0
        have d1 : decide (0 ≤ P) = false := by simp; omega
        clear h0
        go_wp2_with fail
        go_roundw
        case rel => exact ⟨k + 1, by omega, by go_num, rs, by rw [hfam.out]; exact hF.out.bl (bl_alloc (Below.refl _ _) _), hbl.out.trans ((bl_alloc (Below.refl _ wr) _).mono (by have := hbl.out.size; have := HG.out; omega))⟩
        case measure => simp [intOf]; omega
      · have h00 : 0 < k := by omega
        obtain ⟨hp0, hpn⟩ := HPK.out h00 hlt
        obtain ⟨p, rfl⟩ : ∃ p : Nat, P = p := ⟨P.toNat, by omega⟩
        have hpn' : p < n := by omega
        have d1 : decide (0 ≤ (p : Int)) = true := by simp
        have d1k : decide (0 < k) = true := by simpa using h00
        clear h0 hp0 hpn
        go_upto_region 6 with fail
        have hF2 := hF.out.bl (bl_alloc (Below.refl _ wr) (.cells #[.int .i64 p, .string s] 46))
        have hbl2 : Below g w (wr.alloc (.cells #[.int .i64 p, .string s] 46)) := hbl.out.trans ((bl_alloc (Below.refl _ wr) _).mono (by have := hbl.out.size; have := HG.out; omega))
        have hX := Blk.new wr #[.int .i64 p, .string s] 46
        obtain ⟨X, hXe⟩ : ∃ x, x = wr.heap.size := ⟨_, rfl⟩
        have hz2 : (wr.alloc (.cells #[.int .i64 p, .string s] 46)).heap.size = X + 1 := by rw [hXe]; simp
        have hgX : g < X := by rw [hXe]; exact (hF.out.rows.lt g rfl).2
        obtain ⟨w2, hw2⟩ : ∃ x, x = wr.alloc (.cells #[.int .i64 p, .string s] 46) := ⟨_, rfl⟩
        rw [← hw2] at hF2 hbl2 hX hz2 ⊢
        rw [← hXe] at hX ⊢
        have HXE := Lib.hid hXe
        have HRL : Hid (∀ q, (slR (rs p)).ownBlock = some q → q < X) := fun q hq => by rw [hXe]; exact ((hF.out.row p hpn').lt q hq).2
        clear hw2 hXe G0' G1' hF hbl hb
        have c0 : w2.cell? ⟨X, 0, none⟩ = some (.int .i64 p) := hX.cell 0
        have c1 := hF2.cell hpn'
        obtain ⟨⟨A, m, cp⟩, hx⟩ : ∃ x, x = rs p := ⟨_, rfl⟩
        have hm : m = (famL t k p).length := by have := hF2.len p hpn'; rw [← hx] at this; exact this
        have hrow := hF2.row p hpn'
        have hfar := hF2.far p hpn'
        rw [← hx] at c1 hrow hfar
        have c1' : w2.cell? ⟨g, p, none⟩ = some (.slice A m cp) := c1
        have HM := Lib.hid hm
        have hm64 : m ≤ 64 := by have := famL_le t k p; omega
        have HX := Lib.hid hX
        have HXX := Lib.hid hx
        have HF2 := Lib.hid hF2
        have HB2 := Lib.hid hbl2
        have HROW := Lib.hid hrow
        have HFAR := Lib.hid hfar
        clear c1 hm hX hx hF2 hbl2 hrow hfar
        refine wp_region_order (S := fun w' => w'.cell? ⟨X, 0, none⟩ = some (.int .i64 p) ∧ w'.cell? ⟨g, p, none⟩ = some (.slice A m cp)) 11 [0,1,2,3,4,5,6,7,8] [9,10] (by kernel_rfl) (by kernel_rfl) ⟨c0, c1'⟩ ?_
        iterate 9 (refine headT_cons (by rfl) (by rfl) (by intro w hSw; obtain ⟨s0, s1⟩ := hSw; go_simp; try rfl) ?_; simp only [Act.put, List.setIfInBounds_toArray, List.set_cons_zero, List.set_cons_succ])
        refine headT_nil ?_
        obtain ⟨w4, hw4⟩ : ∃ x, x = w2.drew := ⟨_, rfl⟩
        rw [← hw4]
        have hb4 : Below w2.heap.size w2 w4 := by rw [hw4]; exact bl_drewN (Below.refl _ _) 1
        have hz4 : w4.heap.size = X + 1 := by rw [hw4]; exact hz2
        clear hw4
        refine midT_cons (by rfl) (fun K hK => ?_)
        rw [if_pos (by rfl)]
        go_simp
        have hb5 := bl_alloc hb4 (.cells #[.int .i64 k] 3)
        have hN5 := Blk.new w4 #[.int .i64 k] 3
        have hz5 : (w4.alloc (.cells #[.int .i64 k] 3)).heap.size = X + 2 := by simp [hz4]
        rw [hz4] at hN5
        obtain ⟨w5, hw5⟩ : ∃ x, x = w4.alloc (.cells #[.int .i64 k] 3) := ⟨_, rfl⟩
        rw [← hw5] at hb5 hN5 hz5 ⊢
        have HF5 := Lib.hid (HF2.out.bl hb5)
        have HX5 := Lib.hid (HX.out.below hb5)
        have HR5 := Lib.hid (owns_below HROW.out hb5)
        have HB5 : Hid (Below g w w5) := HB2.out.trans (hb5.mono (by omega))
        clear hw5
        refine hK.out _ _ ⟨HX5.out.cell 0, by have h := HF5.out.cell hpn'; rw [← HXX.out] at h; exact h⟩ (fun _ => ?_)
        clear hK K
        try simp only [Act.put, List.setIfInBounds_toArray, List.set_cons_zero, List.set_cons_succ]
        refine midT_cons (by rfl) (fun K hK => ?_)
        refine spush_I rfl (.tmp 26) (.tmp 28) rfl g (.slice A m cp) (iN (famL t k p)) m (by rw [iN_len]; exact HM.out) rfl (by have h := HR5.out; rw [← HM.out] at h; exact h) _ _ (k : Int) rfl hN5 (by omega) (by omega) ?_
        intro g6 c6 w6 h1 h2 h3 h4
        have hz6 := h2.size
        have HX6 := Lib.hid (HX5.out.grown h2 (by
          intro e
          have := HRL.out X (by rw [← HXX.out]; exact e.symm)
          omega))
        have HG6 := Lib.hid (HF5.out.grow (w' := w6) hpn' (x := (some ⟨g6, 0, none⟩, m + 1, c6)) (X := famL t k p ++ [k]) (by rw [← HXX.out]; exact h2) (by
            rw [← iN_snoc] at h1
            have e : (famL t k p ++ [k]).length = m + 1 := by rw [List.length_append, ← HM.out]; rfl
            rw [e]; exact h1) (by rw [List.length_append, ← HM.out]; rfl) (by
            rw [← HXX.out]
            rcases h3 with h3 | h3
            · exact .inl h3.symm
            · exact .inr ⟨g6, rfl, by omega⟩))
        have hgp5 : w5.cell? ⟨g, p, none⟩ = some (.slice A m cp) := by have h := HF5.out.cell hpn'; rw [← HXX.out] at h; exact h
        have hgp6 : w6.cell? ⟨g, p, none⟩ = some (.slice A m cp) := h2.cell hgp5 (fun e => HFAR.out e.symm)
        have hrw6 := HF5.out.rows.kept h2 (.inr (fun e => HFAR.out e.symm))
        have hfz6 : w6.frozen? ⟨g, p, none⟩ = false := World.ownsRow.frozenAt hrw6 p
        have HB6 := Lib.hid (bl_grown (a := w) (by have h := HB5.out; rw [HG.out] at h; exact h) h2 (fun r hr => by have := (HR5.out.lt r hr).1; have := HG.out; omega))
        refine hK.out _ _ ⟨HX6.out.cell 0, hgp6⟩ (fun _ => ?_)
        clear hK K h1 h2 h3 h4 hrw6 hgp5 hN5 hb4 hb5 c0 c1'
        try simp only [Act.put, List.setIfInBounds_toArray, List.set_cons_zero, List.set_cons_succ]
        refine midT_nil ?_
        simp only [List.drop_succ_cons, List.drop_zero]
        go_wp2_with fail
        refine NoPanic.normal ?_
        go_wp2_with fail
        have hfam : Hid ((fun v => famL t (k + 1) v) = fun j => if j = p then famL t k p ++ [k] else famL t k j) := by
          show _ = _
          funext v
          rw [hsn.out, hkd.out, d1k]
          by_cases e : v = p
          · subst e; simp
          · rw [if_neg e, decide_eq_false (fun h => e (by omega))]; simp
        have HB7 : Hid (Below g w (w6.setCell ⟨g, p, none⟩ (.slice (some ⟨g6, 0, none⟩) (m + 1) c6))) := by
          have h := HB6.out
          rw [← HG.out] at h
          exact h.setCell (p := ⟨g, p, none⟩) (Nat.le_refl _) _
        go_roundw
        case rel => exact ⟨k + 1, by omega, by go_num, _, by rw [hfam.out]; exact HG6.out, HB7⟩
        case measure => simp [intOf]; omega
    · obtain rfl : k = n := by omega
      go_wp2_with fail
      go_ret
      exact ⟨g, rs, rfl, by rw [← HG.out]; exact hF.out, by rw [← HG.out]; exact hbl.out⟩
end Go.Proofs.YtjmnakkkimgifaaGreatDoor
namespace Go.Proofs.YtjmnakkkimgifaaGreatDoor
open Go Go.RowKit Go.Shelf
set_option maxRecDepth 100000 in
set_option maxHeartbeats 1000000 in
theorem idxRows_any (gf : Nat) (hen : Enters Tryz.prog gf) (env : Array Value) (p : Nat → Bool) (g n c : Nat) (rs : Nat → Rw) (w : World) (hN : n ≤ 1152921504606846976) (hg : g < w.heap.size) (hA : ∀ i, i < n → w.cell? ⟨g, i, none⟩ = some (slR (rs i)))
    (hp : ∀ i, i < n → ∀ W, Below w.heap.size w W → Calls Tryz.prog gf (#[slR (rs i)] ++ env) W fun e w' => e = .returned (.bool (p i)) ∧ Below W.heap.size W w') :
    Calls Tryz.prog 61 #[.slice (some ⟨g, 0, none⟩) n c, .func (.func gf) #[] env] w fun e w' => e = .returned (.int .i64 (idxF p (List.range n))) ∧ Below w.heap.size w w' := by
  have HA := Lib.hid hA
  have HP := Lib.hid hp
  clear hA hp
  have hbz := Below.refl w.heap.size w
  go_enter Tryz.func61, Tryz.ntmps61
  go_wp2_with fail
  go_loopw [8, 5] (fun x _ wr => ∃ k : Nat, k ≤ n ∧ x = .int .i64 k ∧ Hid (NoneBefore p (List.range n) k) ∧ Below w.heap.size w wr) (fun x _ _ => n - (intOf x).toNat)
  case atStart => exact ⟨0, by omega, rfl, NoneBefore.zero _ _, hbz⟩
  case round =>
    obtain ⟨k, hk, rfl, hnb, hbl⟩ := hrel
    clear hbz
    by_cases hlt : k < n
    · have hkl : k < (List.range n).length := by rw [List.length_range]; exact hlt
      have G := (hbl.cell (p := ⟨g, k, none⟩) hg).trans (HA.out k hlt)
      have HC := Lib.hid (HP.out k hlt wr hbl)
      have HY : Hid (p k = true → idxF p (List.range n) = k) := fun e => hnb.out.found hkl (by rw [List.getElem_range]; exact e)
      have HNX : Hid (p k = false → NoneBefore p (List.range n) (k + 1)) := fun e => hnb.out.next hkl (by rw [List.getElem_range]; exact e)
      clear hkl
      obtain ⟨⟨A, m, cp⟩, hx⟩ : ∃ x, x = rs k := ⟨_, rfl⟩
      rw [← hx] at G HC
      have G' : wr.cell? ⟨g, k, none⟩ = some (.slice A m cp) := G
      have HC' : Hid (Calls Tryz.prog gf (#[.slice A m cp] ++ env) wr fun e w' => e = .returned (.bool (p k)) ∧ Below wr.heap.size wr w') := HC.out
      clear hx G HC
      generalize p k = q at *
      have hcall := fun args W => hen args W
      go_wp2_with fail
      refine HC'.out.mono ?_
      rintro e w1 ⟨rfl, hb1⟩
      clear hcall
      have hbl1 := hbl.trans (hb1.mono hbl.size)
      cases q with
      | true =>
        have hy := Lib.hid (HY.out rfl)
        clear HY HNX
        go_wp2_with fail
        go_ret
        exact ⟨by rw [hy.out]; rfl, hbl1⟩
      | false =>
        have hy := Lib.hid (HNX.out rfl)
        clear HY HNX
        go_wp2_with fail
        go_roundw
        case rel => exact ⟨k + 1, by omega, by go_num, hy, hbl1⟩
        case measure => simp [intOf]; omega
    · have hy : Hid (idxF p (List.range n) = -1) := NoneBefore.none hnb.out (by rw [List.length_range]; omega)
      go_wp2_with fail
      go_ret
      exact ⟨by rw [hy.out]; rfl, hbl⟩
set_option maxHeartbeats 1000000 in
theorem contRows_any (gf : Nat) (hen : Enters Tryz.prog gf) (env : Array Value) (p : Nat → Bool) (g n c : Nat) (rs : Nat → Rw) (w : World) (hN : n ≤ 1152921504606846976) (hg : g < w.heap.size) (hA : ∀ i, i < n → w.cell? ⟨g, i, none⟩ = some (slR (rs i)))
    (hp : ∀ i, i < n → ∀ W, Below w.heap.size w W → Calls Tryz.prog gf (#[slR (rs i)] ++ env) W fun e w' => e = .returned (.bool (p i)) ∧ Below W.heap.size W w') :
    Calls Tryz.prog 37 #[.slice (some ⟨g, 0, none⟩) n c, .func (.func gf) #[] env] w fun e w' => e = .returned (.bool ((List.range n).any p)) ∧ Below w.heap.size w w' := by
  have H := Lib.hid (idxRows_any gf hen env p g n c rs w hN hg hA hp)
  have hb : Hid (decide (0 ≤ idxF p (List.range n)) = (List.range n).any p) := idxF_ge _ _
  clear hp hen hA
  go_enter Tryz.func37, Tryz.ntmps37
  go_wp2_with fail
  refine H.out.mono ?_
  rintro e w' ⟨rfl, hb1⟩
  generalize idxF p (List.range n) = z at *
  go_wp2_with fail
  go_ret
  exact ⟨by rw [← hb.out]; rfl, hb1⟩
set_option maxHeartbeats 1000000 in
theorem bin1_any (A : Option Addr) (m cp : Nat) (w : World) (hm : m ≤ 1152921504606846976) :
    Calls Tryz.prog 39 #[.slice A m cp] w fun e w' => e = .returned (.bool (decide (m = 1) || decide (2 < m))) ∧ Below w.heap.size w w' := by
  by_cases h1 : m = 1
  · subst h1
    go_enter Tryz.func39, Tryz.ntmps39
    go_wp2
    go_ret
    exact ⟨rfl, Below.refl _ _⟩
  · have t1 : ((m : Int) == 1) = false := by simp; omega
    have t2 : decide ((m : Int) = 1) = false := by simp; omega
    have t3 : decide (m = 1) = false := by simp; omega
    rw [t3]
    go_enter Tryz.func39, Tryz.ntmps39
    go_wp2_with fail
    go_ret
    exact ⟨by simp; omega, Below.refl _ _⟩
/-- Each node has no child or two. -/
def binB (t : List Nd) (n : Nat) : Bool := !(List.range n).any fun v => decide ((famL t n v).length = 1) || decide (2 < (famL t n v).length)
theorem binB_iff {t : List Nd} {n : Nat} : binB t n = true ↔ BinT t n := by
  unfold binB BinT
  rw [Bool.not_eq_true', List.any_eq_false]
  constructor
  · intro h v hv
    have := h v (List.mem_range.2 hv)
    simp at this; omega
  · intro h v hv
    have := h v (List.mem_range.1 hv)
    simp; omega
/-- What Binary answers. -/
def binP (t : List Nd) : Bool := decide (chkE t = 0) && binB t t.length
set_option maxHeartbeats 4000000 in
theorem binary_any (a : Option Addr) (n c : Nat) (t : List Nd) (w : World) (hn : t.length = n) (hN : n ≤ 1152921504606846976) (hA : Rd w a (fl encNd t)) (hS : ∀ v, v < n → (nS t v).size ≤ 9223372036854775807) :
    Calls Tryz.prog 14 #[.slice a n c] w fun e w' => e = .returned (.tuple #[.bool (binP t), .int .i64 (chkE t)]) ∧ Below w.heap.size w w' := by
  have HC := Lib.hid (check_any a n c t w hn hN hA hS)
  have HN := Lib.hid hn
  have HA := Lib.hid hA
  clear hn hA hS
  go_enter Tryz.func14, Tryz.ntmps14
  go_wp2_with fail
  refine HC.out.mono ?_
  rintro e w1 ⟨rfl, hb⟩
  have HB := Lib.hid hb
  have HA1 := Lib.hid (HA.out.bl hb)
  clear hb HC
  by_cases h0 : chkE t = 0
  · have hok := chk_tree h0
    have HE := Lib.hid h0
    have hn63 : n ≤ 63 := by have := hok.2.1; have := HN.out; omega
    have HP : Hid (∀ v, 0 < v → v < n → 0 ≤ nP t v ∧ nP t v < n) := fun v h1 h2 => by
      have := tree_par hok v h1 (by rw [HN.out]; exact h2)
      omega
    have HR : Hid (nP t 0 < 0) := tok_root hok
    have HB0 : Hid (binP t = binB t n) := by show _ = _; unfold binP; rw [decide_eq_true h0, Bool.true_and, HN.out]
    rw [h0]
    clear hok h0
    go_wp2_with fail
    refine (children_any a n c t w1 HN.out (by omega) HA1.out HP.out HR.out).mono ?_
    rintro e w2 ⟨g, rs, rfl, hF, hb2⟩
    have HB2 := Lib.hid (bl_trans HB.out hb2)
    have HLE : Hid (∀ i, i < n → (rs i).2.1 ≤ 63) := fun i hi => by have h1 := hF.len i hi; have h2 := famL_le t n i; omega
    have HLN : Hid (∀ i, i < n → (rs i).2.1 = (famL t n i).length) := hF.len
    have HCF := Lib.hid (contRows_any 39 (enters_of Tryz.func39 (by kernel_rfl) rfl) #[] (fun v => decide ((famL t n v).length = 1) || decide (2 < (famL t n v).length)) g n n rs w2 (by omega) (hF.rows.lt g rfl).2 (fun i hi => hF.cell hi) (fun i hi W _ => by
      have h := bin1_any (rs i).1 (rs i).2.1 (rs i).2.2 W (by have := HLE.out i hi; omega)
      rw [HLN.out i hi] at h
      have e : slR (rs i) = .slice (rs i).1 (famL t n i).length (rs i).2.2 := by unfold slR; rw [HLN.out i hi]
      rw [e]
      exact h))
    have HBE : Hid (((List.range n).any fun v => decide ((famL t n v).length = 1) || decide (2 < (famL t n v).length)) = !binB t n) := by show _ = _; unfold binB; simp
    rw [HBE.out] at HCF
    clear hF hb2 HBE
    obtain ⟨β, hβ⟩ : ∃ β, β = binB t n := ⟨_, rfl⟩
    rw [← hβ] at HCF HB0
    clear hβ
    go_wp2_with fail
    refine HCF.out.mono ?_
    rintro e w3 ⟨rfl, hb3⟩
    have HB3 := Lib.hid (bl_trans HB2.out hb3)
    clear hb3
    go_wp2_with fail
    go_ret2
    exact ⟨by rw [HB0.out, HE.out]; simp, HB3.out⟩
  · have h16 := (chk_tree' h0).1
    have HE := Lib.hid h16
    have HB0 : Hid (binP t = false) := by show _ = _; unfold binP; rw [decide_eq_false h0]; rfl
    rw [h16]
    clear h0 h16
    go_wp2_with fail
    go_ret2
    exact ⟨by rw [HB0.out, HE.out]; rfl, HB.out⟩
end Go.Proofs.YtjmnakkkimgifaaGreatDoor
namespace Go.Proofs.YtjmnakkkimgifaaGreatDoor
open Go Go.RowKit Go.Shelf
/-- What a round does: O are the blocks that the caller may write, O' those behind the round. -/
structure StepO (O O' : Nat → Prop) (W W' : World) : Prop where
  old : ∀ B, O' B → O B ∨ W.heap.size ≤ B
  lt : ∀ B, O' B → B < W'.heap.size
  size : W.heap.size ≤ W'.heap.size
  kp : ∀ (B : Nat) (cs : Array Value) (t : TypeId) (fr : Nat × Nat), ¬ O B → W.heap[B]? = some (.cells cs t fr) → W'.heap[B]? = some (.cells cs t fr)
theorem put_kp {W : World} {l B : Nat} {o o' : Obj} {cs : Array Value} {t : TypeId} {fr : Nat × Nat} (h : W.heap[l]? = some o) (hc : o.isCells = false) (hB : W.heap[B]? = some (.cells cs t fr)) : (W.putObj l o').heap[B]? = some (.cells cs t fr) := by
  have hg := grownBy_putObj' W l o'
  refine (hg.block B (Array.getElem?_eq_some_iff.1 hB).1 (fun e => ?_)).trans hB
  have := Option.some.inj e
  subst this
  rw [h] at hB
  cases hB
  cases hc
theorem StepO.puts {O O' : Nat → Prop} {W W3 : World} {l : Nat} {o o1 o3 o4 : Obj} (h1 : W.heap[l]? = some o) (c1 : o.isCells = false) (h : StepO O O' (W.putObj l o1) W3) (h3 : W3.heap[l]? = some o3) (c3 : o3.isCells = false) : StepO O O' W (W3.putObj l o4) := by
  have z1 : (W.putObj l o1).heap.size = W.heap.size := by simp [World.putObj]
  have z3 : (W3.putObj l o4).heap.size = W3.heap.size := by simp [World.putObj]
  refine ⟨fun B hB => ?_, fun B hB => by rw [z3]; exact h.lt B hB, by rw [z3, ← z1]; exact h.size, fun B cs t fr hO hB => put_kp h3 c3 (h.kp B cs t fr hO (put_kp h1 c1 hB))⟩
  have := h.old B hB
  rw [z1] at this; exact this
section law
variable {F : Fence} {n : Nat} {P : Program}
/-- An iterator's word: it gives N elements; the i-th one, x, stands as Ew i O x says; the blocks Fx are those that it reads. -/
def GivesT (F : Fence) (n : Nat) (P : Program) (gf : Nat) (lb : Array Value) (Ew : Nat → (Nat → Prop) → Value → World → Prop) (N : Nat) (Fx : Nat → Prop) (w : World) : Prop :=
  ∀ (l : Nat) (J : Nat → (Nat → Prop) → World → Prop) (W : World) (O : Nat → Prop), Below w.heap.size w W → (∀ k O W1 W2, J k O W1 → Below W1.heap.size W1 W2 → J k O W2) →
    (∀ k O x W1, J k O W1 → k < N → (∀ B, O B → B < W1.heap.size) → Ew k O x W1 → YieldAt F (n - 1) P l #[x] W1 fun e W' => e = .returned (.bool true) ∧ ∃ O', J (k + 1) O' W' ∧ StepO (fun B => O B ∨ x.ownBlock = some B) O' W1 W') →
    (∀ B, O B → B < W.heap.size ∧ ¬ Fx B) → J 0 O W →
    CallsIn F n P gf (#[.func (.yield l) #[] #[]] ++ lb) W fun e W' => (∃ v, e = .returned v) ∧ ∃ O', J N O' W'
/-- How the body of a round is left. -/
def ownPostT (I : Nat → (Nat → Prop) → World → Prop) (k : Nat) (O : Nat → Prop) (x : Value) (W : World) : Exit → Act → World → Prop
  | .normal, _, W' => KeepsOthers W W' ∧ ∃ O', I (k + 1) O' W' ∧ StepO (fun B => O B ∨ x.ownBlock = some B) O' W W'
  | _, _, _ => False
theorem wpIn_range_T {g : Operand} {ps : Array Tmp} {assign body : Code} {Q : Exit → Act → World → Prop} {a : Act} {w : World} (hro : F.round = none) (h1 : 1 ≤ n) {gf : Nat} {lb : Array Value}
    (hg : a.eval g = .func (.func gf) #[] lb) (hF : F.fn gf) (he : ∀ args W, (callFunc gf args).run P W = .ok (.enter gf args) W) {Ew : Nat → (Nat → Prop) → Value → World → Prop} {N : Nat} {Fx : Nat → Prop}
    (hseq : GivesT F (n - 1) P gf lb Ew N Fx w) (hEw : ∀ k O x W l o o', Ew k O x W → W.heap[l]? = some o → o.isCells = false → Ew k O x (W.putObj l o')) (hps : ps.size = 1)
    (I : Nat → (Nat → Prop) → World → Prop) (hI : OwnFrom w.heap.size (fun (s : Nat × (Nat → Prop)) W => I s.1 s.2 W)) (O₀ : Nat → Prop) (hO : ∀ B, O₀ B → B < w.heap.size ∧ ¬ Fx B) (h0 : I 0 O₀ w) (b : Value → Act)
    (hassign : ∀ (l : Nat) (x : Value) (W : World) (K : Act → World → Prop), K (b x) W → assign.wpIn (F.inRound l) (n - 1 - 1) P (Exit.then K fun _ _ _ => False) { tmps := (ps.zip #[x]).foldl (fun t (p, v) => t.setIfInBounds p v) a.tmps, defers := [] } W)
    (hbody : ∀ (l k : Nat) (O : Nat → Prop) (x : Value) (W : World), I k O W → k < N → (∀ B, O B → B < W.heap.size) → Ew k O x W → body.wpIn (F.inRound l) (n - 1 - 1) P (ownPostT I k O x W) (b x) W)
    (hdone : ∀ (D : Nat) (O : Nat → Prop) (W : World), w.heap.size ≤ D → I N O W → W.heap[D]? = some (.deferred (some [])) → Q .normal { a with defers := { target := .collected D, args := #[] } :: a.defers } W) :
    (Code.rangeFunc g ps assign body).wpIn F n P Q a w := by
  apply wpIn_rangeFunc
  intro fn hfn
  rw [hro]
  let L : LoopState → Obj := fun s => .loop { state := s, pending := none, fn := fn, tmps := a.tmps, params := ps, assign := assign, body := body, defers := w.heap.size }
  obtain ⟨D, hD⟩ : ∃ D, D = w.heap.size := ⟨_, rfl⟩
  have hrun := run_enterLoop_outer (P := P) (w := w) fn a.tmps ps assign body
  let U : World := (w.alloc (.deferred (some []))).alloc (L .ready)
  have uD : U.heap[D]? = some (.deferred (some [])) := by
    rw [hD]
    exact (Below.heap_alloc (w.alloc (.deferred (some []))) (L .ready) _ (by simp)).trans (World.alloc_heap_new w _)
  have uL : U.heap[D + 1]? = some (L .ready) := by
    have h := World.alloc_heap_new (w.alloc (.deferred (some []))) (L .ready)
    rw [World.size_alloc, ← hD] at h; exact h
  have uB : Below w.heap.size w U := bl_alloc (bl_alloc (Below.refl _ _) _) _
  have put : ∀ {k : Nat} {O : Nat → Prop} {W : World} (o o' : Obj), I k O W → W.heap[D + 1]? = some o → o.isCells = false → I k O (W.putObj (D + 1) o') := fun {k O W} o o' h hl ho => hI.putObj (s := (k, O)) o' h (by omega) hl ho
  refine ⟨D + 1, [{ target := .collected D, args := #[] }], U, { target := .fn (.func gf) lb, args := #[.func (.yield (D + 1)) #[] #[]] }, U, gf, #[.func (.yield (D + 1)) #[] #[]] ++ lb, U, ?_, ?_, ?_, ?_, fun _ => h1, ?_⟩
  · rw [hD]; exact hrun
  · simp only [resolve, hg]; simp [go_sem]
  · intro f' hf'
    simp [Target.leads] at hf'
    rw [← hf']; exact hF
  · simp [invoke, go_sem, he]
  · let J : Nat → (Nat → Prop) → World → Prop := fun k O W => I k O W ∧ W.heap[D + 1]? = some (L .ready) ∧ W.heap[D]? = some (.deferred (some []))
    refine (hseq (D + 1) J U O₀ uB ?_ ?_ (fun B hB => ⟨Nat.lt_of_lt_of_le (hO B hB).1 uB.size, (hO B hB).2⟩) ⟨?_, uL, uD⟩).mono ?_
    · rintro k O W1 W2 ⟨h, hl, hd⟩ hb
      refine ⟨hI (k, O) W1 W2 none h ⟨hb.os, hb.tape, hb.output, hb.size, fun k hk _ => hb.block k hk⟩ (fun r e => by cases e), (hb.block _ (Array.getElem?_eq_some_iff.1 hl).1).trans hl, (hb.block _ (Array.getElem?_eq_some_iff.1 hd).1).trans hd⟩
    · rintro k O x W ⟨h, hl, hd⟩ hk hOl hx
      have lt : D + 1 < W.heap.size := (Array.getElem?_eq_some_iff.1 hl).1
      refine ⟨fn, _, assign, body, run_yield hl (by rw [hps]; rfl), roundIn_of_wpIn hfn (hassign _ x W _ ⟨_, run_beginRound hl rfl, ?_⟩)⟩
      let W2 : World := W.putObj (D + 1) (L .busy)
      have hl2 : W2.heap[D + 1]? = some (L .busy) := World.putObj_heap_same lt
      have hd2 : W2.heap[D]? = some (.deferred (some [])) := (World.putObj_heap_other (by omega)).trans hd
      have hz2 : W2.heap.size = W.heap.size := by show (W.putObj _ _).heap.size = _; simp [World.putObj]
      refine wpIn_mono (hbody (D + 1) k O x W2 (put _ _ h hl rfl) hk (fun B hB => by rw [hz2]; exact hOl B hB) (hEw k O x W (D + 1) _ _ hx hl rfl)) ?_
      intro e a3 W3 hp
      cases e with
      | normal =>
        obtain ⟨ko, O', h3, hst⟩ := hp
        have hl3 := ko.same _ _ hl2 rfl
        have hd3 := ko.same _ _ hd2 rfl
        have lt3 : D + 1 < W3.heap.size := (Array.getElem?_eq_some_iff.1 hl3).1
        exact ⟨_, _, run_endRound none hl3, rfl, O', ⟨put _ _ h3 hl3 rfl, World.putObj_heap_same lt3, (World.putObj_heap_other (by omega)).trans hd3⟩, StepO.puts hl rfl hst hl3 rfl⟩
      | ret => exact hp.elim
      | exit id => exact hp.elim
      | goto t => exact hp.elim
      | panic c => exact hp.elim
      | outgrown => exact hp.elim
    · exact hI.alloc (s := (0, O₀)) _ (hI.alloc (s := (0, O₀)) _ h0)
    · rintro e W2 ⟨⟨v, rfl⟩, O', h, hl, hd⟩
      refine ⟨none, _, run_endLoop hl (by simp), ?_⟩
      exact hdone D O' _ (by omega) (put _ _ h hl rfl) ((World.putObj_heap_other (by omega)).trans hd)
end law
end Go.Proofs.YtjmnakkkimgifaaGreatDoor
namespace Go.Proofs.YtjmnakkkimgifaaGreatDoor
open Go Go.RowKit Go.Shelf
theorem fl_iN_set (l : List Nat) (j v : Nat) : (fl encI (iN l)).set j (.int .i64 v) = fl encI (iN (l.set j v)) := by
  induction l generalizing j with
  | nil => simp [fl, iN]
  | cons x l ih =>
    have e : ∀ x (l : List Nat), fl encI (iN (x :: l)) = .int .i64 x :: fl encI (iN l) := fun x l => by simp [fl, iN, encI]
    cases j with
    | zero => simp [e]
    | succ j => simp only [e, List.set_cons_succ]; rw [ih]
theorem FamW.setAt {w : World} {base g n : Nat} {S : Nat → List Nat} {rs : Nat → Rw} (h : FamW w base g n S rs) {i j v bi cp : Nat} (hi : i < n) (hx : rs i = (some ⟨bi, 0, none⟩, (S i).length, cp)) :
    FamW (w.setCell ⟨bi, j, none⟩ (.int .i64 v)) base g n (fun r => if r = i then (S i).set j v else S r) rs := by
  have hob : (slR (rs i)).ownBlock = some bi := by rw [hx]; rfl
  refine ⟨?_, fun r hr => ?_, fun r hr => ?_, h.dis, h.far⟩
  · refine ownsRow_setCell_other (a := ⟨bi, j, none⟩) h.rows (fun e => h.far i hi ?_) _
    rw [hob]; have e1 : some g = some bi := e; rw [e1]
  · by_cases e : r = i
    · subst e
      simp only [if_pos, List.length_set]
      have h1 := h.row r hr
      rw [hx] at h1 ⊢
      have h2 := (World.ownsRow.stored h1 j (.int .i64 v)).1
      rw [fl_iN_set] at h2
      exact h2
    · simp only [if_neg e]
      refine ownsRow_setCell_other (a := ⟨bi, j, none⟩) (h.row r hr) (fun e2 => ?_) _
      rcases h.dis r i hr hi e with h1 | h1
      · rw [h1] at e2; cases e2
      · exact h1 (by rw [hob]; exact e2)
  · by_cases e : r = i
    · subst e
      simp only [if_pos, List.length_set]; exact h.len r hr
    · simp only [if_neg e]; exact h.len r hr
theorem lvK_sw {t : List Nd} {n c x : Nat} (hn : t.length = n) : lvK (swK t n c x) n = lvsL t n := by
  unfold lvK lvsL
  refine List.filter_congr fun v _ => ?_
  unfold swK leafB
  rw [hn]
  cases famL t n v <;> rfl
/-- The first child that is not c. -/
def sibI (t : List Nd) (n p c : Nat) : Nat := (famL t n p).findIdx fun u => u != c
theorem sib_idx {t : List Nd} {n p c y x : Nat} (hN : Nni t n p c y x) (h2 : (famL t n p).length = 2) : sibI t n p c < 2 ∧ vA (famL t n p) (sibI t n p c) = y ∧ idxF (fun z : Int => z != (c : Int)) (iN (famL t n p)) = (sibI t n p c : Int) := by
  obtain ⟨a, b, hk⟩ := len_two h2
  have hf := hN.fam
  have hpw := fam_pw t n p
  rw [hk] at hf hpw
  have hab : a < b := by simpa using hpw
  unfold sibI idxF
  rw [hk]
  have ha := (hf a).1 (by simp)
  have hb := (hf b).1 (by simp)
  have hc := (hf c).2 (.inl rfl)
  have hyc := hN.yc
  by_cases e : a = c
  · subst e
    have hby : b = y := by rcases hb with h | h <;> omega
    subst hby
    have e2 : (b != a) = true := by simpa using hyc
    have e4 : ((b : Int) != (a : Int)) = true := by simp; omega
    have f1 : [a, b].findIdx (fun u => u != a) = 1 := by simp [List.findIdx_cons, e2]
    have f2 : (iN [a, b]).findIdx (fun z : Int => z != (a : Int)) = 1 := by simp [iN, List.findIdx_cons, e4]
    have f3 : (iN [a, b]).any (fun z : Int => z != (a : Int)) = true := by simp [iN, e4]
    rw [f1, f2, f3]
    exact ⟨by omega, rfl, rfl⟩
  · have hay : a = y := by rcases ha with h | h <;> omega
    subst hay
    have e2 : (a != c) = true := by simpa using e
    have e4 : ((a : Int) != (c : Int)) = true := by simp; omega
    have f1 : [a, b].findIdx (fun u => u != c) = 0 := by simp [List.findIdx_cons, e2]
    have f2 : (iN [a, b]).findIdx (fun z : Int => z != (c : Int)) = 0 := by simp [iN, List.findIdx_cons, e4]
    have f3 : (iN [a, b]).any (fun z : Int => z != (c : Int)) = true := by simp [iN, e4]
    rw [f1, f2, f3]
    exact ⟨by omega, rfl, rfl⟩
theorem set_map_swp {l : List Nat} {x y j : Nat} (hn : l.Nodup) (hj : j < l.length) (hx : vA l j = x) (hy : y ∉ l) : l.set j y = l.map (swp x y) := by
  apply List.ext_getElem?
  intro i
  rw [List.getElem?_set, List.getElem?_map]
  rw [vA_get hj] at hx
  by_cases e : j = i
  · subst e
    rw [if_pos rfl, if_pos hj, List.getElem?_eq_getElem hj, hx]
    show some y = some (swp x y x)
    unfold swp; rw [if_pos rfl]
  · rw [if_neg e]
    by_cases hi : i < l.length
    · rw [List.getElem?_eq_getElem hi]
      show _ = some (swp x y l[i])
      have h1 : l[i] ≠ x := fun e2 => e ((List.getElem_inj hn).1 (by rw [hx, e2]))
      have h2 : l[i] ≠ y := fun e2 => hy (by rw [← e2]; exact List.getElem_mem hi)
      unfold swp; rw [if_neg h1, if_neg h2]
    · rw [List.getElem?_eq_none (by omega)]; rfl
theorem map_swp_id {l : List Nat} {x y : Nat} (hx : x ∉ l) (hy : y ∉ l) : l.map (swp x y) = l := by
  have : l.map (swp x y) = l.map id := List.map_congr_left fun u hu => by
    unfold swp
    rw [if_neg (fun e => hx (by rw [← e]; exact hu)), if_neg (fun e => hy (by rw [← e]; exact hu))]; rfl
  rw [this, List.map_id]
theorem nodup_lt {l : List Nat} (h : l.Pairwise (· < ·)) : l.Nodup := h.imp fun h => Nat.ne_of_lt h
/-- The children behind the exchange. -/
theorem sw_rows {t : List Nd} {n p c x i : Nat} (hN : Nni t n p c (sibT t n c) x) (h2 : (famL t n p).length = 2) (hi : i < (famL t n c).length) (hx : vA (famL t n c) i = x) :
    (fun r => if r = c then ((fun r => if r = p then (famL t n p).set (sibI t n p c) x else famL t n r) c).set i (sibT t n c) else (fun r => if r = p then (famL t n p).set (sibI t n p c) x else famL t n r) r) = swK t n c x := by
  have hcp : c ≠ p := by have := hN.pp; omega
  obtain ⟨y, hy⟩ : ∃ y, y = sibT t n c := ⟨_, rfl⟩
  unfold swK
  rw [← hy] at hN ⊢
  obtain ⟨s1, s2, _⟩ := sib_idx hN h2
  have px := hN.px
  have py := hN.py
  have pp := hN.pp
  have nx : ∀ v, v ≠ c → x ∉ famL t n v := fun v hv hm => hv (by have := (fam_mem.1 hm).2.2; omega)
  have ny : ∀ v, v ≠ p → y ∉ famL t n v := fun v hv hm => hv (by have := (fam_mem.1 hm).2.2; omega)
  funext r
  try dsimp only
  by_cases e : r = c
  · subst e
    rw [if_pos rfl, if_neg hcp]
    exact set_map_swp (nodup_lt (fam_pw t n r)) hi hx (ny r hcp)
  · rw [if_neg e]
    by_cases e2 : r = p
    · subst e2
      rw [if_pos rfl]
      have h3 := set_map_swp (x := y) (y := x) (nodup_lt (fam_pw t n r)) (by omega) s2 (nx r e)
      rw [h3]
      exact List.map_congr_left fun u _ => swp_comm y x u
    · rw [if_neg e2]
      exact (map_swp_id (nx r e) (ny r e2)).symm
/-- The trees that come before those of node c. -/
def befL (t : List Nd) (n c : Nat) : List (List Nd) := (List.range' 1 (c - 1)).flatMap fun c => (famL t n c).map fun x => nearAt t n c x
theorem befL_succ {t : List Nd} {n c : Nat} (h : 1 ≤ c) : befL t n (c + 1) = befL t n c ++ (famL t n c).map fun x => nearAt t n c x := by
  unfold befL
  rw [show c + 1 - 1 = (c - 1) + 1 by omega, List.range'_1_concat, List.flatMap_append, show 1 + (c - 1) = c by omega]
  simp
theorem befL_le {t : List Nd} {n c : Nat} : ∀ d, 1 ≤ c → befL t n c <+: befL t n (c + d) := by
  intro d hc
  induction d with
  | zero => exact List.prefix_refl _
  | succ d ih => exact ih.trans (by rw [show c + (d + 1) = (c + d) + 1 by omega, befL_succ (by omega)]; exact List.prefix_append _ _)
def vT (T : List (List Nd)) (k : Nat) : List Nd := T.getD k []
theorem near_at {t : List Nd} {n c i : Nat} (h1 : 1 ≤ c) (hc : c < n) (hi : i < (famL t n c).length) : (befL t n c).length + i < (nearL t n).length ∧ vT (nearL t n) ((befL t n c).length + i) = nearAt t n c (vA (famL t n c) i) := by
  have h3 : befL t n (c + 1) <+: nearL t n := by
    have h := befL_le (t := t) (n := n) (c := c + 1) (n - (c + 1)) (by omega)
    rw [show c + 1 + (n - (c + 1)) = n by omega] at h
    exact h
  rw [befL_succ h1] at h3
  obtain ⟨r, hr⟩ := h3
  rw [← hr]
  refine ⟨by simp; omega, ?_⟩
  unfold vT
  rw [List.getD_eq_getElem?_getD, List.getElem?_append_left (by simp; omega), List.getElem?_append_right (by omega), Nat.add_sub_cancel_left, List.getElem?_map, List.getElem?_eq_getElem hi, vA_get hi]
  rfl
set_option maxHeartbeats 1000000 in
theorem nb11_any (u c z : Nat) (W : World) (hz : W.cell? ⟨z, 0, none⟩ = some (.int .i64 c)) :
    Calls Tryz.prog 69 #[.int .i64 (u : Int), .pointer (some ⟨z, 0, none⟩)] W fun e w' => e = .returned (.bool ((u : Int) != (c : Int))) ∧ Below W.heap.size W w' := by
  go_enter Tryz.func69, Tryz.ntmps69
  go_wp2
  go_ret
  exact ⟨rfl, Below.refl _ _⟩
theorem neighbours_any (a : Option Addr) (n c : Nat) (w : World) :
    Calls Tryz.prog 44 #[.slice a n c] w fun e w' => e = .returned (.func (.func 67) #[] #[.pointer (some ⟨w.heap.size, 0, none⟩)]) ∧ w' = w.alloc (.cells #[.slice a n c] 25) := by
  go_enter Tryz.func44, Tryz.ntmps44
  go_wp2
  go_ret
  exact ⟨rfl, rfl⟩
end Go.Proofs.YtjmnakkkimgifaaGreatDoor
namespace Go.Proofs.YtjmnakkkimgifaaGreatDoor
open Go Go.RowKit Go.Shelf
attribute [local go_sem] Oper.semAt_some
/-- The number behind a pointer, as a measure. -/
def ptrC (w : World) : Value → Nat
  | .pointer (some a) => match w.cell? a with
    | some v => (intOf v).toNat
    | none => 0
  | _ => 0
theorem ptrC_eq {w : World} {I i : Nat} (h : w.cell? ⟨I, 0, none⟩ = some (.int .i64 i)) : ptrC w (.pointer (some ⟨I, 0, none⟩)) = i := by
  unfold ptrC
  simp only [h]
  simp [intOf]
/-- The blocks O are those of the caller alone. -/
def OwnO (O : Nat → Prop) (w : World) (z X : Nat) (a : Option Addr) : Prop := ∀ B, O B → B < w.heap.size ∧ B ≠ z ∧ B ≠ X ∧ ∀ b o, a = some ⟨b, o, none⟩ → B ≠ b
/-- How an element of the iterator stands. -/
def EwN (base n : Nat) (T : List (List Nd)) (k : Nat) (O : Nat → Prop) (x : Value) (W : World) : Prop := ∃ g, x = .slice (some ⟨g, 0, none⟩) n n ∧ ¬ O g ∧ W.ownsRow base 46 2 x n (fl encNd (vT T k))
theorem FamW.at {w : World} {base g n : Nat} {S : Nat → List Nat} {rs : Nat → Rw} (h : FamW w base g n S rs) {i : Nat} (hi : i < n) (h0 : 0 < (S i).length) : ∃ b cp, rs i = (some ⟨b, 0, none⟩, (S i).length, cp) ∧ b < w.heap.size ∧ base ≤ b := by
  have h1 := h.row i hi
  have h2 := h.len i hi
  obtain ⟨x, hx⟩ : ∃ x, x = rs i := ⟨_, rfl⟩
  rw [← hx] at h1 h2 ⊢
  obtain ⟨A, m, cp⟩ := x
  have h2' : m = (S i).length := h2
  subst h2'
  obtain ⟨a', cap, he, h3⟩ := owns_slice h1
  rcases h3 with h3 | ⟨g', h4, h5, h6⟩
  · omega
  · have he' : Value.slice A (S i).length cp = .slice a' (S i).length cap := he
    injection he' with e1 e2 e3
    exact ⟨g', cp, by rw [e1, h6], h5, h4⟩
theorem StepO.rd {O O' : Nat → Prop} {W W' : World} (h : StepO O O' W W') {a : Option Addr} {cs : List Value} (hR : Rd W a cs) (hne : ∀ b o, a = some ⟨b, o, none⟩ → ¬ O b) : Rd W' a cs := by
  intro h0
  obtain ⟨b, off, e, hlt, hc⟩ := hR h0
  have key : ∀ o, W.heap[b]? = some o → W'.heap[b]? = some o ∨ o.isCells = false := fun o ho => by
    cases o with
    | cells cs t fr => exact .inl (h.kp b cs t fr (hne b off e) ho)
    | _ => exact .inr rfl
  refine ⟨b, off, e, Nat.lt_of_lt_of_le hlt h.size, fun i hi => ?_⟩
  have hci := hc i hi
  unfold World.cell? at hci ⊢
  dsimp only at hci ⊢
  cases ho : W.heap[b]? with
  | none => rw [ho] at hci; cases hci
  | some o =>
    rcases key o ho with h1 | h1
    · rw [h1]; rw [ho] at hci; exact hci
    · rw [ho] at hci
      cases o <;> first | (cases h1; done) | (simp at hci)
set_option maxRecDepth 100000 in
set_option maxHeartbeats 8000000 in
theorem nb_gives (m n X ca base : Nat) (a : Option Addr) (t : List Nd) (w : World) (hn : t.length = n) (hok : TreeOk t) (hbin : BinT t n) (hm : 1 ≤ m) (hX : Blk w X #[.slice a n ca] 25) (hR : Rd w a (fl encNd t)) (hbase : base ≤ w.heap.size) :
    GivesT Fence.wide m Tryz.prog 67 #[.pointer (some ⟨X, 0, none⟩)] (EwN base n (nearL t n)) (nearL t n).length (fun B => B = X ∨ ∃ b o, a = some ⟨b, o, none⟩ ∧ B = b) w := fun l J W O hW hJb hY hO hJ0 => by
  have h1n : 1 ≤ n := by have := hok.1; omega
  have h63 : n ≤ 63 := by have := hok.2.1; omega
  have HN := Lib.hid hn
  have HOK := Lib.hid hok
  have HBT := Lib.hid hbin
  have HJB := Lib.hid hJb
  have HY := Lib.hid hY
  have hb1 := bl_alloc (Below.refl _ W) (.cells #[.int .i64 1] 3)
  have HJ1 : Hid (J (befL t n 1).length O (W.alloc (.cells #[.int .i64 1] 3))) := hJb 0 O _ _ hJ0 hb1
  have HX1 := Lib.hid (hX.below (bl_trans hW hb1))
  have HR1 := Lib.hid (hR.bl (bl_trans hW hb1))
  have HZ1 : Hid (Blk (W.alloc (.cells #[.int .i64 1] 3)) W.heap.size #[.int .i64 ((1 : Nat) : Int)] 3) := Blk.new W #[.int .i64 1] 3
  have HB1 : base ≤ (W.alloc (.cells #[.int .i64 1] 3)).heap.size := by have := (bl_trans hW hb1).size; omega
  have HO1 : Hid (OwnO O (W.alloc (.cells #[.int .i64 1] 3)) W.heap.size X a) := fun B hB => by
    obtain ⟨h1, h2⟩ := hO B hB
    exact ⟨by rw [World.size_alloc]; omega, by omega, fun e => h2 (.inl e), fun b o e e2 => h2 (.inr ⟨b, o, e, e2⟩)⟩
  clear hn hok hbin hJb hY hX hR hO hJ0 hb1 hW
  refine callsIn_of_wp Tryz.func67 rfl trivial ?_ rfl
  simp only [Tryz.ntmps67, List.size_toArray, List.length_cons, List.length_nil, Nat.reduceAdd, Nat.reduceSub, Array.replicate_succ, Array.replicate_zero, List.push_toArray, List.append_toArray, List.nil_append, List.cons_append]
  gi_wp2
  gi_loopw [3] (fun x wx => ∃ c z : Nat, 1 ≤ c ∧ c ≤ n ∧ x = .pointer (some ⟨z, 0, none⟩) ∧ Hid (Blk wx z #[.int .i64 c] 3) ∧ Hid (Blk wx X #[.slice a n ca] 25) ∧ Hid (Rd wx a (fl encNd t)) ∧ base ≤ wx.heap.size ∧ ∃ O, Hid (J (befL t n c).length O wx) ∧ Hid (OwnO O wx z X a)) (fun x wx => n - ptrC wx x)
  case atStart => exact ⟨1, W.heap.size, by omega, h1n, rfl, HZ1, HX1, HR1, HB1, O, HJ1, HO1⟩
  case round =>
    clear HJ1 HZ1 HX1 HR1 HB1 HO1
    obtain ⟨c, z, hc1, hcn, rfl, hZ, hX, hR, hbs, O2, hJ, hO⟩ := hrel
    have hmz := ptrC_eq (hZ.out.cell 0)
    have HMZ := Lib.hid hmz
    clear hmz
    by_cases hlt : c < n
    · have c1 : wr.cell? ⟨z, 0, none⟩ = some (.int .i64 c) := hZ.out.cell 0
      obtain ⟨ba, oa, rfl, hba, hca⟩ := rdNd hR.out (by rw [HN.out]; omega)
      have c2 : wr.cell? ⟨X, 0, none⟩ = some (.slice (some ⟨ba, oa, none⟩) n ca) := hX.out.cell 0
      obtain ⟨G0, _⟩ := hca c (by rw [HN.out]; exact hlt)
      have HP : Hid (∀ v, 0 < v → v < n → 0 ≤ nP t v ∧ nP t v < v) := tok_par HN.out HOK.out
      have HP2 : Hid (∀ v, 0 < v → v < n → 0 ≤ nP t v ∧ nP t v < n) := fun v h1 h2 => by have := HP.out v h1 h2; omega
      have HRT : Hid (nP t 0 < 0) := tok_root HOK.out
      obtain ⟨p0, p1⟩ := HP.out c (by omega) hlt
      obtain ⟨p, hp⟩ : ∃ p : Nat, nP t c = p := ⟨(nP t c).toNat, by omega⟩
      rw [hp] at G0 p1
      have HPP := Lib.hid hp
      have hzl := hZ.out.lt
      have hXl := hX.out.lt
      have HCH : Hid (∀ W', Below wr.heap.size wr W' → Calls Tryz.prog 38 #[.slice (some ⟨ba, oa, none⟩) n ca] W' fun e w' => ∃ g rs, e = .returned (.slice (some ⟨g, 0, none⟩) n n) ∧ FamW w' W'.heap.size g n (fun v => famL t n v) rs ∧ Below W'.heap.size W' w') := fun W' hb => children_any _ n ca t W' HN.out (by omega) (hR.out.bl hb) HP2.out HRT.out
      have hl63 := famL_le t n c
      clear hca p0 hp
      refine wpIn_wide.2 ?_
      go_upto_region 4 with fail
      go_cut [24, 25] (fun x y wx => x = .int .i64 (famL t n c).length ∧ y = .int .i64 0 ∧ Hid (Below wr.heap.size wr wx))
      case first =>
        refine wp_region_noPanic (wp_region_held_drew (S := fun w' => w'.cell? ⟨z, 0, none⟩ = some (.int .i64 c) ∧ w'.cell? ⟨X, 0, none⟩ = some (.slice (some ⟨ba, oa, none⟩) n ca)) (by kernel_rfl) ⟨c1, c2⟩ (fun hHeld => ?_))
        refine wpAnyH_take (i := 0) (oi := { dst := some 19, op := .load 25 (.tmp 1), type := 25, pos := "pars.go:133", after := #[], guard := none }) (v := .slice (some ⟨ba, oa, none⟩) n ca) rfl (by kernel_rfl) (by kernel_rfl) (by kernel_rfl) (fun _ _ _ h => h) (Or.inl ⟨by rfl, by intro w hSw; obtain ⟨s0, s1⟩ := hSw; go_simp; try rfl⟩) (by assumption) ?_
        simp only [Act.put, List.setIfInBounds_toArray, List.set_cons_zero, List.set_cons_succ]
        refine wpAnyH_take (i := 2) (oi := { dst := some 21, op := .load 3 (.tmp 3), type := 3, pos := "pars.go:133", after := #[], guard := none }) (v := .int .i64 c) rfl (by kernel_rfl) (by kernel_rfl) (by kernel_rfl) (fun _ _ _ h => h) (Or.inl ⟨by rfl, by intro w hSw; obtain ⟨s0, s1⟩ := hSw; go_simp; try rfl⟩) (by assumption) ?_
        simp only [Act.put, List.setIfInBounds_toArray, List.set_cons_zero, List.set_cons_succ]
        refine wpAnyH_take (i := 6) (oi := { dst := some 25, op := .move (.const (.int .i64 0)), type := 3, pos := "pars.go:133", after := #[], guard := none }) (v := .int .i64 0) rfl (by kernel_rfl) (by kernel_rfl) (by kernel_rfl) (fun _ _ _ h => h) (Or.inl ⟨by rfl, by intro w hSw; obtain ⟨s0, s1⟩ := hSw; go_simp; try rfl⟩) (by assumption) ?_
        simp only [Act.put, List.setIfInBounds_toArray, List.set_cons_zero, List.set_cons_succ]
        refine wpAnyH_ready (rs := [1]) (by kernel_rfl) (by simp) ?_
        refine AllReadyH.cons rfl (fun K hK => ?_) AllReadyH.nil
        go_simp
        refine (HCH.out _ (bl_drewN (Below.refl _ _) 1)).mono ?_
        rintro e w8 ⟨g8, rs8, rfl, hF8, hb8⟩
        have hb9 : Below wr.heap.size wr w8 := bl_trans (bl_drewN (Below.refl _ _) 1) hb8
        have j0 := (hb9.cell (p := ⟨z, 0, none⟩) hzl).trans c1
        have j1 := (hb9.cell (p := ⟨X, 0, none⟩) hXl).trans c2
        have j2 : w8.cell? ⟨g8, c, none⟩ = some (.slice (rs8 c).1 (famL t n c).length (rs8 c).2.2) := by
          have h := hF8.cell hlt
          unfold slR at h
          rw [hF8.len c hlt] at h
          exact h
        have HB9 := Lib.hid hb9
        clear hF8 hb8 hb9
        refine hK.out _ _ ⟨j0, j1⟩ (fun hHeld => ?_)
        clear hK K
        try simp only [Act.put, List.setIfInBounds_toArray, List.set_cons_zero, List.set_cons_succ]
        refine wpAnyH_take (i := 3) (oi := { dst := some 22, op := .indexAddr 68 (.tmp 20) (.tmp 21), type := 0, pos := "pars.go:133", after := #[{ on := 1, ground := .data }, { on := 2, ground := .data }], guard := none }) (v := .pointer (some ⟨g8, c, none⟩)) rfl (by kernel_rfl) (by kernel_rfl) (by kernel_rfl) (fun _ _ _ h => h) (Or.inl ⟨by rfl, by intro w hSw; obtain ⟨s0, s1⟩ := hSw; go_simp; try rfl⟩) (by assumption) ?_
        simp only [Act.put, List.setIfInBounds_toArray, List.set_cons_zero, List.set_cons_succ]
        refine wpAnyH_ready (rs := [4]) (by kernel_rfl) (by simp) ?_
        refine AllReadyH.cons rfl (fun K hK => ?_) AllReadyH.nil
        go_simp
        refine hK.out _ _ ⟨j0, j1⟩ (fun hHeld => ?_)
        clear hK K
        try simp only [Act.put, List.setIfInBounds_toArray, List.set_cons_zero, List.set_cons_succ]
        refine wpAnyH_take (i := 5) (oi := { dst := some 24, op := .call { callee := .builtin .len, args := #[.tmp 23], argTypes := #[29] }, type := 3, pos := "pars.go:133", after := #[{ on := 4, ground := .data }], guard := none }) (v := .int .i64 (famL t n c).length) rfl (by kernel_rfl) (by kernel_rfl) (by kernel_rfl) (fun _ _ _ h => h) (Or.inl ⟨by rfl, by intro w hSw; obtain ⟨s0, s1⟩ := hSw; go_simp; try rfl⟩) (by assumption) ?_
        simp only [Act.put, List.setIfInBounds_toArray, List.set_cons_zero, List.set_cons_succ]
        refine wpAnyH_done (by kernel_rfl) ?_ _
        refine NoPanic.normal ?_
        all_goals
          go_wp2_with fail
          go_meet
          exact ⟨rfl, rfl, HB9⟩
      case rest =>
        obtain ⟨rfl, rfl, hbl⟩ := hcut
        have HZ2 := Lib.hid (hZ.out.below hbl.out)
        have HX2 := Lib.hid (hX.out.below hbl.out)
        have HR2 := Lib.hid (hR.out.bl hbl.out)
        have HJ2 : Hid (J ((befL t n c).length + 0) O2 wc) := HJB.out _ _ _ _ hJ.out hbl.out
        have HO2 : Hid (OwnO O2 wc z X (some ⟨ba, oa, none⟩)) := fun B hB => by
          obtain ⟨h1, h2⟩ := hO.out B hB
          exact ⟨Nat.lt_of_lt_of_le h1 hbl.out.size, h2⟩
        have HS2 : base ≤ wc.heap.size := Nat.le_trans hbs hbl.out.size
        have HFK : Hid (∀ i, i < (famL t n c).length → (famL t n p).length = 2) := fun i hi => by
          have hm1 : c ∈ famL t n p := fam_mem.2 ⟨hlt, by omega, HPP.out⟩
          rcases HBT.out p (by omega) with h | h
          · rw [List.eq_nil_of_length_eq_zero h] at hm1; cases hm1
          · exact h
        obtain ⟨M, hM⟩ : ∃ M, M = (famL t n c).length := ⟨_, rfl⟩
        rw [← hM] at hl63 HFK ⊢
        have HM := Lib.hid hM
        clear hZ hX hR hJ hO hbs hbl c1 c2 G0 hba hzl hXl HCH hM
        go_wp2_with fail
        refine (wpIn_wide (n := m)).1 ?_
        obtain ⟨wo, rfl⟩ : ∃ x : World, x = wc := ⟨_, rfl⟩
        gi_loopw [25] (fun y wx => ∃ i : Nat, i ≤ M ∧ y = .int .i64 i ∧ Hid (Blk wx z #[.int .i64 c] 3) ∧ Hid (Blk wx X #[.slice (some ⟨ba, oa, none⟩) n ca] 25) ∧ Hid (Rd wx (some ⟨ba, oa, none⟩) (fl encNd t)) ∧ base ≤ wx.heap.size ∧ ∃ O, Hid (J ((befL t n c).length + i) O wx) ∧ Hid (OwnO O wx z X (some ⟨ba, oa, none⟩))) (fun y _ => M - (intOf y).toNat)
        case atStart => exact ⟨0, by omega, rfl, HZ2, HX2, HR2, HS2, O2, HJ2, HO2⟩
        case round =>
          clear HZ2 HX2 HR2 HJ2 HO2 HS2
          obtain ⟨i, hi, rfl, hZ, hX, hR, hbs, O3, hJ, hO⟩ := hrel
          by_cases hlt2 : i < M
          · as_aux_lemma =>
              have hxm : vA (famL t n c) i ∈ famL t n c := by rw [vA_get (by rw [← HM.out]; exact hlt2)]; exact List.getElem_mem _
              have hNN := nni_of HN.out HOK.out HBT.out (by omega) hlt hxm
              rw [HPP.out, Int.toNat_natCast] at hNN
              have h2p := HFK.out i hlt2
              obtain ⟨s1, s2, s3⟩ := sib_idx hNN h2p
              have hsw := sw_rows hNN h2p (by rw [← HM.out]; exact hlt2) rfl
              have hna := near_at (t := t) (n := n) hc1 hlt (by rw [← HM.out]; exact hlt2)
              obtain ⟨sh, hsh⟩ := shT_of HN.out HOK.out HBT.out
              obtain ⟨XX, YY, hE⟩ := ex_ok HN.out HOK.out HBT.out hsh hNN rfl
              have HK3 : Hid (Sub (swK t n c (vA (famL t n c) i)) (exS t n c (vA (famL t n c) i)) ∧ (exS t n c (vA (famL t n c) i)).top = 0 ∧ (exS t n c (vA (famL t n c) i)).all.Perm (List.range n)) := ⟨hE.sub, hE.top, hE.perm⟩
              have HNA := Lib.hid hna
              have HSW := Lib.hid hsw
              have HS3 := Lib.hid s3
              have HS2 := Lib.hid s2
              have HXN : Hid (vA (famL t n c) i < n) := hNN.xn
              obtain ⟨q, hq⟩ : ∃ q, q = sibI t n p c := ⟨_, rfl⟩
              obtain ⟨y, hy⟩ : ∃ y, y = sibT t n c := ⟨_, rfl⟩
              obtain ⟨x, hx⟩ : ∃ x, x = vA (famL t n c) i := ⟨_, rfl⟩
              rw [← hq] at s1 HSW HS3 HS2
              rw [← hy] at HSW HS2
              rw [← hx] at HK3 HNA HSW HXN
              have HXX := Lib.hid hx
              have HQ := Lib.hid hq
              clear hxm hNN s2 s3 hsw hna hsh hE hq hy hx XX YY sh
              have c1 : wr.cell? ⟨z, 0, none⟩ = some (.int .i64 c) := hZ.out.cell 0
              have c2 : wr.cell? ⟨X, 0, none⟩ = some (.slice (some ⟨ba, oa, none⟩) n ca) := hX.out.cell 0
              have HCH : Hid (Calls Tryz.prog 38 #[.slice (some ⟨ba, oa, none⟩) n ca] wr fun e w' => ∃ g rs, e = .returned (.slice (some ⟨g, 0, none⟩) n n) ∧ FamW w' wr.heap.size g n (fun v => famL t n v) rs ∧ Below wr.heap.size wr w') := children_any _ n ca t wr HN.out (by omega) hR.out HP2.out HRT.out
              refine wpIn_wide.2 ?_
              go_wp2_with fail
              refine HCH.out.mono ?_
              rintro e w7 ⟨g, rs, rfl, hF, hb7⟩
              obtain ⟨bp, kp, hrp, hbp, hbp2⟩ := hF.at (i := p) (by omega) (by rw [h2p]; omega)
              obtain ⟨bc, kc, hrc, hbc, hbc2⟩ := hF.at (i := c) hlt (by rw [← HM.out]; omega)
              rw [h2p] at hrp
              rw [← HM.out] at hrc
              have hZ7 := hZ.out.below hb7
              have hX7 := hX.out.below hb7
              have c3 : w7.cell? ⟨z, 0, none⟩ = some (.int .i64 c) := hZ7.cell 0
              have c4 : w7.cell? ⟨g, p, none⟩ = some (.slice (some ⟨bp, 0, none⟩) 2 kp) := by have h := hF.cell (i := p) (by omega); rw [hrp] at h; exact h
              have hrdp : Rd w7 (some ⟨bp, 0, none⟩) (fl encI (iN (famL t n p))) := by have h := hF.row p (by omega); rw [hrp, h2p] at h; exact rd_of_owns h
              have HIX := Lib.hid (indexI_any 69 (enters_of Tryz.func69 (by kernel_rfl) rfl) #[.pointer (some ⟨z, 0, none⟩)] (fun u : Int => u != (c : Int)) (some ⟨bp, 0, none⟩) 2 kp (iN (famL t n p)) w7 (by rw [iN_len, h2p]) (by omega) hrdp (fun j hj W hW => by
                rw [iN_get]
                exact nb11_any _ c z W ((hW.cell (p := ⟨z, 0, none⟩) hZ7.lt).trans c3)))
              rw [HS3.out] at HIX
              have HF := Lib.hid hF
              have HB7 := Lib.hid hb7
              have HZ7 := Lib.hid hZ7
              have HX7 := Lib.hid hX7
              have HRP := Lib.hid hrp
              have HRC := Lib.hid hrc
              have H2P := Lib.hid h2p
              clear hF hb7 hZ7 hX7 hrp hrc hrdp h2p HCH c1 c2
              go_wp2_with fail
              refine HIX.out.mono ?_
              rintro e w9 ⟨rfl, hb9⟩
              have hF9 := HF.out.bl hb9
              have hZ9 := HZ7.out.below hb9
              have hcp : c ≠ p := by omega
              have hne : bc ≠ bp := fun e => by
                rcases HF.out.dis c p hlt (by omega) hcp with h | h
                · rw [HRC.out] at h; cases h
                · rw [HRC.out, HRP.out] at h; exact h (by show some bc = some bp; rw [e])
              have d1 : w9.cell? ⟨z, 0, none⟩ = some (.int .i64 c) := hZ9.cell 0
              have d2 : w9.cell? ⟨g, p, none⟩ = some (.slice (some ⟨bp, 0, none⟩) 2 kp) := by have h := hF9.cell (i := p) (by omega); rw [HRP.out] at h; exact h
              have d3 : w9.cell? ⟨g, c, none⟩ = some (.slice (some ⟨bc, 0, none⟩) M kc) := by have h := hF9.cell hlt; rw [HRC.out] at h; exact h
              have hrp9 := hF9.row p (by omega)
              have hrc9 := hF9.row c hlt
              rw [HRP.out, H2P.out] at hrp9
              rw [HRC.out, ← HM.out] at hrc9
              have d4 : w9.cell? ⟨bp, q, none⟩ = some (.int .i64 y) := by
                obtain ⟨b', o', e', _, h⟩ := rdI (rd_of_owns hrp9) (by rw [iN_len, H2P.out]; omega)
                cases e'
                have h := h q (by rw [iN_len, H2P.out]; exact s1)
                rw [iN_get, HS2.out, Nat.zero_add] at h; exact h
              have d5 : w9.cell? ⟨bc, i, none⟩ = some (.int .i64 x) := by
                obtain ⟨b', o', e', _, h⟩ := rdI (rd_of_owns hrc9) (by rw [iN_len, ← HM.out]; omega)
                cases e'
                have h := h i (by rw [iN_len, ← HM.out]; exact hlt2)
                rw [iN_get, ← HXX.out, Nat.zero_add] at h; exact h
              have z1 : w9.frozen? ⟨bp, q, none⟩ = false := World.ownsRow.frozenAt hrp9 q
              have z2 : w9.frozen? ⟨bc, i, none⟩ = false := World.ownsRow.frozenAt hrc9 i
              have HF9 := Lib.hid hF9
              have HB9 := Lib.hid (bl_trans HB7.out hb9)
              have HZ9 := Lib.hid hZ9
              have HX9 := Lib.hid (HX7.out.below hb9)
              have hnp : ¬ (bp = bc) := fun e => hne e.symm
              clear hF9 hb9 hZ9 hrp9 hrc9 HIX HF HB7 HZ7 HX7 c3 c4
              as_aux_lemma =>
                go_upto_region 9 with fail
                go_region
                have hFS := (((HF9.out.setAt (i := p) (j := q) (v := x) (by omega) (by rw [HRP.out, H2P.out])).setAt (i := c) (j := i) (v := y) hlt (by rw [HRC.out, if_neg hcp, ← HM.out])).bl (bl_drewN (Below.refl _ _) 1))
                have hsz9 := HB9.out.size
                have hBS : Below wr.heap.size wr ((w9.setCell ⟨bp, q, none⟩ (.int .i64 x)).setCell ⟨bc, i, none⟩ (.int .i64 y)).drew := bl_drewN (bl_set (bl_set HB9.out _ _ _ _ hbp2) _ _ _ _ hbc2) 1
                rw [HSW.out] at hFS
                obtain ⟨wS, hwS⟩ : ∃ u, u = ((w9.setCell ⟨bp, q, none⟩ (.int .i64 x)).setCell ⟨bc, i, none⟩ (.int .i64 y)).drew := ⟨_, rfl⟩
                rw [← hwS] at hBS ⊢
                have hFS' : FamW wS wr.heap.size g n (swK t n c x) rs := by rw [hwS]; exact hFS
                have HFS := Lib.hid hFS'
                have HBS := Lib.hid hBS
                have HZS := Lib.hid (hZ.out.below hBS)
                have HXS := Lib.hid (hX.out.below hBS)
                have HRS := Lib.hid (hR.out.bl hBS)
                have c2 : wS.cell? ⟨X, 0, none⟩ = some (.slice (some ⟨ba, oa, none⟩) n ca) := HXS.out.cell 0
                have HNB := Lib.hid (numbered_any (some ⟨ba, oa, none⟩) n ca g n t (swK t n c x) rs (exS t n c x) wS HN.out (by omega) HRS.out HFS.out.subR HK3.out.1 HK3.out.2.1 HK3.out.2.2)
                rw [lvK_sw HN.out] at HNB
                clear hFS hFS' hBS hwS d1 d2 d3 d4 d5 z1 z2 HF9 HB9 HZ9 HX9 hnp hne hcp HRP HRC
                go_upto_region 10 with fail
                refine (wpIn_wide (n := m)).1 ?_
                gi_wp2
                refine ⟨trivial, (callsIn_wide.2 HNB.out).mono ?_⟩
                rintro e w11 ⟨g', rfl, how, hb11⟩
                have hB11 := bl_trans HBS.out hb11
                have hJ11 := HJB.out _ _ _ _ hJ.out hB11
                have hlt11 := how.lt g' rfl
                have hgz : wr.heap.size ≤ g' := by have := hlt11.1; have := HBS.out.size; omega
                have hE11 : EwN base n (nearL t n) ((befL t n c).length + i) O3 (.slice (some ⟨g', 0, none⟩) n n) w11 := by
                  refine ⟨g', rfl, fun h => ?_, ?_⟩
                  · have := (hO.out g' h).1; have := HBS.out.size; omega
                  · rw [HNA.out.2]
                    unfold nearAt
                    exact owns_mono how (by have := HBS.out.size; omega)
                have hO11 : ∀ B, O3 B → B < w11.heap.size := fun B hB => Nat.lt_of_lt_of_le (hO.out B hB).1 hB11.size
                obtain ⟨fn, tmps, assign, body, hy, hR2⟩ := HY.out _ O3 _ w11 hJ11 HNA.out.1 hO11 hE11
                have HZ11 := Lib.hid (HZS.out.below hb11)
                have HX11 := Lib.hid (HXS.out.below hb11)
                have HR11 := Lib.hid (HRS.out.bl hb11)
                have HB11 := Lib.hid hB11
                clear hJ11 hE11 hO11 hlt11 how hb11 hB11 HZS HXS HRS HBS HFS HNB c2
                as_aux_lemma =>
                  gi_wp2
                  refine hR2.mono ?_
                  rintro e W3 ⟨rfl, O', hJ3, hst⟩
                  have HJ3 : Hid (J ((befL t n c).length + (i + 1)) O' W3) := hJ3
                  have hzO : ¬ (O3 z ∨ (Value.slice (some ⟨g', 0, none⟩) n n).ownBlock = some z) := fun h => by
                    rcases h with h | h
                    · exact (hO.out z h).2.1 rfl
                    · have := Option.some.inj (show some g' = some z from h); have := hZ.out.lt; omega
                  have hXO : ¬ (O3 X ∨ (Value.slice (some ⟨g', 0, none⟩) n n).ownBlock = some X) := fun h => by
                    rcases h with h | h
                    · exact (hO.out X h).2.2.1 rfl
                    · have := Option.some.inj (show some g' = some X from h); have := hX.out.lt; omega
                  have hbO : ¬ (O3 ba ∨ (Value.slice (some ⟨g', 0, none⟩) n n).ownBlock = some ba) := fun h => by
                    rcases h with h | h
                    · exact (hO.out ba h).2.2.2 ba oa rfl rfl
                    · have := Option.some.inj (show some g' = some ba from h)
                      obtain ⟨b', o', e', hb', _⟩ := rdNd hR.out (by rw [HN.out]; omega)
                      cases e'
                      omega
                  have HZ3 : Hid (Blk W3 z #[.int .i64 c] 3) := hst.kp z _ _ _ hzO HZ11.out
                  have HX3 : Hid (Blk W3 X #[.slice (some ⟨ba, oa, none⟩) n ca] 25) := hst.kp X _ _ _ hXO HX11.out
                  have HR3 : Hid (Rd W3 (some ⟨ba, oa, none⟩) (fl encNd t)) := hst.rd HR11.out (fun b o e => by cases e; exact hbO)
                  have HBS3 : base ≤ W3.heap.size := by have := hst.size; have := HB11.out.size; omega
                  have HO3 : Hid (OwnO O' W3 z X (some ⟨ba, oa, none⟩)) := fun B hB => by
                    have h1 := hst.lt B hB
                    rcases hst.old B hB with h2 | h2
                    · rcases h2 with h2 | h2
                      · exact ⟨h1, (hO.out B h2).2⟩
                      · have e := Option.some.inj (show some g' = some B from h2)
                        have := hZ.out.lt
                        have := hX.out.lt
                        refine ⟨h1, by omega, by omega, fun b o e e2 => ?_⟩
                        cases e
                        obtain ⟨b', o', e', hb', _⟩ := rdNd hR.out (by rw [HN.out]; omega)
                        cases e'
                        omega
                    · refine ⟨h1, ?_, ?_, fun b o e e2 => ?_⟩
                      · have := HZ11.out.lt; omega
                      · have := HX11.out.lt; omega
                      · cases e
                        obtain ⟨b', o', e', hb', _⟩ := rdNd HR11.out (by rw [HN.out]; omega)
                        cases e'
                        omega
                  clear hJ3 hst hy hR2 hzO hXO hbO HZ11 HX11 HR11 HB11 HK3 HNA HSW HS3 HS2 HXN HXX HQ HFK HP HP2 HRT H2P HMZ hJ hO hZ hX hR hbp hbp2 hbc hbc2 hsz9 hgz
                  gi_wp2
                  go_wp2_with fail
                  go_roundw
                  case rel => exact ⟨i + 1, by omega, by go_num, HZ3, HX3, HR3, HBS3, O', HJ3, HO3⟩
                  case measure => simp [intOf]; omega
          · obtain rfl : i = M := by omega
            have c1 : wr.cell? ⟨z, 0, none⟩ = some (.int .i64 c) := hZ.out.cell 0
            have hzl := hZ.out.lt
            have HE : Hid ((befL t n (c + 1)).length = (befL t n c).length + i) := by show _ = _; rw [befL_succ hc1, List.length_append, List.length_map, HM.out]
            have HJ4 : Hid (J (befL t n (c + 1)).length O3 wr) := by have h := hJ.out; rw [← HE.out] at h; exact h
            have hb0 := bl_alloc (Below.refl _ wr) (.cells #[.int .i64 ((c : Int) + 1)] 3)
            have hZ0 := Blk.new wr #[.int .i64 ((c : Int) + 1)] 3
            have HZ4 : Hid (Blk (wr.alloc (.cells #[.int .i64 ((c : Int) + 1)] 3)) wr.heap.size #[.int .i64 ((c + 1 : Nat) : Int)] 3) := by
              rw [show ((c : Int) + 1) = ((c + 1 : Nat) : Int) by omega] at hZ0 ⊢
              exact hZ0
            have HX4 := Lib.hid (hX.out.below hb0)
            have HR4 := Lib.hid (hR.out.bl hb0)
            have HJ5 := Lib.hid (HJB.out _ _ _ _ HJ4.out hb0)
            have hxl := hX.out.lt
            have HO4 : Hid (OwnO O3 (wr.alloc (.cells #[.int .i64 ((c : Int) + 1)] 3)) wr.heap.size X (some ⟨ba, oa, none⟩)) := fun B hB => by
              obtain ⟨h1, _, h2, h3⟩ := hO.out B hB
              exact ⟨by rw [World.size_alloc]; omega, by omega, h2, h3⟩
            have HB4 : Hid (base ≤ (wr.alloc (.cells #[.int .i64 ((c : Int) + 1)] 3)).heap.size) := by show _ ≤ _; rw [World.size_alloc]; omega
            clear hb0 hZ0
            gi_wp2
            go_wp2_with fail
            go_roundw
            case rel => exact ⟨c + 1, wr.heap.size, by omega, by omega, rfl, HZ4, HX4, HR4, HB4.out, O3, HJ5, HO4⟩
            case measure =>
              rw [HMZ.out, ptrC_eq (HZ4.out.cell 0)]
              omega
    · obtain rfl : c = n := by omega
      have HJ5 : Hid (J (nearL t c).length O2 wr) := hJ.out
      have c1 : wr.cell? ⟨z, 0, none⟩ = some (.int .i64 c) := hZ.out.cell 0
      obtain ⟨ba, oa, rfl, _⟩ := rdNd hR.out (by rw [HN.out]; omega)
      have c2 : wr.cell? ⟨X, 0, none⟩ = some (.slice (some ⟨ba, oa, none⟩) c ca) := hX.out.cell 0
      gi_wp2
      go_end0
      exact ⟨⟨_, rfl⟩, O2, HJ5.out⟩
end Go.Proofs.YtjmnakkkimgifaaGreatDoor
namespace Go.Proofs.YtjmnakkkimgifaaGreatDoor
open Go Go.RowKit Go.Shelf
attribute [local go_sem] Oper.semAt_some
theorem ipush_T {F : Fence} {m : Nat} {w : World} {ops : Array Oper} {rest : List Oper} {o : Oper} {a : Act} {Q : Exit → Act → World → Prop} (hgd : o.guard = none) (s x : Operand) (ho : o.op = .call { callee := .builtin .append, args := #[s, x], argTypes := #[42, 42] })
    (base : Nat) (v : Value) (l : List Rw) (n : Nat) (hn : n = l.length) (hs : a.eval s = v) (hown : w.ownsRow base 25 1 v n (fl encR l)) (B c : Nat) (y : Rw) (hx : a.eval x = .slice (some ⟨B, 0, none⟩) 1 c) (hB : Blk w B (encR y).toArray 25) (hl : n < 4398046511104) (hbase : base ≤ w.heap.size)
    (h : ∀ g cap w', w'.ownsRow base 25 1 (.slice (some ⟨g, 0, none⟩) (n + 1) cap) (n + 1) (fl encR (l ++ [y])) → w.grownBy w' v.ownBlock → (v.ownBlock = some g ∨ g = w.heap.size) → g < w'.heap.size → wpListIn F m Tryz.prog ops Q rest (a.put o.dst (.slice (some ⟨g, 0, none⟩) (n + 1) cap)) w') : wpListIn F m Tryz.prog ops Q (o :: rest) a w := by
  obtain ⟨i0, hi, hz0, hz1, hz2⟩ := info_parts info_T
  refine wpListIn_plain hgd fun K hK' => ?_
  obtain ⟨g, cap, w', hrun, r1, r2, r3, r4⟩ := run_append_lies (P := Tryz.prog) w 42 o.type base 25 i0 _ 1 24 Tryz.underlying42 hi hz0 hz1 hz2 rfl (by decide) v n (fl encR l) hown ⟨B, 0, none⟩ 1 c (encR y) (by simp [encR]) (World.news_of_block (cs := (encR y).toArray) (t := 25) (fr := (0, 0)) hB) (by intro u hu; simp [encR] at hu; first | (subst hu; rfl) | (rcases hu with rfl | rfl <;> rfl)) (by omega) (by unfold maxLen; omega) (by omega) hbase _ rfl
  unfold Oper.wpIn
  refine ⟨?_, ?_⟩
  · simp [Oper.about, ho, resolve, Target.leads, Sem.run_pure]
  · rw [Oper.semAt_plain F _ _ (by rw [ho]; intro c hc'; cases hc')]
    simp [execOp, ho, resolve, invoke, builtin, hs, hx, hrun, Result.andThen]
    rw [← fl_snoc] at r1
    exact hK' _ _ (h g cap w' r1 r2 r3 r4)
/-- A row of cells stays where something that is no cells turns. -/
theorem owns_walk {W W' : World} {row : Option Nat} {base e k n : Nat} {v : Value} {xs : List Value} (h : W.ownsRow base e k v n xs) (hg : W.grownBy W' row) (hr : ∀ r, row = some r → ∃ o : Obj, W.heap[r]? = some o ∧ o.isCells = false) : W'.ownsRow base e k v n xs := by
  refine h.kept hg ?_
  rcases h.2 with ⟨rfl, _⟩ | ⟨g, cap, cur, rfl, _, hgb, _⟩
  · exact .inl rfl
  · refine .inr fun e' => ?_
    obtain ⟨o, ho, hw⟩ := hr g (by simpa [Value.ownBlock] using e'.symm)
    rw [hgb] at ho; cases ho; cases hw
theorem blk_walk {W W' : World} {row : Option Nat} {B : Nat} {cs : Array Value} {t : TypeId} (h : Blk W B cs t) (hg : W.grownBy W' row) (hr : ∀ r, row = some r → ∃ o : Obj, W.heap[r]? = some o ∧ o.isCells = false) : Blk W' B cs t :=
  h.grown hg (fun e' => by
    obtain ⟨o, ho, hw⟩ := hr B e'.symm
    unfold Blk at h
    rw [h] at ho; cases ho; cases hw)
theorem rd_walk {W W' : World} {row : Option Nat} {a : Option Addr} {cs : List Value} (h : Rd W a cs) (hg : W.grownBy W' row) (hr : ∀ r, row = some r → ∃ o : Obj, W.heap[r]? = some o ∧ o.isCells = false) : Rd W' a cs := by
  intro h0
  obtain ⟨b, off, e, hlt, hc⟩ := h h0
  refine ⟨b, off, e, Nat.lt_of_lt_of_le hlt hg.size, fun i hi => ?_⟩
  rw [← hc i hi]
  have hci := hc i hi
  simp only [World.cell?] at hci ⊢
  rw [hg.block b hlt (fun e' => ?_)]
  obtain ⟨o, ho, hw⟩ := hr b e'.symm
  rw [ho] at hci
  cases o <;> first | (cases hw; done) | (simp at hci)
theorem TsW.walk {W W' : World} {row : Option Nat} {base n : Nat} {v : Value} {T : Nat → List Nd} {rs : Nat → Rw} (h : TsW W base v n T rs) (hg : W.grownBy W' row) (hr : ∀ r, row = some r → ∃ o : Obj, W.heap[r]? = some o ∧ o.isCells = false) : TsW W' base v n T rs :=
  ⟨owns_walk h.rows hg hr, fun i hi => owns_walk (h.row i hi) hg hr, h.len, h.dis, h.far⟩
theorem TsW.other {W : World} {base n B o : Nat} {v u : Value} {T : Nat → List Nd} {rs : Nat → Rw} (h : TsW W base v n T rs) (h1 : v.ownBlock ≠ some B) (h2 : ∀ i, i < n → (slR (rs i)).ownBlock ≠ some B) : TsW (W.setCell ⟨B, o, none⟩ u) base v n T rs :=
  ⟨ownsRow_setCell_other (a := ⟨B, o, none⟩) h.rows h1 _, fun i hi => ownsRow_setCell_other (a := ⟨B, o, none⟩) (h.row i hi) (h2 i hi) _, h.len, h.dis, h.far⟩
theorem TsW.lt {W : World} {base n B : Nat} {v : Value} {T : Nat → List Nd} {rs : Nat → Rw} (h : TsW W base v n T rs) : (v.ownBlock = some B → base ≤ B ∧ B < W.heap.size) ∧ ∀ i, i < n → (slR (rs i)).ownBlock = some B → base ≤ B ∧ B < W.heap.size := ⟨fun e => h.rows.lt B e, fun i hi e => (h.row i hi).lt B e⟩
/-- While trees are collected: box Bs holds the slice of the first k. -/
def ApI (w0 : World) (base Bs : Nat) (T : Nat → List Nd) (k : Nat) (O : Nat → Prop) (W : World) : Prop :=
  ∃ v rs, Blk W Bs #[v] 42 ∧ TsW W base v k T rs ∧ Below w0.heap.size w0 W ∧ ∀ B, O B ↔ B = Bs ∨ v.ownBlock = some B ∨ ∃ i, i < k ∧ (slR (rs i)).ownBlock = some B
theorem TsW.blk_ne {W : World} {base n B : Nat} {v : Value} {T : Nat → List Nd} {rs : Nat → Rw} (h : TsW W base v n T rs) {cs : Array Value} (hB : Blk W B cs 42) (h1 : 42 ≠ 25) (h2 : 42 ≠ 46) : v.ownBlock ≠ some B ∧ ∀ i, i < n → (slR (rs i)).ownBlock ≠ some B := by
  have key : ∀ {base e k n : Nat} {v : Value} {xs : List Value}, W.ownsRow base e k v n xs → 42 ≠ e → v.ownBlock ≠ some B := fun hv he e' => by
    rcases hv.2 with ⟨rfl, _⟩ | ⟨g, cap, cur, rfl, _, hgb, _⟩
    · cases e'
    · have : g = B := Option.some.inj e'
      subst this
      unfold Blk at hB
      rw [hB] at hgb
      cases hgb
      exact he rfl
  exact ⟨key h.rows h1, fun i hi => key (h.row i hi) h2⟩
set_option maxRecDepth 100000 in
set_option maxHeartbeats 4000000 in
theorem appendSeq_any (gf : Nat) (hen : Enters Tryz.prog gf) (lb : Array Value) (N : Nat) (T : Nat → List Nd) (Ew : Nat → (Nat → Prop) → Value → World → Prop) (Fx : Nat → Prop) (w : World) (hN : N < 4398046511104)
    (hseq : GivesT Fence.wide 9 Tryz.prog gf lb Ew N Fx w) (hFx : ∀ B, Fx B → B < w.heap.size)
    (hEw : ∀ k O x W, Ew k O x W → ∃ g c, x = .slice (some ⟨g, 0, none⟩) (T k).length c ∧ ¬ O g ∧ W.ownsRow w.heap.size 46 2 x (T k).length (fl encNd (T k)))
    (hEp : ∀ k O x W l o o', Ew k O x W → W.heap[l]? = some o → o.isCells = false → Ew k O x (W.putObj l o')) :
    Calls Tryz.prog 66 #[.slice none 0 0, .func (.func gf) #[] lb] w fun e w' => ∃ v rs, e = .returned v ∧ TsW w' w.heap.size v N T rs ∧ Below w.heap.size w w' := by
  have hb0 := bl_alloc (Below.refl _ w) (.cells #[.slice none 0 0] 42)
  have HB0 := Lib.hid (Blk.new w #[.slice none 0 0] 42)
  obtain ⟨Bs, hBs⟩ : ∃ x, x = w.heap.size := ⟨_, rfl⟩
  rw [← hBs] at HB0 hFx
  have HBS := Lib.hid hBs
  have HBL := Lib.hid hb0
  have HSQ := Lib.hid hseq
  have HEW := Lib.hid hEw
  have HEP := Lib.hid hEp
  have HFX := Lib.hid hFx
  clear hb0 hseq hEw hEp hFx hBs
  refine (callsIn_wide (n := 10)).1 ?_
  refine callsIn_of_wp_marks Tryz.func66 rfl trivial ?_ rfl
  simp only [Tryz.ntmps66, List.size_toArray, List.length_cons, List.length_nil, Nat.reduceAdd, Nat.reduceSub, Array.replicate_succ, Array.replicate_zero, List.push_toArray, List.append_toArray, List.nil_append, List.cons_append]
  refine wpIn_wide.2 ?_
  go_wp2_with fail
  rw [← HBS.out]
  obtain ⟨w1, hw1⟩ : ∃ x, x = w.alloc (.cells #[.slice none 0 0] 42) := ⟨_, rfl⟩
  rw [← hw1] at HB0 HBL ⊢
  have HSQ1 : Hid (GivesT Fence.wide 9 Tryz.prog gf lb Ew N Fx w1) := fun l J W O hW => HSQ.out l J W O (bl_trans HBL.out hW)
  have hz1 : w1.heap.size = Bs + 1 := by rw [hw1, World.size_alloc, ← HBS.out]
  have HZ1 := Lib.hid hz1
  clear hw1 hz1 HSQ
  refine (wpIn_wide (n := 10)).1 ?_
  refine wpIn_range_T rfl (by omega) (gf := gf) (lb := lb) rfl trivial hen HSQ1.out HEP.out rfl (ApI w Bs Bs T) ?hI (fun B => B = Bs) ?hO ?h0
    (fun x => { tmps := #[.slice none 0 0, .func (.func gf) #[] lb, .pointer (some ⟨Bs, 0, none⟩), undef, .slice none 0 0, x, .func (.func gf) #[] lb, x, undef, undef, undef, undef, undef], defers := [] }) ?assign ?body ?done
  case hI =>
    rintro ⟨k, O⟩ W W' row ⟨v, rs, h1, h2, h3, h4⟩ hg hr
    have hr2 : ∀ r, row = some r → ∃ o : Obj, W.heap[r]? = some o ∧ o.isCells = false := fun r e => (hr r e).2
    exact ⟨v, rs, blk_walk h1 hg hr2, h2.walk hg hr2, bl_grown h3 hg (fun r e => by have := (hr r e).1; have := HZ1.out; have := HBS.out; omega), h4⟩
  case hO => rintro B rfl; exact ⟨by have := HZ1.out; omega, fun h => by have := HFX.out _ h; omega⟩
  case h0 =>
    refine ⟨.slice none 0 0, fun _ => (none, 0, 0), HB0.out, TsW.zero _ _ _ _, HBL.out, fun B => ⟨fun h => .inl h, fun h => ?_⟩⟩
    rcases h with h | h | ⟨i, h, _⟩
    · exact h
    · cases h
    · omega
  case assign =>
    intro l x W' K hK
    gi_wp2
    exact hK
  case body =>
    rintro l k O x W' ⟨v, rs, hBk, hT, hbw, hO⟩ hk hOl hE
    obtain ⟨g, c, rfl, hgO, hrow⟩ := HEW.out k O x W' hE
    rw [← HBS.out] at hrow
    have c1 : W'.cell? ⟨Bs, 0, none⟩ = some v := hBk.cell 0
    have hbs : Bs ≤ W'.heap.size := Nat.le_of_lt hBk.lt
    have HT := Lib.hid hT
    have HBK := Lib.hid hBk
    have HBW := Lib.hid hbw
    have HO := Lib.hid hO
    have HROW := Lib.hid hrow
    have HGO := Lib.hid hgO
    have HOL := Lib.hid hOl
    clear hE hBk hT hbw hO hrow hgO hOl
    gi_wp2_with (gi_at_builtin; refine ipush_T rfl (.tmp 8) (.tmp 10) rfl Bs v ((List.range k).map rs) k (by simp) rfl (HT.out.rows.alloc _) _ _ (some ⟨g, 0, none⟩, (T k).length, c) rfl (Blk.new _ _ _) (by omega) (by rw [World.size_alloc]; omega) ?_; intro g2 cap w8 h81 h82 h83 h84; have H81 := Lib.hid h81; have H82 := Lib.hid h82; have H83 := Lib.hid h83; have hb8 := (HBK.out.alloc (.cells #[.slice (some ⟨g, 0, none⟩) (T k).length c] 25)).grown h82 (fun e => (HT.out.blk_ne HBK.out (by decide) (by decide)).1 e.symm); have f8 := hb8.free 0; have c8 : w8.cell? ⟨Bs, 0, none⟩ = some v := hb8.cell 0; have HB8 := Lib.hid hb8; clear h81 h82 h83 hb8)
    have hal := bl_alloc (Below.refl _ W') (.cells #[.slice (some ⟨g, 0, none⟩) (T k).length c] 25)
    have hgv : v.ownBlock ≠ some g := fun e => HGO.out ((HO.out g).2 (.inr (.inl e)))
    have hgr : ∀ i, i < k → (slR (rs i)).ownBlock ≠ some g := fun i hi e => HGO.out ((HO.out g).2 (.inr (.inr ⟨i, hi, e⟩)))
    have hp := (HT.out.bl hal).push (v' := .slice (some ⟨g2, 0, none⟩) (k + 1) cap) (x := (some ⟨g, 0, none⟩, (T k).length, c)) (X := T k) H81.out H82.out
      (by rcases H83.out with h | h
          · exact .inl h.symm
          · exact .inr (by rw [← h]; rfl))
      (owns_below HROW.out hal) rfl (.inr fun e => hgv e.symm) (fun i hi => .inr (hgr i hi))
    have hp2 := hp.congr (T' := T) (fun i hi => by
      by_cases e : i = k
      · rw [if_pos e, e]
      · rw [if_neg e])
    obtain ⟨rs2, hrs2⟩ : ∃ f, f = fun i => if i = k then ((some ⟨g, 0, none⟩, (T k).length, c) : Rw) else rs i := ⟨_, rfl⟩
    rw [← hrs2] at hp2
    have hne := hp2.blk_ne HB8.out (by decide) (by decide)
    have hOi : ∀ B, (∃ i, i < k + 1 ∧ (slR (rs2 i)).ownBlock = some B) → O B ∨ B = g := fun B ⟨i, hi, e⟩ => by
      rw [hrs2] at e
      by_cases q : i = k
      · simp only [if_pos q] at e
        exact .inr (Option.some.inj (show some g = some B from e)).symm
      · simp only [if_neg q] at e
        exact .inl ((HO.out B).2 (.inr (.inr ⟨i, by omega, e⟩)))
    have hg2 : O g2 ∨ W'.heap.size ≤ g2 := by
      rcases H83.out with h | h
      · exact .inl ((HO.out g2).2 (.inr (.inl h)))
      · rw [World.size_alloc] at h; exact .inr (by omega)
    have hbn : Below w.heap.size w (w8.setCell ⟨Bs, 0, none⟩ (.slice (some ⟨g2, 0, none⟩) (k + 1) cap)) := by
      refine bl_set (bl_grown (bl_trans HBW.out hal) H82.out (fun r e => ?_)) _ _ _ _ (by rw [HBS.out]; exact Nat.le_refl _)
      have := (HT.out.lt (B := r)).1 e
      have := HBS.out
      omega
    have hko : KeepsOthers W' (w8.setCell ⟨Bs, 0, none⟩ (.slice (some ⟨g2, 0, none⟩) (k + 1) cap)) := by
      refine ((KeepsOthers.alloc W' _).trans (KeepsOthers.of_grownBy H82.out fun j o hj ho => ?_)).trans (KeepsOthers.setCell _ _ _)
      rcases (owns_below HT.out.rows hal).2 with ⟨rfl, _⟩ | ⟨g', cap', cur, rfl, _, hgb, _⟩
      · cases hj
      · have : g' = j := Option.some.inj hj
        subst this
        rw [hgb] at ho; cases ho; rfl
    have hbx := HB8.out.set 0 (.slice (some ⟨g2, 0, none⟩) (k + 1) cap)
    have hsz8 := H82.out.size
    rw [World.size_alloc] at hsz8
    have hsz9 : (w8.setCell ⟨Bs, 0, none⟩ (.slice (some ⟨g2, 0, none⟩) (k + 1) cap)).heap.size = w8.heap.size := by simp [World.setCell]
    refine ⟨hko, fun B => B = Bs ∨ B = g2 ∨ ∃ i, i < k + 1 ∧ (slR (rs2 i)).ownBlock = some B, ⟨_, rs2, hbx, hp2.other hne.1 hne.2, hbn, fun B => ?_⟩, ⟨fun B h => ?_, fun B h => ?_, by rw [hsz9]; omega, fun B cs t fr hn hc => ?_⟩⟩
    · exact ⟨fun h => by
        rcases h with h | h | h
        · exact .inl h
        · exact .inr (.inl (by rw [h]; rfl))
        · exact .inr (.inr h), fun h => by
        rcases h with h | h | h
        · exact .inl h
        · exact .inr (.inl (Option.some.inj (show some g2 = some B from h)).symm)
        · exact .inr (.inr h)⟩
    · rcases h with h | h | h
      · exact .inl (.inl ((HO.out B).2 (.inl h)))
      · subst h
        rcases hg2 with h | h
        · exact .inl (.inl h)
        · exact .inr h
      · rcases hOi B h with h | h
        · exact .inl (.inl h)
        · exact .inl (.inr (by rw [h]; rfl))
    · rw [hsz9]
      rcases h with h | h | ⟨i, hi, e⟩
      · rw [h]; exact HB8.out.lt
      · rw [h]; exact h84
      · exact (hp2.lt.2 i hi e).2
    · have h1 : B ≠ Bs := fun e => hn (.inl ((HO.out B).2 (.inl e)))
      have h2 : some B ≠ v.ownBlock := fun e => hn (.inl ((HO.out B).2 (.inr (.inl e.symm))))
      have hlt := (Array.getElem?_eq_some_iff.1 hc).1
      exact ((Below.heap_setCell w8 ⟨Bs, 0, none⟩ _ B h1).trans ((H82.out.block B (by rw [World.size_alloc]; omega) h2).trans (Below.heap_alloc _ _ B hlt))).trans hc
  case done =>
    rintro D O W' hD ⟨v, rs, h1, h2, h3, h4⟩ hKD
    have c1 : W'.cell? ⟨Bs, 0, none⟩ = some v := h1.cell 0
    have HH2 := Lib.hid h2
    have HH3 := Lib.hid h3
    clear h1 h2 h3 h4
    have HKD := Lib.hid hKD
    clear hKD
    simp only [Exit.inBlock, Exit.then]
    go_wp2_with fail
    refine leaves_all [D] _ (by simp) (fun D' hD' => by rw [List.mem_singleton.1 hD']; exact HKD.out) fun w' ht => ⟨_, results_tmp rfl _ _ _, ?_⟩
    have hTs : ∀ {e k n : Nat} {v : Value} {xs : List Value}, W'.ownsRow Bs e k v n xs → w'.ownsRow Bs e k v n xs := fun h => ht.owns (fun D' hD' => by rw [List.mem_singleton.1 hD']; exact HKD.out) h
    refine ⟨v, rs, rfl, ?_, ht.below HH3.out (fun D' hD' => by rw [List.mem_singleton.1 hD']; have := HZ1.out; have := HBS.out; omega)⟩
    rw [← HBS.out]
    exact ⟨hTs HH2.out.rows, fun i hi => hTs (HH2.out.row i hi), HH2.out.len, HH2.out.dis, HH2.out.far⟩
end Go.Proofs.YtjmnakkkimgifaaGreatDoor
