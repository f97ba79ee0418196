/- The document's trees: the walk at a full list. The document's trees: the walk at a part of a list. The document's Trees and Near. The document's Best and Climb. Helpers of the statements: light; lists of trees that read alike. ParsShortest, ParsClimbs: the walks of the statements. From a walk to a row: a statement's post; arguments that came in read as tables and trees. -/
import Derived.Test.YtjmnakkkimgifaaGreatDoorZA
import Derived.Test.YtjmnakkkimgifaaGreatDoorZF
import Derived.Test.YtjmnakkkimgifaaGreatDoorZG
import Derived.Deep.QuietTactic
import Derived.BigQuiet
import Derived.Test.YtjmnakkkimgifaaGreatDoorZB
import Derived.ChangeSame
import Derived.OpenShut
import Derived.ProofKit
import Derived.Deep.Slices
import Derived.Test.YtjmnakkkimgifaaGreatDoorCards
import Derived.Test.YtjmnakkkimgifaaGreatDoorTie
import Derived.Deep.DeepHandedRow
import Derived.Lib.LaidTab
import Derived.Lib.SmallJoins
namespace Go.Proofs.YtjmnakkkimgifaaGreatDoor
open Go Go.RowKit Go.Shelf
theorem twoB_bin {M : Nat} {ps : List Int} : twoB (mkN ps) = binB (ndL M ps) ps.length := by
  have hl : (mkN ps).length = ps.length := by simp [mkN]
  have h1 : twoB (mkN ps) = true ↔ BinT (ndL M ps) ps.length := by
    unfold twoB
    rw [hl, List.all_eq_true]
    constructor
    · intro h v hv
      have := h v (List.mem_range.2 hv)
      rw [Bool.or_eq_true, decide_eq_true_eq, decide_eq_true_eq, fam_mkN M ps (Nat.le_refl _)] at this
      exact this
    · intro h v hv
      have := h v (List.mem_range.1 hv)
      rw [Bool.or_eq_true, decide_eq_true_eq, decide_eq_true_eq, fam_mkN M ps (Nat.le_refl _)]
      exact this
  rw [Bool.eq_iff_iff, h1, binB_iff]
/-- A full list of parents. -/
structure FullP (M n : Nat) (ps : List Int) (t : List Nd) (c : Bool) : Prop where
  len : t.length = n
  ok : TreeOk t
  no : binB t n = false → rtr (M + 1) 0 ps = []
  yes : binB t n = true → rtr (M + 1) 0 ps = if c then [ps] else []
  sh : binB t n = true → ∃ z : Sh, ShT t n z ∧ decide (numL t (lvT t) z = t) = c ∧ (lvT t).Pairwise (· < ·) ∧ (lvT t).Perm z.lvs ∧ z.inn + (lvT t).length = n ∧ (lvT t).length ≤ 500
theorem fullP_of {M : Nat} {ps : List Int} (hM : M < 5) (hl : ps.length = 2 * M + 1) (h : PsOk ps) : FullP M ps.length ps (ndL M ps) (canB (mkN ps)) := by
  have hok := nd_tree hM (by omega) h
  have hln := ndL_len M ps
  refine ⟨hln, hok, fun hb => ?_, fun hb => ?_, fun hb => ?_⟩
  · show (if twoB (mkN ps) && canB (mkN ps) then [ps] else []) = []
    rw [twoB_bin (M := M), hb]; rfl
  · show (if twoB (mkN ps) && canB (mkN ps) then [ps] else []) = _
    rw [twoB_bin (M := M), hb, Bool.true_and]
  · obtain ⟨z, hz⟩ := shT_of hln hok (binB_iff.1 hb)
    have hlv := tok_lv hln hok
    have hL : (lvT (ndL M ps)).Perm z.lvs := by rw [hlv]; exact hz.lvs hln
    have h1 := hz.len
    rw [Sh.all_len] at h1
    have h2 := hL.length_eq
    rw [Sh.lvs_inn] at h2
    exact ⟨z, hz, can_iff hM hl h hz, by rw [hlv]; exact List.Pairwise.filter _ List.pairwise_lt_range, hL, by omega, by omega⟩
theorem rtPost_none {M f base : Nat} {ps : List Int} {L : List (List Nd)} {v : Value} {rs : Nat → Rw} {w w' : World} (hr : rtr (M + 1) f ps = []) (hT : TsW w base v L.length (vT L) rs) (hb : Below w.heap.size w w') (hbs : base ≤ w.heap.size) : RtPost M f ps L base v w (.returned v) w' := by
  have e : L ++ (rtr (M + 1) f ps).map (ndL M) = L := by rw [hr]; simp
  exact ⟨v, rs, rfl, by rw [e]; exact hT.bl hb, hb.mono hbs, Nat.le_trans hbs hb.size, fun b h _ => hb.block b h, .inl rfl⟩
set_option maxRecDepth 100000 in
set_option maxHeartbeats 4000000 in
theorem rtrees_leaf (M N n d base tb gb : Nat) (ps : List Int) (L : List (List Nd)) (v : Value) (rs : Nat → Rw) (w : World) (hN1 : N ≤ M + 1) (hN2 : M + 1 ≤ N) (hM : M < 5) (hn : ps.length = n) (hl : n = 2 * M + 1) (h : PsOk ps)
    (hB : w.ownsRow tb 46 2 (.slice (some ⟨gb, 0, none⟩) n d) n (fl encNd (ndL M ps))) (hT : TsW w base v L.length (vT L) rs) (hL : L.length ≤ 10000000) (hbs : base ≤ w.heap.size) :
    Calls Tryz.prog 45 #[.int .i64 N, .slice (some ⟨gb, 0, none⟩) n d, v] w (RtPost M 0 ps L base v w) := by
  have hF := fullP_of hM (by omega) h
  rw [hn] at hF
  have HPS := Lib.hid hn
  have hn9 : n ≤ 9 := by omega
  obtain ⟨t, ht⟩ : ∃ t, t = ndL M ps := ⟨_, rfl⟩
  obtain ⟨c, hc⟩ : ∃ c, c = canB (mkN ps) := ⟨_, rfl⟩
  rw [← ht, ← hc] at hF
  rw [← ht] at hB
  have HTE := Lib.hid ht
  have HF := Lib.hid hF
  have HSZ : Hid (∀ v, v < n → (nS t v).size ≤ 9223372036854775807) := fun v hv => by
    have h1 := (hF.ok.2.2 v (by rw [hF.len]; exact hv)).2.2.1
    unfold nmB at h1
    simp only [Bool.and_eq_true, decide_eq_true_eq] at h1
    omega
  have HB := Lib.hid hB
  have HT := Lib.hid hT
  have HBI := Lib.hid (rbin_any (some ⟨gb, 0, none⟩) n d t w hF.len hF.ok (rd_of_owns hB) HSZ.out)
  have hmul : IntKind.i64.wrap (2 * (N : Int)) = (n : Int) + 1 := by
    have e : (2 * (N : Int)) = ((2 * N : Nat) : Int) := by omega
    have := wrap_nat (2 * (N : Int)) (2 * N) (by omega) (by omega)
    rw [this]; omega
  obtain ⟨A, cp, rfl, _⟩ := owns_slice hT.rows
  obtain ⟨K, hK⟩ : ∃ K, K = L.length := ⟨_, rfl⟩
  rw [← hK] at HT hL ⊢
  have HKL := Lib.hid hK
  obtain ⟨B, hBB⟩ : ∃ B, B = binB t n := ⟨_, rfl⟩
  rw [← hBB] at HBI
  have HBB := Lib.hid hBB
  clear hF hB hT ht hc hn h hK hBB hl
  go_enter Tryz.func45, Tryz.ntmps45
  go_wp2_with fail
  refine HBI.out.mono ?_
  rintro e w1 ⟨rfl, hb1⟩
  have HB1 := Lib.hid hb1
  have HBW := Lib.hid (owns_below HB.out hb1)
  clear hb1
  cases B with
  | false =>
    have hr := HF.out.no HBB.out.symm
    have HR := Lib.hid hr
    clear hr
    go_wp2_with fail
    go_ret
    exact rtPost_none HR.out (by rw [← HKL.out]; exact HT.out) HB1.out hbs
  | true =>
    obtain ⟨z, hz, hcz, hz1, hz2, hz3, hz4⟩ := HF.out.sh HBB.out.symm
    have hr := HF.out.yes HBB.out.symm
    have HR := Lib.hid hr
    have HBE := Lib.hid (rbelow_any (some ⟨gb, 0, none⟩) n d t HF.out.len HF.out.ok HSZ.out z hz.sub (fun u hu => (hz.mem u).1 hu) w1 (rd_of_owns HBW.out))
    rw [hz.top] at HBE
    have HNU := Lib.hid (fun (y : Rw) (W : World) (hsh : ShM t (ixL t) (fun b => b < W.heap.size) W z y) => rnumber_any t (ixL t) (lvT t) z y W hz1 hz2 (fun v hv => ixL_idx hv) hsh hz4)
    rw [hz3] at HNU
    have HCZ := Lib.hid hcz
    clear hz hcz hz1 hz2 hz3 hz4 hr
    go_wp2_with fail
    refine HBE.out.mono ?_
    rintro e w2 ⟨y, rfl, hsh, hb2⟩
    have HN2 := Lib.hid (HNU.out y w2 (hsh.weak fun b hb _ => hb))
    have HB2 := Lib.hid (bl_trans HB1.out hb2)
    clear hsh hb2 HNU HBE
    go_wp2_with fail
    refine HN2.out.mono ?_
    rintro e w3 ⟨vn, rfl, hon, hb3⟩
    obtain ⟨An, cn, rfl, _⟩ := owns_slice hon
    have HB3 := Lib.hid (bl_trans HB2.out hb3)
    have HBW3 := Lib.hid (owns_below HB.out HB3.out)
    have HSA := Lib.hid (same2_any An (some ⟨gb, 0, none⟩) n n cn d (numL t (lvT t) z) t w3 (own_lenN hon rfl) HF.out.len (by omega) (by omega) (rd_of_owns hon) (rd_of_owns HBW3.out))
    rw [HCZ.out] at HSA
    clear hon hb3 HN2
    go_wp2_with fail
    refine HSA.out.mono ?_
    rintro e w4 ⟨rfl, q, rfl⟩
    have HB4 : Hid (Below w.heap.size w (w3.drewN q)) := bl_drewN HB3.out q
    obtain ⟨w5, hw5⟩ : ∃ x, x = w3.drewN q := ⟨_, rfl⟩
    rw [← hw5] at HB4 ⊢
    have HT5 : Hid (TsW w5 base (.slice A K cp) K (vT L) rs) := HT.out.bl HB4.out
    have HB5 := Lib.hid (owns_below HB.out HB4.out)
    have hs5 := HB4.out.size
    clear hw5 HSA HBW HBW3 HB1 HB2 HB3 HCZ
    cases c with
    | false =>
      have HR2 : Hid (rtr (M + 1) 0 ps = []) := HR.out
      go_wp2_with fail
      go_ret
      exact rtPost_none HR2.out (by rw [← HKL.out]; exact HT.out) HB4.out hbs
    | true =>
      have HR2 : Hid (rtr (M + 1) 0 ps = [ps]) := HR.out
      have hown0 : (w5.alloc (.cells #[] 46)).ownsRow w5.heap.size 46 2 (.slice (some ⟨w5.heap.size, 0, none⟩) 0 0) 0 (fl encNd []) := by
        have := owns_made (w := w5) (base := w5.heap.size) (e := 46) (k := 2) (n := 0) (cs := #[]) (Nat.le_refl _) (by simp) (by omega)
        exact this
      have HO0 := Lib.hid hown0
      have hb6 := bl_alloc (Below.refl w5.heap.size w5) (.cells #[] 46)
      have HB6 := Lib.hid hb6
      have HA6 := Lib.hid ((rd_of_owns HB5.out).bl hb6)
      have HLN := Lib.hid HF.out.len
      clear hown0 hb6
      go_upto_region 4 with fail
      go_wp2_with (first
        | (at_builtin; refine wpList_pushs (enc := encNd) (k := 2) (bytes := 24) rfl encNd_len (by decide) encNd_oneR (base := w5.heap.size) Tryz.underlying25 info_Nd rfl (.tmp 27) (.tmp 28) rfl (.slice (some ⟨w5.heap.size, 0, none⟩) 0 0) ([] : List Nd) 0 rfl rfl HO0.out (some ⟨gb, 0, none⟩) n d t HLN.out.symm rfl HA6.out (fun e => by cases e) (by omega) (by decide) HB6.out.size ?_; intro v7 w7 h71 h72 h73; rw [Nat.zero_add, List.nil_append] at h71; obtain ⟨A7, c7, rfl, _⟩ := owns_slice h71; have H71 := Lib.hid h71; have hb7 : Below w5.heap.size w5 w7 := HB6.out.grown h72 HB6.out.size (fun r e => (HO0.out.lt r e).1); have HB7 := Lib.hid hb7; have HT7 := Lib.hid (HT5.out.bl hb7); have HAP := Lib.hid (HT5.out.apart (x := (A7, n, c7)) h71 (Nat.le_refl _)); have hs7 := hb7.size; clear h71 h72 h73 hb7)
        | (at_builtin; refine push_T rfl (.tmp 26) (.tmp 30) rfl base (.slice A K cp) ((List.range K).map rs) K (by simp) rfl (HT7.out.rows.alloc _) _ _ (A7, n, c7) rfl (Blk.new _ _ _) (by omega) (by rw [World.size_alloc]; omega) ?_; intro g8 cap8 w8 h81 h82 h83 h84; have H81 := Lib.hid h81; have H82 := Lib.hid h82; have H83 := Lib.hid h83; clear h81 h82 h83))
      go_ret
      have hal := bl_alloc (Below.refl _ w7) (.cells #[.slice A7 n c7] 25)
      have hp2 := (HT7.out.bl hal).push (v' := .slice (some ⟨g8, 0, none⟩) (K + 1) cap8) (x := (A7, n, c7)) (X := t) H81.out H82.out
        (by rcases H83.out with h | h
            · exact .inl h.symm
            · exact .inr (by rw [h]; rfl))
        (by rw [HLN.out]; exact owns_mono (owns_below H71.out hal) (by omega)) HLN.out.symm HAP.out.1 HAP.out.2
      refine ⟨.slice (some ⟨g8, 0, none⟩) (K + 1) cap8, fun i => if i = K then (A7, n, c7) else rs i, rfl, ?_, ?_, ?_, ?_, ?_⟩
      · have e : L ++ (rtr (M + 1) 0 ps).map (ndL M) = L ++ [t] := by rw [HR2.out, HTE.out]; rfl
        rw [e, List.length_append, ← HKL.out]
        refine hp2.congr fun j hj => ?_
        have h := vT_snoc L t j (by rw [← HKL.out]; exact hj)
        rw [← HKL.out] at h; exact h.symm
      · exact Below.grown ((bl_trans HB4.out (bl_trans HB7.out hal)).mono hbs) H82.out (by rw [World.size_alloc]; omega) (fun r e => (HT7.out.rows.lt r e).1)
      · have := H82.out.size; rw [World.size_alloc] at this; omega
      · intro k hk hne
        have hk2 := hal.size
        exact (H82.out.block k (by omega) (fun e => hne e.symm)).trans ((bl_trans HB4.out (bl_trans HB7.out hal)).block k hk)
      · rcases H83.out with h | h
        · exact .inl h.symm
        · rw [World.size_alloc] at h; exact .inr ⟨g8, rfl, by omega⟩
end Go.Proofs.YtjmnakkkimgifaaGreatDoor
namespace Go.Proofs.YtjmnakkkimgifaaGreatDoor
open Go Go.RowKit Go.Shelf
/-- The trees that go on with ps and one of the first k parents. -/
def rtrK (M f : Nat) (ps : List Int) (k : Nat) : List (List Int) := (List.range k).flatMap fun p : Nat => rtr (M + 1) f (ps ++ [(p : Int)])
theorem rtrK_succ (M f : Nat) (ps : List Int) (k : Nat) : rtrK M f ps (k + 1) = rtrK M f ps k ++ rtr (M + 1) f (ps ++ [(k : Int)]) := by
  unfold rtrK
  rw [List.range_succ, List.flatMap_append]; simp
theorem rtrK_len (M f : Nat) (hM : M < 5) (ps : List Int) (k : Nat) : (rtrK M f ps k).length ≤ k * 4 ^ f := by
  induction k with
  | zero => simp [rtrK]
  | succ k ih =>
    rw [rtrK_succ, List.length_append, Nat.add_mul, Nat.one_mul]
    have := rtr_len (M + 1) (by omega) f (ps ++ [(k : Int)])
    omega
theorem rtr_succ (M f : Nat) (ps : List Int) : rtr (M + 1) (f + 1) ps = rtrK M f ps (min M ps.length) := rfl
theorem psOk_push {ps : List Int} {p : Nat} (h : PsOk ps) (hp : p < ps.length) : PsOk (ps ++ [(p : Int)]) := by
  obtain ⟨h0, h1, h2⟩ := h
  have hi : ∀ v, v < ps.length → iA (ps ++ [(p : Int)]) v = iA ps v := fun v hv => by
    unfold iA
    rw [List.getD_eq_getElem?_getD, List.getD_eq_getElem?_getD, List.getElem?_append_left hv]
  refine ⟨by simp, by rw [hi 0 (by omega)]; exact h1, fun v hv hl => ?_⟩
  by_cases e : v < ps.length
  · rw [hi v e]; exact h2 v hv e
  · have ev : v = ps.length := by simp at hl; omega
    have : iA (ps ++ [(p : Int)]) v = p := by
      unfold iA
      rw [ev, List.getD_eq_getElem?_getD, List.getElem?_append_right (Nat.le_refl _), Nat.sub_self]; rfl
    rw [this]; omega
theorem bcat (a b : UInt8) : (⟨#[a]⟩ : ByteArray) ++ ⟨#[b]⟩ = ⟨#[a, b]⟩ := by
  apply ByteArray.ext
  simp
set_option maxRecDepth 100000 in
set_option maxHeartbeats 4000000 in
theorem rtrees_step (M N n d base tb gb f : Nat) (ps : List Int) (L : List (List Nd)) (v : Value) (rs : Nat → Rw) (w : World) (hN1 : N ≤ M + 1) (hN2 : M + 1 ≤ N) (hM : M < 5) (hM1 : 1 ≤ M) (hn : ps.length = n) (hl : n + f = 2 * M) (h : PsOk ps)
    (hB : w.ownsRow tb 46 2 (.slice (some ⟨gb, 0, none⟩) n d) n (fl encNd (ndL M ps))) (hT : TsW w base v L.length (vT L) rs) (hL : L.length + 4 ^ (f + 1) ≤ 10000000) (hbs : base ≤ w.heap.size)
    (IH : ∀ (p d tb gb : Nat) (L : List (List Nd)) (v : Value) (rs : Nat → Rw) (w : World), p < n → w.ownsRow tb 46 2 (.slice (some ⟨gb, 0, none⟩) (n + 1) d) (n + 1) (fl encNd (ndL M (ps ++ [(p : Int)]))) → TsW w base v L.length (vT L) rs → L.length + 4 ^ f ≤ 10000000 → base ≤ w.heap.size →
      Calls Tryz.prog 45 #[.int .i64 N, .slice (some ⟨gb, 0, none⟩) (n + 1) d, v] w (RtPost M f (ps ++ [(p : Int)]) L base v w)) :
    Calls Tryz.prog 45 #[.int .i64 N, .slice (some ⟨gb, 0, none⟩) n d, v] w (RtPost M (f + 1) ps L base v w) := by
  have hn1 : 1 ≤ n := by have := h.1; omega
  have hn9 : n ≤ 8 := by omega
  obtain ⟨Q, hQ⟩ : ∃ Q, Q = 2 * N := ⟨_, rfl⟩
  have hQ1 : n + 1 < Q := by omega
  have hQ2 : Q ≤ 10 := by omega
  have hmul : IntKind.i64.wrap (2 * (N : Int)) = (Q : Int) := wrap_nat _ _ (by omega) (by omega)
  have t1 : ((n : Int) == (Q : Int) - 1) = false := by simp; omega
  have t2 : decide ((n : Int) = (Q : Int) - 1) = false := by simp; omega
  obtain ⟨k, hk⟩ : ∃ k, k = n - M := ⟨_, rfl⟩
  have hkm : max ((n : Int) - (N : Int) + 1) 0 = (k : Int) := by omega
  have hk9 : k < 10 := by omega
  have hd1 := fun W => rdigit_any k W hk9
  have hd2 := fun W => rdigit_any n W (by omega)
  obtain ⟨s1, hs1⟩ : ∃ s : ByteArray, s = ⟨#[UInt8.ofNat (48 + k)]⟩ := ⟨_, rfl⟩
  obtain ⟨s2, hs2⟩ : ∃ s : ByteArray, s = ⟨#[UInt8.ofNat (48 + n)]⟩ := ⟨_, rfl⟩
  have hz1 : s1.size ≤ 2 := by rw [hs1]; exact Nat.le_succ 1
  have hz2 : s2.size ≤ 2 := by rw [hs2]; exact Nat.le_succ 1
  rw [← hs1] at hd1
  rw [← hs2] at hd2
  obtain ⟨nm, hnm⟩ : ∃ s, s = ndN M n := ⟨_, rfl⟩
  have HNM1 : Hid (n < M → ⟨#[73]⟩ ++ s2 = nm) := fun q => by rw [hnm, hs2, bcat]; unfold ndN; rw [if_pos q]
  have HNM2 : Hid (¬ n < M → ⟨#[76]⟩ ++ s1 = nm) := fun q => by rw [hnm, hs1, bcat, hk]; unfold ndN; rw [if_neg q]
  have HNM := Lib.hid hnm
  have HD1 := Lib.hid hd1
  have HD2 := Lib.hid hd2
  have HIH := Lib.hid IH
  have HB := Lib.hid hB
  have HT := Lib.hid hT
  have HPS := Lib.hid hn
  have HOK := Lib.hid h
  have HL := Lib.hid hL
  obtain ⟨A, cp, rfl, _⟩ := owns_slice hT.rows
  have HKE := Lib.hid hk
  obtain ⟨K, hK⟩ : ∃ K, K = L.length := ⟨_, rfl⟩
  rw [← hK]
  have HKL := Lib.hid hK
  clear IH hB hT h hn hL hQ hl hk hd1 hd2 hs1 hs2 hnm hK
  go_enter Tryz.func45, Tryz.ntmps45
  go_wp2_with fail
  refine (HD1.out w).mono ?_
  rintro e w1 ⟨rfl, hb1⟩
  have HB1 := Lib.hid hb1
  clear hb1
  go_upto_if 43 with fail
  go_cut [8] (fun s wx => s = .string nm ∧ Hid (Below w.heap.size w wx))
  case first =>
    by_cases q : n < M
    · have q2 : (n : Int) < (N : Int) - 1 := by omega
      have e := HNM1.out q
      have HE := Lib.hid e
      clear e q
      go_wp2_with fail
      refine (HD2.out w1).mono ?_
      rintro e w2 ⟨rfl, hb2⟩
      have HB2 := Lib.hid (bl_trans HB1.out hb2)
      clear hb2
      go_wp2_with fail
      go_meet
      exact ⟨by rw [HE.out], HB2⟩
    · have q2 : ¬ ((n : Int) < (N : Int) - 1) := by omega
      have HE := Lib.hid (HNM2.out q)
      clear q
      go_wp2_with fail
      go_meet
      exact ⟨by rw [HE.out], HB1⟩
  case rest =>
    obtain ⟨rfl, hBc⟩ := hcut
    clear HB1 HD1 HD2 HNM1 HNM2
    obtain ⟨m, hm⟩ : ∃ m, m = min M n := ⟨_, rfl⟩
    have hm1 : m ≤ M := by omega
    have hm2 : m ≤ n := by omega
    have HMM := Lib.hid hm
    clear hm
    obtain ⟨t, ht⟩ : ∃ t, t = ndL M ps := ⟨_, rfl⟩
    rw [← ht] at HB
    have HTE := Lib.hid ht
    have HTL : Hid (t.length = n) := by show _ = _; rw [ht, ndL_len, HPS.out]
    clear ht
    have HOK2 := hBc.out.size
    go_wp2_with fail
    go_loopw [2, 9] (fun x y wr => ∃ (p : Nat) (rs' : Nat → Rw), p ≤ m ∧ y = .int .i64 p ∧ Hid (TsW wr base x (L ++ (rtrK M f ps p).map (ndL M)).length (vT (L ++ (rtrK M f ps p).map (ndL M))) rs') ∧ Hid (Below base w wr) ∧ w.heap.size ≤ wr.heap.size ∧ Hid (∀ b, b < w.heap.size → (Value.slice A K cp).ownBlock ≠ some b → wr.heap[b]? = w.heap[b]?) ∧ Hid (x.ownBlock = (Value.slice A K cp).ownBlock ∨ ∃ b, x.ownBlock = some b ∧ w.heap.size ≤ b)) (fun _ y _ => m - (intOf y).toNat)
    case atStart =>
      refine ⟨0, rs, by omega, rfl, ?_, hBc.out.mono hbs, HOK2, fun b hb _ => hBc.out.block b hb, .inl rfl⟩
      have e : L ++ (rtrK M f ps 0).map (ndL M) = L := by simp [rtrK]
      show TsW _ _ _ _ _ _
      rw [e, ← HKL.out]; rw [← HKL.out] at HT; exact HT.out.bl hBc.out
    case round =>
      clear hBc HOK2
      obtain ⟨p, rs2, hpm, rfl, hT, hB, hsz, hK, hO⟩ := hrel
      have HBR : Hid (wr.ownsRow tb 46 2 (.slice (some ⟨gb, 0, none⟩) n d) n (fl encNd t)) := owns_same HB.out hsz (fun g e => hK.out g (HB.out.lt g e).2 (fun e2 => by
        rcases owns_ne HB.out HT.out.rows (by decide) with h | h
        · rw [e] at h; cases h
        · exact h (e.trans (by rw [← HKL.out]; exact e2.symm))))
      obtain ⟨Lp, hLp⟩ : ∃ x, x = L ++ (rtrK M f ps p).map (ndL M) := ⟨_, rfl⟩
      rw [← hLp] at hT
      have HLP := Lib.hid hLp
      have HLQ : Hid (Lp.length ≤ L.length + p * 4 ^ f) := by
        show _ ≤ _
        rw [hLp, List.length_append, List.length_map]
        have := rtrK_len M f hM ps p
        omega
      clear hLp
      obtain ⟨Ap, cpp, rfl, _⟩ := owns_slice hT.out.rows
      obtain ⟨Kp, hKp⟩ : ∃ x, x = Lp.length := ⟨_, rfl⟩
      rw [← hKp] at hT hO ⊢
      have HKP := Lib.hid hKp
      clear hKp
      by_cases hlt : p < m
      · have q1 : (p : Int) < (N : Int) - 1 := by omega
        have q2 : (p : Int) < (n : Int) := by omega
        have q3 : p < n := by omega
        have HPU : Hid (ndL M (ps ++ [(p : Int)]) = t ++ [((p : Int), nm)]) := by show _ = _; rw [ndL_push, HPS.out, HTE.out, HNM.out]
        have hown0 : (wr.alloc (.cells #[] 46)).ownsRow wr.heap.size 46 2 (.slice (some ⟨wr.heap.size, 0, none⟩) 0 0) 0 (fl encNd []) := by
          have := owns_made (w := wr) (base := wr.heap.size) (e := 46) (k := 2) (n := 0) (cs := #[]) (Nat.le_refl _) (by simp) (by omega)
          exact this
        have HO0 := Lib.hid hown0
        have hb6 := bl_alloc (Below.refl wr.heap.size wr) (.cells #[] 46)
        have HB6 := Lib.hid hb6
        have HA6 := Lib.hid ((rd_of_owns HBR.out).bl hb6)
        clear hown0 hb6
        go_upto_region 12 with fail
        go_wp2_with (first
          | (at_builtin; refine wpList_pushs (enc := encNd) (k := 2) (bytes := 24) rfl encNd_len (by decide) encNd_oneR (base := wr.heap.size) Tryz.underlying25 info_Nd rfl (.tmp 59) (.tmp 60) rfl (.slice (some ⟨wr.heap.size, 0, none⟩) 0 0) ([] : List Nd) 0 rfl rfl HO0.out (some ⟨gb, 0, none⟩) n d t HTL.out.symm rfl HA6.out (fun e => by cases e) (by omega) (by decide) HB6.out.size ?_; intro v7 w7 h71 h72 h73; rw [Nat.zero_add, List.nil_append] at h71; obtain ⟨A7, c7, rfl, _⟩ := owns_slice h71; have H71 := Lib.hid h71; have hb7 : Below wr.heap.size wr w7 := HB6.out.grown h72 HB6.out.size (fun r e => (HO0.out.lt r e).1); have HB7 := Lib.hid hb7; have hs7 := hb7.size; clear h71 h72 h73 hb7)
          | (at_builtin; refine push_Nd rfl (.tmp 61) (.tmp 65) rfl wr.heap.size (.slice A7 n c7) t n HTL.out.symm rfl (H71.out.alloc _) _ _ ((p : Int), nm) rfl (Blk.new _ _ _) (by omega) (by rw [World.size_alloc]; omega) ?_; intro g8 cap8 w8 h81 h82 h83 h84; rw [← HPU.out] at h81; have H81 := Lib.hid h81; have HB8 : Hid (Below wr.heap.size wr w8) := (bl_alloc HB7.out (.cells #[.int .i64 p, .string nm] 46)).grown h82 (by rw [World.size_alloc]; omega) (fun r e => (H71.out.lt r e).1); clear h81 h82 h83))
        have hs8 := HB8.out.size
        have HBD : Lp.length + 4 ^ f ≤ 10000000 := by
          have h1 := HLQ.out
          have h2 := HL.out
          rw [Nat.pow_succ] at h2
          have h3 : p * 4 ^ f ≤ 3 * 4 ^ f := Nat.mul_le_mul_right _ (by omega)
          omega
        have HCL := Lib.hid (HIH.out p cap8 wr.heap.size g8 Lp (.slice Ap Kp cpp) rs2 w8 q3 H81.out (by rw [← HKP.out]; exact hT.out.bl HB8.out) HBD (by omega))
        clear HBD H71 HB7 HB6 HA6 HO0 H81
        refine HCL.out.mono ?_
        rintro e wx ⟨v', rs', rfl, ht', hb', hs', hk', ho'⟩
        have HSN : Hid (Lp ++ (rtr (M + 1) f (ps ++ [(p : Int)])).map (ndL M) = L ++ (rtrK M f ps (p + 1)).map (ndL M)) := by
          show _ = _
          rw [HLP.out, rtrK_succ, List.map_append, List.append_assoc]
        rw [HSN.out] at ht'
        have HT' := Lib.hid ht'
        have HBX : Hid (Below base w wx) := (hB.out.trans (HB8.out.mono (by omega))).trans hb'
        have HSX : w.heap.size ≤ wx.heap.size := by
          have := hb'.size
          omega
        have HKX : Hid (∀ b, b < w.heap.size → (Value.slice A K cp).ownBlock ≠ some b → wx.heap[b]? = w.heap[b]?) := fun b hb hne => by
          refine (hk' b (by omega) fun e => ?_).trans ((HB8.out.block b (by omega)).trans (hK.out b hb hne))
          rcases hO.out with h | ⟨b2, h, h2⟩
          · exact hne (h.symm.trans e)
          · rw [h] at e; have := Option.some.inj e; omega
        have HOX : Hid (v'.ownBlock = (Value.slice A K cp).ownBlock ∨ ∃ b, v'.ownBlock = some b ∧ w.heap.size ≤ b) := by
          rcases ho' with h | ⟨b, h, h2⟩
          · rcases hO.out with h3 | ⟨b2, h3, h4⟩
            · exact .inl (h.trans h3)
            · exact .inr ⟨b2, h.trans h3, h4⟩
          · exact .inr ⟨b, h, by omega⟩
        clear ht' hb' hs' hk' ho' HSN HCL HB8 hT hB hK hO HBR
        go_wp2_with fail
        go_roundw
        case rel => exact ⟨p + 1, rs', by omega, by go_num, HT', HBX, HSX, HKX, HOX⟩
        case measure => simp [intOf]; omega
      · obtain rfl : p = m := by omega
        have HE : Hid (L ++ (rtr (M + 1) (f + 1) ps).map (ndL M) = Lp) := by show _ = _; rw [rtr_succ, HPS.out, ← HMM.out, HLP.out]
        have HFIN : Hid (RtPost M (f + 1) ps L base (Value.slice A K cp) w (.returned (.slice Ap Kp cpp)) wr) := by
          refine ⟨_, rs2, rfl, ?_, hB.out, by omega, hK.out, hO.out⟩
          rw [HE.out, ← HKP.out]; exact hT.out
        clear hT hB hK hO HBR HE
        by_cases q1 : (p : Int) < (N : Int) - 1
        · have q2 : ¬ ((p : Int) < (n : Int)) := by have := HMM.out; omega
          go_wp2_with fail
          go_ret
          exact HFIN.out
        · go_wp2_with fail
          go_ret
          exact HFIN.out
/-- The document's trees that go on with a list of parents. -/
theorem rtrees_any (M N base : Nat) (hN1 : N ≤ M + 1) (hN2 : M + 1 ≤ N) (hM : M < 5) (hM1 : 1 ≤ M) : ∀ (f n d tb gb : Nat) (ps : List Int) (L : List (List Nd)) (v : Value) (rs : Nat → Rw) (w : World), ps.length = n → n + f = 2 * M + 1 → PsOk ps →
    w.ownsRow tb 46 2 (.slice (some ⟨gb, 0, none⟩) n d) n (fl encNd (ndL M ps)) → TsW w base v L.length (vT L) rs → L.length + 4 ^ f ≤ 10000000 → base ≤ w.heap.size →
    Calls Tryz.prog 45 #[.int .i64 N, .slice (some ⟨gb, 0, none⟩) n d, v] w (RtPost M f ps L base v w)
  | 0, n, d, tb, gb, ps, L, v, rs, w, hn, hl, h, hB, hT, hL, hbs => rtrees_leaf M N n d base tb gb ps L v rs w hN1 hN2 hM hn (by omega) h hB hT (by omega) hbs
  | f + 1, n, d, tb, gb, ps, L, v, rs, w, hn, hl, h, hB, hT, hL, hbs => rtrees_step M N n d base tb gb f ps L v rs w hN1 hN2 hM hM1 hn (by omega) h hB hT hL hbs (fun p d' tb' gb' L' v' rs' w' hp hB' hT' hL' hbs' =>
      rtrees_any M N base hN1 hN2 hM hM1 f (n + 1) d' tb' gb' (ps ++ [(p : Int)]) L' v' rs' w' (by rw [List.length_append, hn]; rfl) (by omega) (psOk_push h (by omega)) hB' hT' hL' hbs')
end Go.Proofs.YtjmnakkkimgifaaGreatDoor
namespace Go.Proofs.YtjmnakkkimgifaaGreatDoor
open Go Go.RowKit Go.Shelf
theorem ndL_one (M : Nat) (h : 1 ≤ M) : ndL M [-1] = [((-1 : Int), (⟨#[73, 48]⟩ : ByteArray))] := by
  unfold ndL ndN
  simp [iA, show 0 < M by omega]
set_option maxRecDepth 100000 in
set_option maxHeartbeats 2000000 in
theorem rtr_in (N : Nat) (w : World) (h1 : 2 ≤ N) (h5 : N ≤ 5) :
    Calls Tryz.prog 20 #[.int .i64 (N : Nat)] w (TrsPost (N : Nat) w) := by
  obtain ⟨M, hM⟩ : ∃ M, M = N - 1 := ⟨_, rfl⟩
  have hM1 : 1 ≤ M := by omega
  have hM5 : M < 5 := by omega
  have hN1 : N ≤ M + 1 := by omega
  have hN2 : M + 1 ≤ N := by omega
  have hE : Hid (trE (N : Nat) = 0) := if_pos (by omega)
  have hL : Hid (trL (N : Nat) = (rtr (M + 1) (2 * M) [-1]).map (ndL M)) := by
    show _ = _
    rw [trL_nd, if_pos (by omega), Int.toNat_natCast]
    have h := rtr_so (M - 1) (by omega)
    rw [show M - 1 + 2 = M + 1 by omega, show 2 * (M + 1) - 2 = 2 * M by omega] at h
    rw [h, show N = M + 1 by omega]; rfl
  have hb1 := bl_alloc (Below.refl _ w) (.cells #[.int .i64 (-1), .string ⟨#[73, 48]⟩] 46)
  have ho := owns_made (w := w) (base := w.heap.size) (e := 46) (k := 2) (n := 1) (cs := #[.int .i64 (-1), .string ⟨#[73, 48]⟩]) (Nat.le_refl _) rfl (by decide)
  have ho : (w.alloc (.cells #[.int .i64 (-1), .string ⟨#[73, 48]⟩] 46)).ownsRow w.heap.size 46 2 (.slice (some ⟨w.heap.size, 0, none⟩) 1 1) 1 (fl encNd (ndL M [-1])) := by rw [ndL_one M hM1]; exact ho
  have HC := Lib.hid (rtrees_any M N w.heap.size hN1 hN2 hM5 hM1 (2 * M) 1 1 w.heap.size w.heap.size [-1] [] (.slice none 0 0) (fun _ => (none, 0, 0)) (w.alloc (.cells #[.int .i64 (-1), .string ⟨#[73, 48]⟩] 46)) rfl (by omega) ⟨by decide, rfl, fun v h1 h2 => by simp at h2; omega⟩ ho (TsW.zero _ _ _ _)
    (by
      have : 4 ^ (2 * M) ≤ 4 ^ 8 := Nat.pow_le_pow_right (by omega) (by omega)
      show 0 + 4 ^ (2 * M) ≤ _
      omega) hb1.size)
  have HB1 := Lib.hid hb1
  clear hb1 ho hM hN1 hN2 hM1
  have t1 : ¬ ((N : Int) < 1) := by omega
  have t2 : ¬ (5 < (N : Int)) := by omega
  have t3 : ¬ ((N : Int) = 1) := by omega
  have t4 : ((N : Int) == 1) = false := by simp; omega
  go_enter Tryz.func20, Tryz.ntmps20
  go_wp2_with fail
  refine HC.out.mono ?_
  rintro e w2 ⟨v, rs, rfl, hT, hb, _, _, _⟩
  rw [List.nil_append, ← hL.out] at hT
  have HT := Lib.hid hT
  have HB := Lib.hid (HB1.out.trans hb)
  clear hT hb HC HB1
  go_wp2_with fail
  go_ret2
  exact ⟨v, rs, by rw [hE.out]; rfl, HT.out, HB.out⟩
set_option maxRecDepth 100000 in
set_option maxHeartbeats 2000000 in
theorem rTrees_any (n : Int) (w : World) : Calls Tryz.prog 20 #[.int .i64 n] w (TrsPost n w) := by
  by_cases h : 2 ≤ n ∧ n ≤ 5
  · obtain ⟨N, rfl⟩ : ∃ N : Nat, n = (N : Nat) := ⟨n.toNat, by omega⟩
    exact rtr_in N w (by omega) (by omega)
  · by_cases h1 : n = 1
    · subst h1
      have hb2 := bl_alloc (bl_alloc (Below.refl _ w) (.cells #[.int .i64 (-1), .string ⟨#[76, 48]⟩] 46)) (.cells #[.slice (some ⟨w.heap.size, 0, none⟩) 1 1] 25)
      have hb1 := bl_alloc (Below.refl _ w) (.cells #[.int .i64 (-1), .string ⟨#[76, 48]⟩] 46)
      have ho0 := owns_made (w := w) (base := w.heap.size) (e := 46) (k := 2) (n := 1) (cs := #[.int .i64 (-1), .string ⟨#[76, 48]⟩]) (Nat.le_refl _) rfl (by decide)
      have ho1 := owns_made (w := w.alloc (.cells #[.int .i64 (-1), .string ⟨#[76, 48]⟩] 46)) (base := w.heap.size) (e := 25) (k := 1) (n := 1) (cs := #[.slice (some ⟨w.heap.size, 0, none⟩) 1 1]) hb1.size rfl (by decide)
      rw [World.size_alloc] at ho1
      have hT0 : TsW ((w.alloc (.cells #[.int .i64 (-1), .string ⟨#[76, 48]⟩] 46)).alloc (.cells #[.slice (some ⟨w.heap.size, 0, none⟩) 1 1] 25)) w.heap.size (.slice (some ⟨w.heap.size + 1, 0, none⟩) 1 1) (trL 1).length (vT (trL 1)) (fun _ => (some ⟨w.heap.size, 0, none⟩, 1, 1)) := by
        have e : trL 1 = [[((-1 : Int), (⟨#[76, 48]⟩ : ByteArray))]] := by rw [trL_nd]; decide +kernel
        rw [e]
        refine ⟨ho1, fun i hi => ?_, fun i hi => ?_, fun i j hi hj hij => ?_, fun i hi => ?_⟩
        · obtain rfl : i = 0 := by simp at hi; omega
          exact owns_below ho0 (bl_alloc (Below.refl _ _) _)
        · obtain rfl : i = 0 := by simp at hi; omega
          rfl
        · simp at hi hj; omega
        · right
          intro e
          have := Option.some.inj (show some w.heap.size = some (w.heap.size + 1) from e)
          omega
      have HT := Lib.hid hT0
      have HB := Lib.hid hb2
      clear h hb2 hb1 ho0 ho1 hT0
      go_enter Tryz.func20, Tryz.ntmps20
      go_wp2_with fail
      go_ret2
      exact ⟨_, _, rfl, HT.out, HB.out⟩
    · have hE : Hid (trE n = 3) := if_neg (by omega)
      have hL : Hid (trL n = []) := if_neg (by omega)
      by_cases h0 : n < 1
      · clear h h1
        go_enter Tryz.func20, Tryz.ntmps20
        go_wp2_with fail
        go_ret2
        exact ⟨.slice none 0 0, fun _ => (none, 0, 0), by rw [hE.out]; rfl, by rw [hL.out]; exact TsW.zero _ _ _ _, Below.refl _ _⟩
      · have h5 : 5 < n := by omega
        clear h h1
        go_enter Tryz.func20, Tryz.ntmps20
        go_wp2_with fail
        go_ret2
        exact ⟨.slice none 0 0, fun _ => (none, 0, 0), by rw [hE.out]; rfl, by rw [hL.out]; exact TsW.zero _ _ _ _, Below.refl _ _⟩
set_option maxRecDepth 100000 in
set_option maxHeartbeats 2000000 in
/-- The document's Near. -/
theorem rNear_any (a : Option Addr) (n c : Nat) (t : List Nd) (w : World) (hn : t.length = n) (hN : n ≤ 1152921504606846976) (hA : Rd w a (fl encNd t)) (hS : ∀ v, v < n → (nS t v).size ≤ 9223372036854775807) :
    Calls Tryz.prog 18 #[.slice a n c] w fun e w' => ∃ v rs, e = .returned (.tuple #[v, .int .i64 (nearE t)]) ∧ TsW w' w.heap.size v (nearT t).length (vT (nearT t)) rs ∧ Below w.heap.size w w' := by
  have HC := Lib.hid (rbinary_any a n c t w hn hN hA hS)
  have HA := Lib.hid hA
  have HN := Lib.hid hn
  have HS := Lib.hid hS
  clear hA hS hn
  go_enter Tryz.func18, Tryz.ntmps18
  go_wp2_with fail
  refine HC.out.mono ?_
  rintro e w2 ⟨rfl, hb2⟩
  have HB2 := Lib.hid hb2
  have HA2 := Lib.hid (HA.out.bl hb2)
  clear hb2 HC HA
  by_cases h0 : chkE t = 0
  · by_cases h1 : binB t t.length = true
    · have hE : Hid (nearE t = 0) := by show _ = _; unfold nearE; rw [if_neg (fun e => e h0), if_pos h1]
      have hP : binP t = true := by unfold binP; rw [h0, h1]; rfl
      have HT : Hid (nearT t = nearL t n) := by show _ = _; unfold nearT; rw [if_pos hE.out, HN.out]
      have HK := Lib.hid (nearE_zero hE.out)
      have HRN := Lib.hid (rnear_any a n c t w2 HN.out HK.out.1 (by have h := HK.out.2; rw [HN.out] at h; exact h) HA2.out HS.out)
      rw [h0, hP]
      clear h0 h1 hP
      go_wp2_with fail
      refine HRN.out.mono ?_
      rintro e w4 ⟨v, rs, rfl, h1, h2⟩
      have H1 := Lib.hid h1
      have H2 := Lib.hid h2
      clear h1 h2
      go_wp2_with fail
      go_ret2
      refine ⟨v, rs, by rw [hE.out]; rfl, ?_, bl_trans HB2.out H2.out⟩
      rw [HT.out]
      exact H1.out.mono HB2.out.size
    · have hE : Hid (nearE t = 2) := by show _ = _; unfold nearE; rw [if_neg (fun e => e h0), if_neg h1]
      have hP : binP t = false := by unfold binP; rw [Bool.not_eq_true] at h1; rw [h1, Bool.and_false]
      have HT : Hid (nearT t = []) := by show _ = _; unfold nearT; rw [hE.out]; rfl
      rw [h0, hP]
      clear h0 h1 hP
      go_wp2_with fail
      go_ret2
      refine ⟨.slice none 0 0, fun _ => (none, 0, 0), by rw [hE.out]; rfl, ?_, HB2.out⟩
      rw [HT.out]; exact TsW.zero _ _ _ _
  · have hE : Hid (nearE t = chkE t) := if_pos h0
    have HT : Hid (nearT t = []) := by show _ = _; unfold nearT; rw [hE.out, if_neg h0]
    obtain ⟨E, hEE⟩ : ∃ E, chkE t = E := ⟨_, rfl⟩
    rw [hEE] at hE h0 ⊢
    have d0 : (E == 0) = false := by simp [h0]
    have d1 : (E != 0) = true := by simp [h0]
    clear hEE h0
    go_wp2_with fail
    go_ret2
    refine ⟨.slice none 0 0, fun _ => (none, 0, 0), by rw [hE.out]; rfl, ?_, HB2.out⟩
    rw [HT.out]; exact TsW.zero _ _ _ _
end Go.Proofs.YtjmnakkkimgifaaGreatDoor
namespace Go.Proofs.YtjmnakkkimgifaaGreatDoor
open Go Go.RowKit Go.Shelf
theorem trL_small {L : Int} (h : trE L = 0) : 0 < (trL L).length ∧ (trL L).length ≤ 105 := by
  have hLr : 1 ≤ L ∧ L ≤ 5 := by
    unfold trE at h
    by_cases q : 1 ≤ L ∧ L ≤ 5
    · exact q
    · rw [if_neg q] at h; cases h
  obtain ⟨M, rfl⟩ : ∃ M : Nat, L = ((M + 1 : Nat) : Int) := ⟨(L - 1).toNat, by omega⟩
  rw [(trL_in (N := M) (by omega)).2, List.length_map, soP_len M (by omega)]
  exact trP_len M (by omega)
set_option maxRecDepth 100000 in
set_option maxHeartbeats 2000000 in
theorem rbest_any (L : Int) (a : Option Addr) (N c : Nat) (l : List Nat) (w : World) (hl : l.length = N) (hN : N ≤ 1152921504606846976) (hA : Rd w a (fl encV l)) (hF : FitV l) :
    Calls Tryz.prog 23 #[.agg #[.int .i64 L, .slice a N c]] w (BsPost L l w) := by
  have hb0 := bl_alloc (Below.refl _ w) (.cells #[.int .i64 L, .slice a N c] 28)
  have hX := Blk.new w #[.int .i64 L, .slice a N c] 28
  have HC := Lib.hid (rschk_any L a N c l (w.alloc (.cells #[.int .i64 L, .slice a N c] 28)) hl hN (hA.bl hb0) hF)
  have HL := Lib.hid hl
  have HF := Lib.hid hF
  have HA0 := Lib.hid (fun (W : World) (hW : Below w.heap.size w W) => hA.bl hW)
  have HB0 := Lib.hid hb0
  have HX := Lib.hid hX
  obtain ⟨X, hXe⟩ : ∃ x, x = w.heap.size := ⟨_, rfl⟩
  have HXE := Lib.hid hXe
  rw [← hXe] at HX
  clear hl hA hF hX hb0 hXe
  go_enter Tryz.func23, Tryz.ntmps23
  go_wp2_with fail
  refine HC.out.mono ?_
  rintro e w2 ⟨rfl, hb2⟩
  have HB2 := Lib.hid (bl_trans HB0.out hb2)
  have HX2 := Lib.hid (HX.out.below hb2)
  clear hb2 HC HX HB0
  rw [← HXE.out]
  by_cases h0 : chkT L l = 0
  · have HE : Hid (bstE L l = trE L) := if_neg (fun e => e h0)
    have e0 : w2.cell? ⟨X, 0, none⟩ = some (.int .i64 L) := HX2.out.cell 0
    rw [h0]
    clear h0
    go_wp2_with fail
    refine (rTrees_any L w2).mono ?_
    rintro e w3 ⟨v, rs, rfl, hT, hb3⟩
    have HB3 := Lib.hid (bl_trans HB2.out hb3)
    have HX3 := Lib.hid (HX2.out.below hb3)
    have HT := Lib.hid hT
    clear hb3 hT HB2 HX2 e0
    by_cases h1 : trE L = 0
    · have hlen := trL_small h1
      have HE0 : Hid (bstE L l = 0) := by show _ = _; rw [HE.out, h1]
      rw [h1]
      obtain ⟨q, hq⟩ : ∃ q, q = (trL L).length := ⟨_, rfl⟩
      rw [← hq] at HT hlen
      have HQ := Lib.hid hq
      have hbs : ∀ k, k < q → (vT (trL L) k).length ≤ 1152921504606846976 ∧ ∀ v, v < (vT (trL L) k).length → (nS (vT (trL L) k) v).size ≤ 9223372036854775807 := fun k hk => by
        obtain ⟨_, _, g1, g2⟩ := trL_tree (n := L) (k := k) (by rw [← HQ.out]; exact hk)
        exact ⟨by omega, fun v _ => Nat.le_trans (g2 v) (by omega)⟩
      have HSH := Lib.hid (rshortest_any L a N c l v w2.heap.size q (vT (trL L)) rs w3 HL.out hN (HA0.out w3 HB3.out) HF.out hlen.1 (by omega) HT.out hbs)
      have hI : bstT L l = vT (trL L) (minI (fun k => lenS L l (vT (trL L) k)) q) := by unfold bstT bstI; rw [HQ.out]
      have hlt := minI_lt (fun k => lenS L l (vT (trL L) k)) q hlen.1
      obtain ⟨u, hu⟩ : ∃ u, u = minI (fun k => lenS L l (vT (trL L) k)) q := ⟨_, rfl⟩
      rw [← hu] at HSH hI hlt
      obtain ⟨b1, c1, hr1, hr2, hr3⟩ := HT.out.at (i := u) hlt (by have := (trL_tree (n := L) (k := u) (by rw [← HQ.out]; exact hlt)).2.2.1; omega)
      obtain ⟨A1, cp1, hr4, hR⟩ := HT.out.rd hlt
      rw [hr1] at hr4
      rw [hr1] at HSH
      have hA1 : A1 = some ⟨b1, 0, none⟩ := by
        have := congrArg Prod.fst hr4
        exact this.symm
      rw [hA1] at hR
      have HR := Lib.hid hR
      have HI := Lib.hid hI
      rw [← hI] at HSH HR
      obtain ⟨z, hz⟩ : ∃ z, z = lenS L l (bstT L l) := ⟨_, rfl⟩
      obtain ⟨len, hlenz⟩ : ∃ z, z = (bstT L l).length := ⟨_, rfl⟩
      have HSH : Hid (Calls Tryz.prog 56 #[.agg #[.int .i64 L, .slice a N c], v] w3 fun e w' => e = .returned (.tuple #[.slice (some ⟨b1, 0, none⟩) len c1, .int .i64 (z : Nat)]) ∧ Below w3.heap.size w3 w') := by
        rw [hz, hlenz]; exact HSH.out
      have HZ := Lib.hid hz
      have HLN := Lib.hid hlenz
      have e0 : w3.cell? ⟨X, 0, none⟩ = some (.int .i64 L) := HX3.out.cell 0
      have e1 : w3.cell? ⟨X, 1, none⟩ = some (.slice a N c) := HX3.out.cell 1
      clear h1 hq hlen hbs hI hlt hu hr1 hr2 hr3 hr4 hR hA1 hz hlenz
      go_wp2_with fail
      refine HSH.out.mono ?_
      rintro e w4 ⟨rfl, hb4⟩
      have HB4 := Lib.hid (bl_trans HB3.out hb4)
      have HR4 := Lib.hid (HR.out.bl hb4)
      clear hb4
      go_wp2_with fail
      go_ret3
      refine ⟨.slice (some ⟨b1, 0, none⟩) len c1, ?_, fun h => absurd HE0.out h, fun _ => ⟨b1, 0, c1, by rw [HLN.out], HR4.out⟩, HB4.out⟩
      rw [HE0.out, if_pos rfl, HZ.out]; rfl
    · have HE1 : Hid (bstE L l ≠ 0) := by show _ ≠ _; rw [HE.out]; exact h1
      obtain ⟨E, hEE⟩ : ∃ E, trE L = E := ⟨_, rfl⟩
      rw [hEE] at HE h1 ⊢
      have d0 : (E == 0) = false := by simp [h1]
      have d1 : (E != 0) = true := by simp [h1]
      clear hEE h1 HT
      go_wp2_with fail
      go_ret3
      exact ⟨.slice none 0 0, by rw [if_neg HE1.out, HE.out]; rfl, fun _ => rfl, fun h => absurd h HE1.out, HB3.out⟩
  · have HE : Hid (bstE L l = chkT L l) := if_pos h0
    obtain ⟨E, hEE⟩ : ∃ E, chkT L l = E := ⟨_, rfl⟩
    rw [hEE] at HE h0 ⊢
    have d0 : (E == 0) = false := by simp [h0]
    have d1 : (E != 0) = true := by simp [h0]
    have HE1 : Hid (bstE L l ≠ 0) := by show _ ≠ _; rw [HE.out]; exact h0
    clear hEE h0
    go_wp2_with fail
    go_ret3
    exact ⟨.slice none 0 0, by rw [if_neg HE1.out, HE.out]; rfl, fun _ => rfl, fun h => absurd h HE1.out, HB2.out⟩
set_option maxRecDepth 100000 in
set_option maxHeartbeats 4000000 in
theorem rclimb_any (L : Int) (a : Option Addr) (N c : Nat) (l : List Nat) (b : Option Addr) (n d : Nat) (t : List Nd) (w : World) (hl : l.length = N) (hN : N ≤ 1152921504606846976) (hA : Rd w a (fl encV l)) (hF : FitV l)
    (ht : t.length = n) (hn : n ≤ 1152921504606846976) (hB : Rd w b (fl encNd t)) (hS : ∀ v, v < n → (nS t v).size ≤ 9223372036854775807) :
    Calls Tryz.prog 25 #[.agg #[.int .i64 L, .slice a N c], .slice b n d] w (ClPost L l t w) := by
  have hb0 := bl_alloc (Below.refl _ w) (.cells #[.int .i64 L, .slice a N c] 28)
  have hX := Blk.new w #[.int .i64 L, .slice a N c] 28
  have HC := Lib.hid (rboth_any L a N c l b n d t (w.alloc (.cells #[.int .i64 L, .slice a N c] 28)) hl hN (hA.bl hb0) hF ht hn (hB.bl hb0) hS)
  have HL := Lib.hid hl
  have HF := Lib.hid hF
  have HT := Lib.hid ht
  have HS := Lib.hid hS
  have HA0 := Lib.hid (fun (W : World) (hW : Below w.heap.size w W) => hA.bl hW)
  have HBB := Lib.hid (fun (W : World) (hW : Below w.heap.size w W) => hB.bl hW)
  have HX := Lib.hid hX
  have HB0 := Lib.hid hb0
  obtain ⟨X, hXe⟩ : ∃ x, x = w.heap.size := ⟨_, rfl⟩
  have HXE := Lib.hid hXe
  rw [← hXe] at HX
  clear hl hA hF hB ht hS hX hb0 hXe
  go_enter Tryz.func25, Tryz.ntmps25
  go_wp2_with fail
  refine HC.out.mono ?_
  rintro e w2 ⟨rfl, hb2⟩
  have HB2 := Lib.hid (bl_trans HB0.out hb2)
  have HX2 := Lib.hid (HX.out.below hb2)
  clear hb2 HC HX HB0
  rw [← HXE.out]
  by_cases h0 : chkP L l t = 0
  · rw [h0]
    obtain ⟨_, hok, _⟩ := chkP_ok h0
    have HOK := Lib.hid hok
    have HC2 := Lib.hid (rbin_any b n d t w2 HT.out hok (HBB.out w2 HB2.out) HS.out)
    have HCE : Hid (clbE L l t = if binB t t.length then 0 else 2) := if_neg (fun e => e h0)
    have H0 := Lib.hid h0
    clear h0 hok
    go_wp2_with fail
    refine HC2.out.mono ?_
    rintro e w3 ⟨rfl, hb3⟩
    have HB3 := Lib.hid (bl_trans HB2.out hb3)
    have HX3 := Lib.hid (HX2.out.below hb3)
    clear hb3 HC2 HX2 HB2
    by_cases h1 : binB t n = true
    · have HCL : Hid (ClT t n) := ⟨HT.out, HOK.out, binB_iff.1 h1⟩
      have HE : Hid (clbE L l t = 0) := by show _ = _; rw [HCE.out, HT.out, if_pos h1]
      rw [h1]
      clear h1 HCE
      have HLN := rlength_any L a N c l b n d t w3 HL.out hN (HA0.out w3 HB3.out) HF.out HT.out hn (HBB.out w3 HB3.out) HS.out
      rw [H0.out] at HLN
      have HLN := Lib.hid HLN
      have e0 : w3.cell? ⟨X, 0, none⟩ = some (.int .i64 L) := HX3.out.cell 0
      have e1 : w3.cell? ⟨X, 1, none⟩ = some (.slice a N c) := HX3.out.cell 1
      go_wp2_with fail
      refine HLN.out.mono ?_
      rintro e w4 ⟨rfl, hb4⟩
      have HB4 := Lib.hid (bl_trans HB3.out hb4)
      have HX4 := Lib.hid (HX3.out.below hb4)
      clear hb4 HLN HX3 HB3 e0 e1
      go_wp2_with fail
      have HLE : Hid (∀ t', lenS L l t' ≤ 2048) := fun t' => lenS_le L l t'
      have HRT := Lib.hid (HBB.out w4 HB4.out)
      obtain ⟨h63, hn1, _⟩ := HCL.out.small
      obtain ⟨bb, ob, rfl, _⟩ := rdNd HRT.out (by rw [HT.out]; exact hn1)
      go_loopw [1, 8] (fun x y wr => ∃ (t' : List Nd) (g o c' : Nat), x = .slice (some ⟨g, o, none⟩) n c' ∧ y = .int .i64 (lenS L l t' : Nat) ∧ Hid (ClT t' n) ∧ Hid (Rd wr (some ⟨g, o, none⟩) (fl encNd t')) ∧ Hid (topL L l t = topL L l t') ∧ Hid (Blk wr X #[.int .i64 L, .slice a N c] 28) ∧ Hid (Below w.heap.size w wr)) (fun _ y _ => (intOf y).toNat)
      case atStart => exact ⟨t, bb, ob, d, rfl, rfl, HCL, HRT, rfl, HX4, HB4⟩
      case round =>
        clear HRT HX4 HB4
        obtain ⟨t', g', o', c', rfl, rfl, hT, hR, hTop, hX, hB⟩ := hrel
        have HTL : Hid (t'.length = n) := hT.out.1
        have HNE := Lib.hid (rnear_any (some ⟨g', o', none⟩) n c' t' wr hT.out.1 hT.out.2.1 hT.out.2.2 hR.out hT.out.small.2.2)
        have hfq : lenS L l t' ≤ 2048 := HLE.out t'
        obtain ⟨M, hM⟩ : ∃ M, M = (nearL t' n).length := ⟨_, rfl⟩
        rw [← hM] at HNE
        have HM := Lib.hid hM
        have HML : Hid ((nearL t' n).length = n - 3) := near_len hT.out.1 hT.out.2.1 hT.out.2.2
        have hM63 : M ≤ 63 := by have := HML.out; omega
        clear hM
        go_wp2_with fail
        refine HNE.out.mono ?_
        rintro e w5 ⟨v, rs, rfl, hTs, hb5⟩
        obtain ⟨Av, cv, rfl, _⟩ := owns_slice hTs.rows
        have HTS := Lib.hid hTs
        have HBX := Lib.hid (bl_trans hB.out hb5)
        have HRX := Lib.hid (hR.out.bl hb5)
        have HXX := Lib.hid (hX.out.below hb5)
        clear hTs hb5 hR hX hB HNE
        by_cases h0 : M = 0
        · have HSP : Hid (stopB L l t' = true) := by show _ = _; unfold stopB; rw [hT.out.1, ← HM.out, h0]; rfl
          subst h0
          have hown0 : (w5.alloc (.cells #[] 46)).ownsRow w5.heap.size 46 2 (.slice (some ⟨w5.heap.size, 0, none⟩) 0 0) 0 (fl encNd []) := by
            have := owns_made (w := w5) (base := w5.heap.size) (e := 46) (k := 2) (n := 0) (cs := #[]) (Nat.le_refl _) (by simp) (by omega)
            exact this
          have HO0 := Lib.hid hown0
          have HB6 := Lib.hid (bl_alloc (Below.refl w5.heap.size w5) (.cells #[] 46))
          clear hown0
          go_wp2_with (at_builtin; refine wpList_pushs (enc := encNd) (k := 2) (bytes := 24) rfl encNd_len (by decide) encNd_oneR (base := w5.heap.size) Tryz.underlying25 info_Nd rfl (.tmp 44) (.tmp 45) rfl (.slice (some ⟨w5.heap.size, 0, none⟩) 0 0) ([] : List Nd) 0 rfl rfl HO0.out (some ⟨g', o', none⟩) n c' t' HTL.out.symm rfl (HRX.out.bl HB6.out) (fun e => by cases e) (by omega) (by decide) HB6.out.size ?_; intro v7 w7 h71 h72 h73; rw [Nat.zero_add, List.nil_append] at h71; obtain ⟨A7, c7, rfl, ha7⟩ := owns_slice h71; have H71 := Lib.hid h71; have hb7 : Below w5.heap.size w5 w7 := HB6.out.grown h72 HB6.out.size (fun r e => (HO0.out.lt r e).1); have HB7 := Lib.hid hb7; have HA7 := Lib.hid ha7; clear h71 h72 h73 hb7 ha7)
          rcases HA7.out with h | ⟨g7, _, _, h⟩
          · omega
          · subst h
            refine bodyPost_ret (v := .tuple #[.slice (some ⟨g7, 0, none⟩) n c7, .int .i64 (lenS L l t' : Nat), .int .i64 0]) (by simp [results, Tryz.results25, go_sem]) rfl ⟨.slice (some ⟨g7, 0, none⟩) n c7, ?_, fun h => absurd HE.out h, fun _ => ⟨g7, 0, c7, ?_, ?_⟩, bl_trans HBX.out HB7.out⟩
            · rw [HE.out, if_pos rfl, hTop.out, topL_stop HSP.out]
            · rw [hTop.out, topL_stop HSP.out, HTL.out]
            · rw [hTop.out, topL_stop HSP.out]; exact rd_of_owns H71.out
        · have h0' : ¬ ((M : Int) = 0) := by omega
          have hM0 : 0 < M := by omega
          have hlt := minI_lt (fun k => lenS L l (vT (nearL t' n) k)) M hM0
          obtain ⟨u, hu⟩ : ∃ u, u = minI (fun k => lenS L l (vT (nearL t' n) k)) M := ⟨_, rfl⟩
          have hSH := rshortest_any L a N c l (.slice Av M cv) wr.heap.size M (vT (nearL t' n)) rs w5 HL.out hN (HA0.out w5 HBX.out) HF.out hM0 (by omega) HTS.out (fun k hk => by
            have h := (hT.out.near (k := k) (by rw [← HM.out]; exact hk)).small
            have h1 := (hT.out.near (k := k) (by rw [← HM.out]; exact hk)).1
            rw [h1]
            exact ⟨by omega, h.2.2⟩)
          rw [← hu] at hSH hlt
          have HT1 : Hid (ClT (vT (nearL t' n) u) n) := hT.out.near (by rw [← HM.out]; exact hlt)
          have HST : Hid (stpL L l t' = vT (nearL t' n) u) := by show _ = _; unfold stpL; rw [hT.out.1, ← HM.out, ← hu]
          obtain ⟨b1, c1, hr1, _, _⟩ := HTS.out.at (i := u) hlt (by rw [HT1.out.1]; omega)
          obtain ⟨A1, cp1, hr4, hR1⟩ := HTS.out.rd hlt
          rw [hr1] at hr4
          rw [hr1, ← HST.out] at hSH
          have hA1 : A1 = some ⟨b1, 0, none⟩ := (congrArg Prod.fst hr4).symm
          rw [hA1, ← HST.out] at hR1
          rw [← HST.out] at HT1
          have HR1 := Lib.hid hR1
          have e1 : (stpL L l t').length = n := HT1.out.1
          have hSH : Calls Tryz.prog 56 #[.agg #[.int .i64 L, .slice a N c], .slice Av M cv] w5 fun e w' => e = .returned (.tuple #[.slice (some ⟨b1, 0, none⟩) n c1, .int .i64 (lenS L l (stpL L l t') : Nat)]) ∧ Below w5.heap.size w5 w' := by rw [← e1]; exact hSH
          have HSH := Lib.hid hSH
          have hfs : lenS L l (stpL L l t') ≤ 2048 := HLE.out _
          have x0 : w5.cell? ⟨X, 0, none⟩ = some (.int .i64 L) := HXX.out.cell 0
          have x1 : w5.cell? ⟨X, 1, none⟩ = some (.slice a N c) := HXX.out.cell 1
          have HM0 := Lib.hid h0
          clear hu hSH hlt hr1 hr4 hR1 hA1 e1 h0
          go_wp2_with fail
          refine HSH.out.mono ?_
          rintro e w6 ⟨rfl, hb6⟩
          have HRX2 := Lib.hid (HRX.out.bl hb6)
          have HR1 := Lib.hid (HR1.out.bl hb6)
          have HXX2 := Lib.hid (HXX.out.below hb6)
          have HBX2 := Lib.hid (bl_trans HBX.out hb6)
          clear hb6 HSH x0 x1 HRX HXX HBX HTS
          by_cases hlt : lenS L l t' ≤ lenS L l (stpL L l t')
          · have HSP : Hid (stopB L l t' = true) := by show _ = _; unfold stopB; rw [decide_eq_true hlt, Bool.or_true]
            have d1 : ((lenS L l t' : Nat) : Int) ≤ ((lenS L l (stpL L l t') : Nat) : Int) := by omega
            have HRX := HRX2
            have HBX := HBX2
            clear hlt
            have hown0 : (w6.alloc (.cells #[] 46)).ownsRow w6.heap.size 46 2 (.slice (some ⟨w6.heap.size, 0, none⟩) 0 0) 0 (fl encNd []) := by
              have := owns_made (w := w6) (base := w6.heap.size) (e := 46) (k := 2) (n := 0) (cs := #[]) (Nat.le_refl _) (by simp) (by omega)
              exact this
            have HO0 := Lib.hid hown0
            have HB6 := Lib.hid (bl_alloc (Below.refl w6.heap.size w6) (.cells #[] 46))
            clear hown0
            go_wp2_with (at_builtin; refine wpList_pushs (enc := encNd) (k := 2) (bytes := 24) rfl encNd_len (by decide) encNd_oneR (base := w6.heap.size) Tryz.underlying25 info_Nd rfl (.tmp 44) (.tmp 45) rfl (.slice (some ⟨w6.heap.size, 0, none⟩) 0 0) ([] : List Nd) 0 rfl rfl HO0.out (some ⟨g', o', none⟩) n c' t' HTL.out.symm rfl (HRX.out.bl HB6.out) (fun e => by cases e) (by omega) (by decide) HB6.out.size ?_; intro v7 w7 h71 h72 h73; rw [Nat.zero_add, List.nil_append] at h71; obtain ⟨A7, c7, rfl, ha7⟩ := owns_slice h71; have H71 := Lib.hid h71; have hb7 : Below w6.heap.size w6 w7 := HB6.out.grown h72 HB6.out.size (fun r e => (HO0.out.lt r e).1); have HB7 := Lib.hid hb7; have HA7 := Lib.hid ha7; clear h71 h72 h73 hb7 ha7)
            rcases HA7.out with h | ⟨g7, _, _, h⟩
            · omega
            · subst h
              refine bodyPost_ret (v := .tuple #[.slice (some ⟨g7, 0, none⟩) n c7, .int .i64 (lenS L l t' : Nat), .int .i64 0]) (by simp [results, Tryz.results25, go_sem]) rfl ⟨.slice (some ⟨g7, 0, none⟩) n c7, ?_, fun h => absurd HE.out h, fun _ => ⟨g7, 0, c7, ?_, ?_⟩, bl_trans HBX.out HB7.out⟩
              · rw [HE.out, if_pos rfl, hTop.out, topL_stop HSP.out]
              · rw [hTop.out, topL_stop HSP.out, HTL.out]
              · rw [hTop.out, topL_stop HSP.out]; exact rd_of_owns H71.out
          · have HSP : Hid (stopB L l t' = false) := by
              show _ = _
              unfold stopB
              rw [hT.out.1, ← HM.out, decide_eq_false hlt, decide_eq_false HM0.out]; rfl
            have d1 : ¬ (((lenS L l t' : Nat) : Int) ≤ ((lenS L l (stpL L l t') : Nat) : Int)) := by omega
            have hlt2 : lenS L l (stpL L l t') < lenS L l t' := by omega
            have HTP : Hid (topL L l t = topL L l (stpL L l t')) := by show _ = _; rw [hTop.out, (topL_step HSP.out).1]
            clear hlt
            go_wp2_with fail
            go_roundw
            case rel => exact ⟨stpL L l t', b1, 0, c1, rfl, rfl, HT1, HR1, HTP, HXX2, HBX2⟩
            case measure => simp [intOf]; omega
    · have HE : Hid (clbE L l t = 2) := by show _ = _; rw [HCE.out, HT.out, if_neg h1]
      have h2 : binB t n = false := by simpa using h1
      rw [h2]
      clear h1 h2 HCE
      go_wp2_with fail
      go_ret3
      refine ⟨.slice none 0 0, by rw [HE.out]; rfl, fun _ => rfl, fun h => ?_, HB3.out⟩
      rw [HE.out] at h; cases h
  · have HE : Hid (clbE L l t = chkP L l t) := if_pos h0
    obtain ⟨E, hEE⟩ : ∃ E, chkP L l t = E := ⟨_, rfl⟩
    rw [hEE] at HE h0 ⊢
    have d0 : (E == 0) = false := by simp [h0]
    have d1 : (E != 0) = true := by simp [h0]
    have H0 := Lib.hid h0
    clear hEE h0
    go_wp2_with fail
    go_ret3
    refine ⟨.slice none 0 0, by rw [HE.out, if_neg H0.out]; rfl, fun _ => rfl, fun h => ?_, HB2.out⟩
    rw [HE.out] at h; exact absurd h H0.out
end Go.Proofs.YtjmnakkkimgifaaGreatDoor
namespace Go.Proofs.YtjmnakkkimgifaaGreatDoor
open Go Go.RowKit Go.Shelf
set_option maxHeartbeats 1000000 in
theorem light_any (L : Int) (a : Option Addr) (N c : Nat) (b : Option Addr) (n d : Nat) (w : World) :
    Calls Tryz.prog 8 #[.agg #[.int .i64 L, .slice a N c], .slice b n d] w fun e w' => e = .returned (.bool (decide (N ≤ 70 ∧ n ≤ 70))) ∧ Below w.heap.size w w' := by
  have HB := Lib.hid (bl_alloc (Below.refl _ w) (.cells #[.int .i64 L, .slice a N c] 24))
  by_cases h1 : N ≤ 70
  · by_cases h2 : n ≤ 70
    · have HR : Hid (decide (N ≤ 70 ∧ n ≤ 70) = true) := decide_eq_true ⟨h1, h2⟩
      go_enter Tryz.func8, Tryz.ntmps8
      go_wp2_with fail
      go_ret
      exact ⟨ret_b (by rw [HR.out]; simp; omega), HB.out⟩
    · have HR : Hid (decide (N ≤ 70 ∧ n ≤ 70) = false) := decide_eq_false (fun h => h2 h.2)
      go_enter Tryz.func8, Tryz.ntmps8
      go_wp2_with fail
      go_ret
      exact ⟨ret_b (by rw [HR.out]; simp; omega), HB.out⟩
  · have HR : Hid (decide (N ≤ 70 ∧ n ≤ 70) = false) := decide_eq_false (fun h => h1 h.1)
    go_enter Tryz.func8, Tryz.ntmps8
    go_wp2_with fail
    go_ret
    exact ⟨rfl, HB.out⟩
/-- The slice v has n rows; row i reads as the tree T i. -/
def RsW (w : World) (v : Value) (n : Nat) (T : Nat → List Nd) (rs : Nat → Rw) : Prop :=
  ∃ (a : Option Addr) (c : Nat), v = .slice a n c ∧ (0 < n → ∃ g o, a = some ⟨g, o, none⟩ ∧ ∀ i, i < n → w.cell? ⟨g, o + i, none⟩ = some (slR (rs i))) ∧ ∀ i, i < n → (rs i).2.1 = (T i).length ∧ Rd w (rs i).1 (fl encNd (T i))
theorem TsW.rsW {w : World} {base n : Nat} {v : Value} {T : Nat → List Nd} {rs : Nat → Rw} (h : TsW w base v n T rs) : RsW w v n T rs := by
  obtain ⟨a, c, rfl, _⟩ := owns_slice h.rows
  refine ⟨a, c, rfl, fun h0 => ?_, fun i hi => ?_⟩
  · obtain ⟨g, cap, e, _, _, hc⟩ := h.cell h0
    cases e
    exact ⟨g, 0, rfl, fun i hi => by rw [Nat.zero_add]; exact hc i hi⟩
  · obtain ⟨a', c', e, hr⟩ := h.rd hi
    rw [e]; exact ⟨rfl, hr⟩
theorem rsW_one {w : World} {X n c : Nat} {A : Option Addr} {t : List Nd} {ty : TypeId} (hB : Blk w X #[.slice A n c] ty) (hR : Rd w A (fl encNd t)) (hl : t.length = n) : RsW w (.slice (some ⟨X, 0, none⟩) 1 1) 1 (fun _ => t) (fun _ => (A, n, c)) :=
  ⟨_, _, rfl, fun _ => ⟨X, 0, rfl, fun i hi => by
    obtain rfl : i = 0 := by omega
    exact hB.cell 0⟩, fun i _ => ⟨hl.symm, hR⟩⟩
set_option maxRecDepth 100000 in
set_option maxHeartbeats 2000000 in
/-- The statements' comparison of lists of trees that read alike. -/
theorem rsame_any (v1 v2 : Value) (n : Nat) (T : Nat → List Nd) (r1 r2 : Nat → Rw) (w : World) (hn : n ≤ 1152921504606846976) (hA : RsW w v1 n T r1) (hB : RsW w v2 n T r2) (hl : ∀ i, i < n → (T i).length ≤ 1152921504606846976) :
    Calls Tryz.prog 17 #[v1, v2] w fun e w' => e = .returned (.bool true) ∧ ∃ n, w' = w.drewN n := by
  obtain ⟨a1, c1, rfl, hA1, hA2⟩ := hA
  obtain ⟨a2, c2, rfl, hB1, hB2⟩ := hB
  have HA1 := Lib.hid hA1
  have HA2 := Lib.hid hA2
  have HB1 := Lib.hid hB1
  have HB2 := Lib.hid hB2
  have HL := Lib.hid hl
  clear hA1 hA2 hB1 hB2 hl
  go_enter Tryz.func17, Tryz.ntmps17
  go_wp2_with fail
  go_loopw [5] (fun x wr => ∃ k : Nat, k ≤ n ∧ x = .int .i64 k ∧ ∃ m, wr = w.drewN m) (fun x _ => n - (intOf x).toNat)
  case atStart => exact ⟨0, by omega, rfl, 0, rfl⟩
  case round =>
    obtain ⟨k, hk, rfl, m, rfl⟩ := hrel
    by_cases hlt : k < n
    · obtain ⟨g1, o1, rfl, hc1⟩ := HA1.out (by omega)
      obtain ⟨g2, o2, rfl, hc2⟩ := HB1.out (by omega)
      obtain ⟨l1, hr1⟩ := HA2.out k hlt
      obtain ⟨l2, hr2⟩ := HB2.out k hlt
      have G1 := hc1 k hlt
      have G2 := hc2 k hlt
      obtain ⟨z, hz⟩ : ∃ z, z = (T k).length := ⟨_, rfl⟩
      rw [← hz] at l1 l2
      obtain ⟨q1, hq1⟩ : ∃ q, q = r1 k := ⟨_, rfl⟩
      obtain ⟨q2, hq2⟩ : ∃ q, q = r2 k := ⟨_, rfl⟩
      rw [← hq1] at G1 l1 hr1
      rw [← hq2] at G2 l2 hr2
      obtain ⟨x1, m1, y1⟩ := q1
      obtain ⟨x2, m2, y2⟩ := q2
      obtain rfl : m1 = z := l1
      obtain rfl : m2 = m1 := l2
      unfold slR at G1 G2
      dsimp only at G1 G2 hr1 hr2
      have hll := HL.out k hlt
      obtain ⟨wo, hwo⟩ : ∃ x, x = w.drewN m := ⟨_, rfl⟩
      have HC : Hid (∀ j, Calls Tryz.prog 30 #[.slice x1 m2 y1, .slice x2 m2 y2] (wo.drewN j) fun e w' => e = .returned (.bool true) ∧ ∃ n, w' = wo.drewN n) := fun j => by
        rw [hwo]
        refine (same2_any x1 x2 _ _ y1 y2 (T k) (T k) _ hz.symm hz.symm (by omega) (by omega) ((hr1.drewN m).drewN j) ((hr2.drewN m).drewN j)).mono ?_
        rintro e w' ⟨rfl, q, rfl⟩
        exact ⟨ret_b (decide_eq_true rfl), j + q, by rw [drewN_add]⟩
      have K1 : wo.cell? ⟨g1, o1 + k, none⟩ = some (.slice x1 m2 y1) := by rw [hwo]; exact G1
      have K2 : wo.cell? ⟨g2, o2 + k, none⟩ = some (.slice x2 m2 y2) := by rw [hwo]; exact G2
      have HW := Lib.hid hwo
      rw [← hwo]
      clear hc1 hc2 hq1 hq2 hr1 hr2 hz hll G1 G2 hwo
      go_wp2_with fail
      refine wp_region_quiet_lit (by kernel_rfl) (by kernel_rfl) ?_
      repeat (go_big_quiet_step (exact HC.out _))
      refine wpQuiet_nil ?_
      intro _ hw'
      obtain ⟨nq, hw''⟩ := hw'
      subst hw''
      try simp only [Act.put, List.setIfInBounds_toArray, List.set_cons_zero, List.set_cons_succ]
      go_wp2_with fail
      go_roundw
      case rel => exact ⟨k + 1, by omega, by go_num, m + nq, by rw [HW.out]; simp⟩
      case measure => simp [intOf]; omega
    · go_wp2_with fail
      go_ret
      exact ⟨rfl, m, rfl⟩
end Go.Proofs.YtjmnakkkimgifaaGreatDoor
namespace Go.Proofs.YtjmnakkkimgifaaGreatDoor
open Go Go.RowKit Go.Shelf
theorem rsOf_none (w : World) : Rd w none (fl encNd []) := fun h => absurd h (by simp [fl])
/-- What Best answers, as a slice that reads as a tree. -/
theorem bsPost_rd {L : Int} {l : List Nat} {w : World} {e : Ending} {w' : World} (h : BsPost L l w e w') : ∃ (A : Option Addr) (n c : Nat) (t : List Nd), e = .returned (.tuple #[.slice A n c, .int .i64 (if bstE L l = 0 then lenS L l (bstT L l) else 0 : Nat), .int .i64 (bstE L l)]) ∧ t = (if bstE L l = 0 then bstT L l else []) ∧ n = t.length ∧ Rd w' A (fl encNd t) ∧ Below w.heap.size w w' := by
  obtain ⟨v, rfl, h1, h2, hb⟩ := h
  by_cases q : bstE L l = 0
  · obtain ⟨b, o, c, rfl, hr⟩ := h2 q
    exact ⟨_, _, _, bstT L l, rfl, by rw [if_pos q], rfl, hr, hb⟩
  · obtain rfl := h1 q
    exact ⟨_, _, _, [], rfl, by rw [if_neg q], rfl, rsOf_none _, hb⟩
theorem clPost_rd {L : Int} {l : List Nat} {t0 : List Nd} {w : World} {e : Ending} {w' : World} (h : ClPost L l t0 w e w') : ∃ (A : Option Addr) (n c : Nat) (t : List Nd), e = .returned (.tuple #[.slice A n c, .int .i64 (if clbE L l t0 = 0 then lenS L l (topL L l t0) else 0 : Nat), .int .i64 (clbE L l t0)]) ∧ t = (if clbE L l t0 = 0 then topL L l t0 else []) ∧ n = t.length ∧ Rd w' A (fl encNd t) ∧ Below w.heap.size w w' := by
  obtain ⟨v, rfl, h1, h2, hb⟩ := h
  by_cases q : clbE L l t0 = 0
  · obtain ⟨b, o, c, rfl, hr⟩ := h2 q
    exact ⟨_, _, _, topL L l t0, rfl, by rw [if_pos q], rfl, hr, hb⟩
  · obtain rfl := h1 q
    exact ⟨_, _, _, [], rfl, by rw [if_neg q], rfl, rsOf_none _, hb⟩
theorem bst_le (L : Int) (l : List Nat) : (if bstE L l = 0 then bstT L l else []).length ≤ 1000 := by
  by_cases q : bstE L l = 0
  · rw [if_pos q]
    have h : trE L = 0 := by
      unfold bstE at q
      by_cases q2 : chkT L l = 0
      · rw [if_neg (fun e => e q2)] at q; exact q
      · rw [if_pos q2] at q; exact absurd q q2
    have hlt := minI_lt (fun k => lenS L l (vT (trL L) k)) (trL L).length (trL_small h).1
    have := trL_tree (n := L) (k := bstI L l) hlt
    show (vT (trL L) (bstI L l)).length ≤ _
    omega
  · rw [if_neg q]; simp
set_option maxRecDepth 100000 in
set_option maxHeartbeats 4000000 in
theorem shlaw33_any (L : Int) (a : Option Addr) (N c : Nat) (l : List Nat) (w : World) (hL1 : -9223372036854775808 ≤ L) (hL2 : L ≤ 9223372036854775807) (hl : l.length = N) (hN : N ≤ 1152921504606846976) (hA : Rd w a (fl encV l)) (hF : FitV l) :
    Calls Tryz.prog 6 #[.agg #[.int .i64 L, .slice a N c]] w fun e w' => e = .returned (.bool true) ∧ Below w.heap.size w w' := by
  have hb0 := bl_alloc (Below.refl _ w) (.cells #[.int .i64 L, .slice a N c] 24)
  have HX := Lib.hid (Blk.new w #[.int .i64 L, .slice a N c] 24)
  have HB0 := Lib.hid hb0
  have HP := Lib.hid (best_any L a N c l (w.alloc (.cells #[.int .i64 L, .slice a N c] 24)) hL1 hL2 hl hN (hA.bl hb0) hF)
  have HQ := Lib.hid (fun (W : World) (hW : Below w.heap.size w W) => rbest_any L a N c l W hl hN (hA.bl hW) hF)
  have HW := Lib.hid works_any
  have HLE := Lib.hid (bst_le L l)
  clear hl hA hF hb0
  obtain ⟨X, hX⟩ : ∃ x, x = w.heap.size := ⟨_, rfl⟩
  rw [← hX] at HX
  obtain ⟨w1, hw1⟩ : ∃ y, y = w.alloc (.cells #[.int .i64 L, .slice a N c] 24) := ⟨_, rfl⟩
  rw [← hw1] at HX HB0 HP
  go_enter Tryz.func6, Tryz.ntmps6
  go_upto_region 1 with fail
  rw [← hw1, ← hX]
  clear hw1 hX
  have x0 : w1.cell? ⟨X, 0, none⟩ = some (.int .i64 L) := HX.out.cell 0
  have x1 : w1.cell? ⟨X, 1, none⟩ = some (.slice a N c) := HX.out.cell 1
  by_cases h70 : 70 < N
  · have h70' : (70 : Int) < (N : Int) := by omega
    go_wp2_with fail
    refine (HW.out _).mono ?_
    rintro e w2 ⟨rfl, hb2⟩
    go_wp2_with fail
    go_ret
    exact ⟨rfl, bl_trans HB0.out hb2⟩
  · have h70' : ¬ ((70 : Int) < (N : Int)) := by omega
    go_wp2_with fail
    refine HP.out.mono ?_
    rintro e w2 h
    obtain ⟨A1, n1, c1, t1, rfl, ht1, hn1, hr1, hb1⟩ := bsPost_rd h
    have HR1 := Lib.hid hr1
    have HB1 := Lib.hid (bl_trans HB0.out hb1)
    have HT1 := Lib.hid ht1
    have HN1 := Lib.hid hn1
    have y0 : w2.cell? ⟨X, 0, none⟩ = some (.int .i64 L) := (HX.out.below hb1).cell 0
    have y1 : w2.cell? ⟨X, 1, none⟩ = some (.slice a N c) := (HX.out.below hb1).cell 1
    have HQ2 := Lib.hid (HQ.out w2 HB1.out)
    clear h ht1 hn1 hr1 hb1 x0 x1 HP HQ
    obtain ⟨z, hz⟩ : ∃ z, z = (if bstE L l = 0 then lenS L l (bstT L l) else 0) := ⟨_, rfl⟩
    obtain ⟨E, hE⟩ : ∃ E, E = bstE L l := ⟨_, rfl⟩
    rw [← hz, ← hE]
    have HZ := Lib.hid hz
    have HE := Lib.hid hE
    clear hz hE
    go_wp2_with fail
    refine HQ2.out.mono ?_
    rintro e w3 h
    obtain ⟨A2, n2, c2, t2, rfl, ht2, hn2, hr2, hb2⟩ := bsPost_rd h
    rw [← HT1.out] at ht2
    subst ht2
    rw [← HN1.out] at hn2
    subst hn2
    rw [← HZ.out, ← HE.out]
    have hle : t2.length ≤ 1000 := by rw [HT1.out]; exact HLE.out
    have HR1' := Lib.hid (HR1.out.bl hb2)
    have HR2 := Lib.hid hr2
    have HB2 := Lib.hid (bl_trans HB1.out hb2)
    clear h hr2 hb2 HQ2 HR1 y0 y1 HB1
    have hb4 := bl_alloc (bl_alloc (Below.refl _ w3) (.cells #[.slice A1 n2 c1] 25)) (.cells #[.slice A2 n2 c2] 25)
    have HS := Lib.hid (rsame_any (.slice (some ⟨w3.heap.size, 0, none⟩) 1 1) (.slice (some ⟨w3.heap.size + 1, 0, none⟩) 1 1) 1 (fun _ => t2) _ _ ((w3.alloc (.cells #[.slice A1 n2 c1] 25)).alloc (.cells #[.slice A2 n2 c2] 25)) (by omega)
      (rsW_one ((Blk.new w3 _ _).alloc _) (HR1'.out.bl hb4) HN1.out.symm) (rsW_one (Blk.new2 w3 _ _ _) (HR2.out.bl hb4) HN1.out.symm) (fun i _ => by omega))
    have HB4 := Lib.hid (bl_trans HB2.out hb4)
    have t5 : (z == z) = true := by simp
    have t6 : (E == E) = true := by simp
    clear hb4
    go_wp2_with fail
    refine HS.out.mono ?_
    rintro e w5 ⟨rfl, q, rfl⟩
    go_wp2_with fail
    refine (HW.out _).mono ?_
    rintro e w6 ⟨rfl, hb6⟩
    go_wp2_with fail
    go_ret
    exact ⟨rfl, bl_trans (bl_drewN HB4.out q) hb6⟩
end Go.Proofs.YtjmnakkkimgifaaGreatDoor
namespace Go.Proofs.YtjmnakkkimgifaaGreatDoor
open Go.ChangeShapes Go.WideShapes Go.RowKit Go.Deep
section
variable {H : Type} {enc : TypeId × Value → H} {P : Program}
/-- Arguments read as they did, in a world that keeps all that lay there. -/
theorem trodAll_stays (hl : laidOutB P = true) {W W' : World} {sp : Nat → Bool} (hb : Below W.heap.size W W') : ∀ {ts : List TypeId} {vs : List Value} {ds : List (DataW H)} {ps : List MemPlace}, (∀ t ∈ ts, P.readableRec t = true ∧ t < P.types.size) →
    DataW.TrodAll enc P W 0 (fun _ => true) true ts vs ds ps → (∀ p ∈ ps, p.block < W.heap.size) → (∀ p ∈ ps, sp p.block = true) → DataW.TrodAll enc P W' 0 sp true ts vs ds ps
  | [], vs, ds, ps, _, h, _, _ => by
    obtain ⟨rfl, rfl, rfl⟩ := trodAll_nil h
    exact trodAll_mk0
  | t :: ts, vs, ds, ps, ht, h, hlt, hsp => by
    obtain ⟨v, vs', d, ds', p, q, rfl, rfl, rfl, h1, h2⟩ := trodAll_cons h
    obtain ⟨hr, hrow⟩ := ht t (by simp)
    exact trodAll_cons_mk (WideElems.Trod_stays hl hr hrow h1 (fun x hx => hb.same (hlt x (List.mem_append_left _ hx))) (fun x hx => hsp x (List.mem_append_left _ hx)))
      (trodAll_stays hl hb (fun t' ht' => ht t' (by simp [ht'])) h2 (fun x hx => hlt x (List.mem_append_right _ hx)) (fun x hx => hsp x (List.mem_append_right _ hx)))
/-- What a statement's row asks of a call that returns true and keeps all that lay there. -/
theorem post_law {f : Func} {s : ChangeSpec} {W W' : World} {args : Array Value} {ds : List (DataW H)} {before : List MemPlace} {tb : TypeId} (hsv : s.vars = []) (hfn : s.fn H (ds ++ []) = { results := [.lit (.bool true)], args := ds })
    (hl : laidOutB P = true) (hpt : ∀ t ∈ f.params.toList, P.readableRec t = true ∧ t < P.types.size) (hrt : f.resultTypes = #[tb]) (htb : P.underlying tb = some .bool)
    (hW : DataW.Whole enc P f.params.toList s.vars false W args.toList ds [] before) (hb : Below W.heap.size W W') : s.post enc P f false true false false W args (.bool true) W' := by
  have hlt : ∀ p ∈ before, p.block < W.heap.size := fun p hp => hW.lt p hp
  have hW2 := hW
  obtain ⟨p, q, hA, hV, rfl, _, _⟩ := hW
  rw [hsv] at hV
  obtain ⟨_, rfl⟩ := trodVars_none hV
  rw [List.append_nil] at hlt
  refine ⟨ds, [], _, [], p, [], hW2, ?_, ?_, ?_, ?_, fun h => by cases h⟩
  · rw [hfn, hrt]
    exact trodAll_cons_mk (p := []) (p' := []) (shut_bool htb _) trodAll_mk0
  · rw [hfn]
    exact trodAll_stays hl hb hpt hA hlt (fun x hx => by simpa using hlt x hx)
  · rw [hsv, hfn]
    rfl
  · exact World.keptBut_mono (fun x hx => ⟨by simpa using hx, .inr (.inl (by simpa using hx))⟩) (hb.frame (· ∈ p))
end
end Go.Proofs.YtjmnakkkimgifaaGreatDoor
namespace Go.Proofs.YtjmnakkkimgifaaGreatDoor
open Go.ChangeShapes Go.WideShapes Go.ChangeAt Go.RowKit Go.Deep
theorem own : ownKnob Tryz.prog.godebug = none := by kernel_rfl
theorem laidOut : laidOutB Tryz.prog = true := by kernel_rfl
/-- The cells of a table. -/
def tabCells (d : DataW Unit) : Array Value :=
  match d with
  | .agg ps => (ps.map fun x => match x with
    | .lit (.int k n) => Value.int k n
    | _ => undef).toArray
  | _ => #[]
def laidOn (P : Program) : List (String × DataW Unit) → World → World
  | [], w => w
  | (n, d) :: r, w => laidOn P r { w with heap := w.heap.modify ((P.globalNamed n).getD 0) fun
      | .cells _ t frozen => .cells (tabCells d) t frozen
      | o => o }
/-- A world that holds the tables. -/
noncomputable def laidWorld (os : Os) : World := laidOn Tryz.prog Rows.parsLengthsRow.laid (World.holding Tryz.prog os ⟨#[], #[], []⟩)
theorem list_two {α : Type} : ∀ {l : List α}, l.length = 2 → ∃ a b, l = [a, b]
  | [a, b], _ => ⟨a, b, rfl⟩
def IntOk (x : Int) : Prop := -9223372036854775808 ≤ x ∧ x ≤ 9223372036854775807
end Go.Proofs.YtjmnakkkimgifaaGreatDoor
namespace Go.Proofs.YtjmnakkkimgifaaGreatDoor
open Go.ChangeShapes Go.WideShapes Go.RowKit Go.Deep
theorem weightsAll_mem {H : Type} {P : Program} {e : TypeId} {d : DataW H} : ∀ {l : List (DataW H)}, d ∈ l → ∀ n ∈ d.weights P e, n ∈ DataW.weightsAll P e l
  | x :: l, h, n, hn => by
    simp only [DataW.weightsAll, List.mem_append]
    rcases List.mem_cons.1 h with rfl | h
    · exact .inl hn
    · exact .inr (weightsAll_mem h n hn)
/-- Each argument's weights are bounded. -/
theorem sized_arg {H : Type} {P : Program} {ts : List TypeId} {ds : List (DataW H)} (h : (DataW.weightsEach P ts ds).all (· ≤ reachBytes) = true) {j : Nat} {t : TypeId} {d : DataW H} (ht : ts[j]? = some t) (hd : ds[j]? = some d) : ∀ y ∈ d.weights P t, y ≤ reachBytes :=
  fun y hy => of_decide_eq_true (List.all_eq_true.1 h _ (DataW.weights_mem_each ht hd y hy))
section
variable {H : Type} {enc : TypeId × Value → H} {P : Program}
/-- The cells of a slice that came in: read as a list; its elements' sizes bounded. -/
theorem rd_cellsS {α : Type} {encα : α → List Value} {k : Nat} (hk : ∀ x, (encα x).length = k) (hk0 : 0 < k) {good : α → Prop} {W : World} {t e : TypeId} (ht : P.underlying t = some (.slice e)) (hC : P.cellsOf e = k)
    (hel : ∀ (n : Nat) (cs : List Value) (x : DataW H × List MemPlace), DataW.trod enc P W 0 (fun _ => true) true n e cs = some x → (∀ y ∈ x.1.weights P e, y ≤ reachBytes) → ∃ a : α, cs = encα a ∧ good a) {fuel : Nat} {cs : List Value} {x : DataW H × List MemPlace}
    (hf : DataW.trod enc P W 0 (fun _ => true) true fuel t cs = some x) (hsz : ∀ y ∈ x.1.weights P t, y ≤ reachBytes) :
    ∃ (a : Option Addr) (n c : Nat) (l : List α), cs = [.slice a n c] ∧ l.length = n ∧ n ≤ 9223372036854775807 ∧ (n ≤ c ∧ c ≤ 9223372036854775807) ∧ n * P.bytesOf e ≤ reachBytes ∧ (a = none → n = 0 ∧ c = 0) ∧ Rd W a (fl encα l) ∧ ∀ i (hi : i < l.length), good l[i] := by
  rcases open_slice ht hf with ⟨rfl, _⟩ | ⟨a', len, cap, m, n, D, Pl, rfl, hb, hlc, hcm, hm, hx, hi⟩
  · exact ⟨none, 0, 0, [], rfl, rfl, by omega, ⟨by omega, by omega⟩, by simp, fun _ => ⟨rfl, rfl⟩, Rd.nil _ _, fun i hi => absurd hi (by simp)⟩
  · have hwt : ∀ i, i < len → ∀ y ∈ (D i).weights P e, y ≤ reachBytes := by
      intro i hil y hy
      refine hsz y ?_
      rw [hx]
      simp only [DataW.weights, ht, List.mem_cons, List.mem_append]
      exact .inr (.inl (weightsAll_mem (List.mem_map.2 ⟨i, List.mem_range.2 hil, rfl⟩) y hy))
    have hlen : len * P.bytesOf e ≤ reachBytes := by
      have h1 := hsz ((((List.range len).map D).length + ((List.range (m - len)).map fun j => D (len + j)).length) * P.bytesOf e) (by rw [hx]; simp only [DataW.weights, ht, List.mem_cons, true_or])
      refine Nat.le_trans (Nat.mul_le_mul_right _ ?_) h1
      simp
    simp only [if_true] at hm
    subst hm
    rw [hC] at hi
    have hex : ∀ i, i < len → ∃ x : α, good x ∧ ∀ j, j < k → W.cell? (a'.add (i * k + j)) = (encα x)[j]? := by
      intro i hil
      obtain ⟨cs', h1, h2⟩ := hi i (by omega)
      obtain ⟨x, rfl, hg⟩ := hel _ _ _ h2 (hwt i hil)
      obtain ⟨_, _, hat⟩ := World.cells?_some h1
      refine ⟨x, hg, fun j hj => ?_⟩
      rw [← Go.Deep.add_add]
      exact hat j hj
    have hls : ∀ n, n ≤ len → ∃ l : List α, l.length = n ∧ ∀ i (hi : i < l.length), good l[i] ∧ ∀ j, j < k → W.cell? (a'.add (i * k + j)) = (encα l[i])[j]? := by
      intro n
      induction n with
      | zero => intro _; exact ⟨[], rfl, fun i hi => absurd hi (by simp)⟩
      | succ n ih =>
        intro hn
        obtain ⟨l, hl, hg⟩ := ih (by omega)
        obtain ⟨x, hx1, hx2⟩ := hex n (by omega)
        refine ⟨l ++ [x], by simp [hl], fun i hi => ?_⟩
        by_cases e3 : i < l.length
        · rw [List.getElem_append_left e3]; exact hg i e3
        · obtain rfl : i = n := by simp at hi; omega
          rw [List.getElem_append_right (by omega)]
          simpa [hl] using ⟨hx1, hx2⟩
    obtain ⟨l, hl, hg⟩ := hls len (Nat.le_refl _)
    refine ⟨some a', len, _, l, rfl, hl, by unfold maxLen at hcm; omega, ⟨hlc, by unfold maxLen at hcm; omega⟩, hlen, (fun e => by cases e), ?_, fun i hi => (hg i hi).1⟩
    intro h0
    rw [fl_length hk, hl] at h0
    have hlen0 : 0 < len := by
      rcases Nat.eq_zero_or_pos len with e4 | e4
      · rw [e4] at h0; simp at h0
      · exact e4
    have hcell : ∀ i, i < len * k → W.cell? (a'.add i) = (fl encα l)[i]? := by
      intro i hi
      have hq : i / k < len := (Nat.div_lt_iff_lt_mul hk0).2 hi
      have hr : i % k < k := Nat.mod_lt _ hk0
      have e5 : i / k * k + i % k = i := by rw [Nat.mul_comm]; exact Nat.div_add_mod i k
      have h1 := (hg (i / k) (by rw [hl]; exact hq)).2 (i % k) hr
      have h2 := fl_getElem? hk l (i / k) (i % k) hr
      have hq2 : i / k < l.length := by rw [hl]; exact hq
      rw [List.getElem?_eq_getElem hq2] at h2
      simp only [Option.bind_some] at h2
      rw [e5] at h1 h2
      rw [h1, h2]
    obtain ⟨bb, off, sub⟩ := a'
    have hs0 := hcell 0 h0
    have hne : (fl encα l)[0]? = some ((fl encα l)[0]'(by rw [fl_length hk, hl]; exact h0)) := List.getElem?_eq_getElem _
    rw [hne] at hs0
    have hsub : sub = none := by
      cases sub with
      | none => rfl
      | some z =>
        simp only [Addr.add, if_true, World.cell?, Option.isSome_some] at hs0
        split at hs0 <;> cases hs0
    subst hsub
    refine ⟨bb, off, rfl, World.block_lt_of_cell? W _ hs0, fun i hi => ?_⟩
    rw [fl_length hk, hl] at hi
    have h1 := hcell i hi
    rw [List.getElem?_eq_getElem (by rw [fl_length hk, hl]; exact hi)] at h1
    rw [List.getD_eq_getElem?_getD, List.getElem?_eq_getElem (by rw [fl_length hk, hl]; exact hi)]
    refine Eq.trans ?_ h1
    by_cases hi0 : i = 0
    · subst hi0; rfl
    · simp only [Addr.add, if_neg hi0]
/-- A slice that came in: read as a list; its elements' sizes bounded. -/
theorem rd_openS {α : Type} {encα : α → List Value} {k : Nat} (hk : ∀ x, (encα x).length = k) (hk0 : 0 < k) {good : α → Prop} {W : World} {t e : TypeId} (ht : P.underlying t = some (.slice e)) (hC : P.cellsOf e = k)
    (hel : ∀ (n : Nat) (cs : List Value) (x : DataW H × List MemPlace), DataW.trod enc P W 0 (fun _ => true) true n e cs = some x → (∀ y ∈ x.1.weights P e, y ≤ reachBytes) → ∃ a : α, cs = encα a ∧ good a) {r : Reach} {b0 : Nat} {v : Value} {d : DataW H} {ps : List MemPlace}
    (hv : Value.okWide P W r b0 t v) (h : DataW.Trod enc P W 0 (fun _ => true) true t v d ps) (hsz : ∀ y ∈ d.weights P t, y ≤ reachBytes) :
    ∃ (a : Option Addr) (n c : Nat) (l : List α), v = .slice a n c ∧ l.length = n ∧ n ≤ 9223372036854775807 ∧ (n ≤ c ∧ c ≤ 9223372036854775807) ∧ n * P.bytesOf e ≤ reachBytes ∧ (a = none → n = 0 ∧ c = 0) ∧ Rd W a (fl encα l) ∧ ∀ i (hi : i < l.length), good l[i] := by
  obtain ⟨a, len, cap, rfl⟩ := okWide_slice ht hv
  obtain ⟨fuel, hf⟩ := h
  obtain ⟨a', n, c, l, hcs, h1⟩ := rd_cellsS hk hk0 ht hC hel hf hsz
  have e2 : (Value.slice a len cap) = .slice a' n c := by simpa [Value.cells] using hcs
  exact ⟨a', n, c, l, e2, h1⟩
end
theorem cellsInt : Tryz.prog.cellsOf 3 = 1 := by kernel_rfl
theorem cellsStr : Tryz.prog.cellsOf 9 = 1 := by kernel_rfl
theorem cellsU64 : Tryz.prog.cellsOf 39 = 1 := by kernel_rfl
theorem cellsNd : Tryz.prog.cellsOf 46 = 2 := by kernel_rfl
theorem cellsVs : Tryz.prog.cellsOf 22 = 1 := by kernel_rfl
theorem cellsTab : Tryz.prog.cellsOf 24 = 2 := by kernel_rfl
theorem bytesU64 : Tryz.prog.bytesOf 39 = 8 := by kernel_rfl
theorem bytesNd : Tryz.prog.bytesOf 46 = 24 := by kernel_rfl
def VOk (x : Nat) : Prop := x < 18446744073709551616
def NdOk (x : Nd) : Prop := IntOk x.1 ∧ x.2.size ≤ 140737488355328
theorem rd_u64s {H : Type} {enc : TypeId × Value → H} {W : World} (n : Nat) (cs : List Value) (x : DataW H × List MemPlace) (h : DataW.trod enc Tryz.prog W 0 (fun _ => true) true n 39 cs = some x) (_ : ∀ y ∈ x.1.weights Tryz.prog 39, y ≤ reachBytes) : ∃ a : Nat, cs = encV a ∧ VOk a := by
  obtain ⟨z, rfl, _, hw⟩ := DataW.trod_int Tryz.underlying39 h
  have hb := bounds_u64 hw
  refine ⟨z.toNat, ?_, by unfold VOk; omega⟩
  show _ = [Value.int .u64 ((z.toNat : Nat) : Int)]
  rw [Int.toNat_of_nonneg hb.1]
theorem rd_nds {H : Type} {enc : TypeId × Value → H} {W : World} (n : Nat) (cs : List Value) (x : DataW H × List MemPlace) (h : DataW.trod enc Tryz.prog W 0 (fun _ => true) true n 46 cs = some x) (hsz : ∀ y ∈ x.1.weights Tryz.prog 46, y ≤ reachBytes) : ∃ a : Nd, cs = encNd a ∧ NdOk a := by
  obtain ⟨y0, y1, m, rfl, hlen, h0, h1⟩ := trod_struct2 Tryz.underlying46 h
  rw [cellsNd] at hlen
  obtain ⟨c0, c1, rfl⟩ := list_two hlen
  simp only [cellsInt, cellsStr] at h0 h1
  obtain ⟨z0, e0, e00, w0⟩ := DataW.trod_int Tryz.underlying3 h0
  obtain ⟨z1, e1, e11, w1⟩ := DataW.trod_string Tryz.underlying9 h1
  refine ⟨(z0, z1), ?_, bounds_i64 w0, ?_⟩
  · simp at e0 e1
    rw [e0, e1]
    rfl
  · have h2 : z1.data.toList.length ≤ reachBytes := hsz z1.data.toList.length (by
      rw [e00, e11]
      simp only [DataW.weights, Tryz.underlying46]
      show _ ∈ DataW.weightsEach Tryz.prog [_, _] [_, _]
      simp only [DataW.weightsEach, DataW.weights]
      simp)
    have h3 : z1.data.toList.length = z1.size := Array.length_toList
    rw [h3] at h2
    unfold reachBytes at h2
    have h4 : z1.size ≤ 140737488351232 := h2
    show z1.size ≤ _
    omega
set_option maxRecDepth 100000 in
/-- A tree that came in. -/
theorem open_nds {H : Type} {enc : TypeId × Value → H} {W : World} {r : Reach} {b0 : Nat} {v : Value} {d : DataW H} {ps : List MemPlace} (hv : Value.okWide Tryz.prog W r b0 25 v) (h : DataW.Trod enc Tryz.prog W 0 (fun _ => true) true 25 v d ps) (hsz : ∀ y ∈ d.weights Tryz.prog 25, y ≤ reachBytes) :
    ∃ (a : Option Addr) (n c : Nat) (l : List Nd), v = .slice a n c ∧ l.length = n ∧ n ≤ 1152921504606846976 ∧ n ≤ c ∧ c ≤ 9223372036854775807 ∧ Rd W a (fl encNd l) ∧ (∀ i, i < n → (nS l i).size ≤ 9223372036854775807) ∧ ∀ i, i < n → IntOk (nP l i) := by
  obtain ⟨a, n, c, l, h1, h2, h3, ⟨h4a, h4b⟩, h4, h5, h6, h7⟩ := rd_openS encNd_len (by omega) (good := NdOk) Tryz.underlying25 cellsNd rd_nds hv h hsz
  rw [bytesNd] at h4
  have hg : ∀ i, i < n → NdOk (nP l i, nS l i) := fun i hi => by
    have h8 := h7 i (by omega)
    have e : (nP l i, nS l i) = l[i]'(by omega) := by simp [nP, nS, h2 ▸ hi]
    rw [e]; exact h8
  refine ⟨a, n, c, l, h1, h2, by unfold reachBytes at h4; omega, h4a, h4b, h6, fun i hi => ?_, fun i hi => (hg i hi).1⟩
  have h9 : (nS l i).size ≤ 140737488355328 := (hg i hi).2
  omega
set_option maxRecDepth 100000 in
/-- A table that came in. -/
theorem open_tab {H : Type} {enc : TypeId × Value → H} {W : World} {r : Reach} {b0 : Nat} {v : Value} {d : DataW H} {ps : List MemPlace} (hv : Value.okWide Tryz.prog W r b0 24 v) (h : DataW.Trod enc Tryz.prog W 0 (fun _ => true) true 24 v d ps) (hsz : ∀ y ∈ d.weights Tryz.prog 24, y ≤ reachBytes) :
    ∃ (L : Int) (a : Option Addr) (n c : Nat) (l : List Nat), v = .agg #[.int .i64 L, .slice a n c] ∧ IntOk L ∧ l.length = n ∧ n ≤ 1152921504606846976 ∧ n ≤ c ∧ c ≤ 9223372036854775807 ∧ Rd W a (fl encV l) ∧ FitV l := by
  obtain ⟨cs, rfl, hcs⟩ := okWide_struct Tryz.underlying24 hv
  obtain ⟨fuel, hf⟩ := h
  obtain ⟨y0, y1, m, hdp, hlen, h0, h1⟩ := trod_struct2 Tryz.underlying24 hf
  obtain ⟨rfl, rfl⟩ := Prod.mk.inj hdp
  have hlen2 : cs.toList.length = 2 := by rw [Array.length_toList, hcs, cellsTab]
  obtain ⟨c0, c1, hc⟩ := list_two hlen2
  have hc2 : cs = #[c0, c1] := by rw [← Array.toList_inj]; exact hc
  subst hc2
  simp only [cellsInt, cellsVs, Value.cells] at h0 h1
  obtain ⟨z0, e0, e00, w0⟩ := DataW.trod_int Tryz.underlying3 h0
  have hsz1 : ∀ y ∈ y1.1.weights Tryz.prog 22, y ≤ reachBytes := fun y hy => hsz y (by
    simp only [DataW.weights, Tryz.underlying24]
    show _ ∈ DataW.weightsEach Tryz.prog [_, _] [_, _]
    simp only [DataW.weightsEach, List.mem_append]
    exact .inr (.inl hy))
  obtain ⟨a, n, c, l, g1, g2, g3, ⟨g4a, g4b⟩, g4, g5, g6, g7⟩ := rd_cellsS encV_len (by omega) (good := VOk) Tryz.underlying22 cellsU64 rd_u64s h1 hsz1
  rw [bytesU64] at g4
  refine ⟨z0, a, n, c, l, ?_, bounds_i64 w0, g2, by unfold reachBytes at g4; omega, g4a, g4b, g6, fun i hi => ?_⟩
  · simp at e0 g1
    rw [e0, g1]
  · rw [vA_get hi]; exact g7 i hi
end Go.Proofs.YtjmnakkkimgifaaGreatDoor
