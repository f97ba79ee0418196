/- phylo.Largest's recursive closure. phylo.Largest at every table. tree: the children of all nodes, the leaves; rows in blocks of their own. tree.Leaves; phylo.check. The sets of a tree's nodes: plain. phylo.nodes: the iterator over the nodes and their sets. -/
import Derived.Test.YtnabbmdhhddfbaaDoorU3
import Derived.Laws.EntriesVeiled
import Derived.Test.YtnabbmdhhddfbaaDoorU1
import Derived.Test.YtnabbmdhhddfbaaDoorU2
namespace Go.Proofs.YtnabbmdhhddfbaaDoor
open Go Go.RowKit Go.Shelf
def ptP (X : Nat) : Value := .pointer (some ⟨X, 0, none⟩)
/-- Largest's memory: the best list so far, the table, the closure. -/
structure LgS (w : World) (base XB XT XE M : Nat) (a : Option Addr) (N c : Nat) (has best : List Nat) (vb : Value) : Prop where
  bb : Blk w XB #[vb] 38
  bt : Blk w XT #[.int .i64 M, .slice a N c] 24
  be : Blk w XE #[.func (.func 45) #[] #[.pointer (some ⟨XB, 0, none⟩), .pointer (some ⟨XT, 0, none⟩), .pointer (some ⟨XE, 0, none⟩)]] 74
  rb : w.ownsRow base 3 1 vb best.length (fl encI (iN best))
  rd : Rd w a (fl encV has)
  na : 0 < has.length → ∀ b o, a = some ⟨b, o, none⟩ → b < base
  n1 : vb.ownBlock ≠ some XB
  n2 : vb.ownBlock ≠ some XT
  n3 : vb.ownBlock ≠ some XE
  x1 : base ≤ XB
  x2 : base ≤ XT
  x3 : base ≤ XE
  y1 : XT ≠ XB
  y2 : XE ≠ XB
/-- What a call leaves alone. -/
structure KpL (w w' : World) (base XB : Nat) (vl : Value) : Prop where
  blk : ∀ B, B < w.heap.size → B ≠ XB → some B ≠ vl.ownBlock → w'.heap[B]? = w.heap[B]?
  size : w.heap.size ≤ w'.heap.size
  bel : ∀ a : World, Below a.heap.size a w → a.heap.size ≤ base → Below a.heap.size a w'
theorem KpL.refl (w : World) (base XB : Nat) (vl : Value) : KpL w w base XB vl := ⟨fun _ _ _ _ => rfl, Nat.le_refl _, fun _ h _ => h⟩
theorem KpL.of_bl {w w' : World} (h : Below w.heap.size w w') (base XB : Nat) (vl : Value) : KpL w w' base XB vl := ⟨fun B hB _ _ => h.block B hB, h.size, fun a ha _ => bl_trans ha h⟩
theorem KpL.trans {w w1 w2 : World} {base XB : Nat} {vl vl' : Value} (h : KpL w w1 base XB vl) (k : KpL w1 w2 base XB vl') (hv : vl'.ownBlock = vl.ownBlock ∨ ∃ g, vl'.ownBlock = some g ∧ w.heap.size ≤ g) : KpL w w2 base XB vl :=
  ⟨fun B h1 h2 h3 => (k.blk B (Nat.lt_of_lt_of_le h1 h.size) h2 (by
    rcases hv with hv | ⟨g, hv, hg⟩
    · rw [hv]; exact h3
    · rw [hv]; intro e; have := Option.some.inj e; omega)).trans (h.blk B h1 h2 h3), Nat.le_trans h.size k.size, fun a h1 h2 => k.bel a (h.bel a h1 h2) h2⟩
theorem LgS.step {w w' : World} {base XB XT XE M : Nat} {a : Option Addr} {N c : Nat} {has best best' : List Nat} {vb vb' vl : Value} (h : LgS w base XB XT XE M a N c has best vb) (k : KpL w w' base XB vl)
    (hl : ∀ g, vl.ownBlock = some g → base ≤ g) (h2 : vl.ownBlock ≠ some XT) (h3 : vl.ownBlock ≠ some XE) (hb : Blk w' XB #[vb'] 38) (hr : w'.ownsRow base 3 1 vb' best'.length (fl encI (iN best')))
    (n1 : vb'.ownBlock ≠ some XB) (n2 : vb'.ownBlock ≠ some XT) (n3 : vb'.ownBlock ≠ some XE) : LgS w' base XB XT XE M a N c has best' vb' :=
  ⟨hb, (k.blk XT h.bt.lt h.y1 (Ne.symm h2)).trans h.bt, (k.blk XE h.be.lt h.y2 (Ne.symm h3)).trans h.be, hr,
    fun h0 => rd_block h.rd k.size (fun b o e hlt => by
      have h1 : 0 < has.length := by rw [fl_length encV_len] at h0; omega
      exact k.blk b hlt (by have := h.na h1 b o e; have := h.x1; omega) (fun e2 => by have := hl b e2.symm; have := h.na h1 b o e; omega)) h0, h.na, n1, n2, n3, h.x1, h.x2, h.x3, h.y1, h.y2⟩
theorem LgS.bl {w w' : World} {base XB XT XE M : Nat} {a : Option Addr} {N c : Nat} {has best : List Nat} {vb : Value} (h : LgS w base XB XT XE M a N c has best vb) (k : Below w.heap.size w w') : LgS w' base XB XT XE M a N c has best vb :=
  ⟨h.bb.below k, h.bt.below k, h.be.below k, owns_below h.rb k, h.rd.bl k, h.na, h.n1, h.n2, h.n3, h.x1, h.x2, h.x3, h.y1, h.y2⟩
/-- The first number that may go on from L. -/
def frm (L : List Nat) : Nat := if L.length = 0 then 0 else vA L (L.length - 1) + 1
theorem frm_snoc (L : List Nat) (i : Nat) : frm (L ++ [i]) = i + 1 := by
  unfold frm
  rw [if_neg (by simp)]
  simp [vA]
/-- What stands on the way through a call. -/
def ExS (w wx : World) (base XB XT XE M : Nat) (a : Option Addr) (N c : Nat) (has : List Nat) (L : List Nat) (n : Nat) (vl vb : Value) (best' : List Nat) : Prop :=
  ∃ vb1, LgS wx base XB XT XE M a N c has best' vb1 ∧ (vb1 = vb ∨ ∃ g, vb1.ownBlock = some g ∧ w.heap.size ≤ g) ∧ wx.ownsRow base 3 1 vl n (fl encI (iN L)) ∧ KpL w wx base XB vl
theorem ExS.bl {w wx wy : World} {base XB XT XE M : Nat} {a : Option Addr} {N c : Nat} {has L best' : List Nat} {n : Nat} {vl vb : Value} (h : ExS w wx base XB XT XE M a N c has L n vl vb best') (k : Below wx.heap.size wx wy) : ExS w wy base XB XT XE M a N c has L n vl vb best' :=
  let ⟨vb1, h1, h2, h3, h4⟩ := h
  ⟨vb1, h1.bl k, h2, owns_below h3 k, h4.trans (KpL.of_bl k base XB vl) (.inl rfl)⟩
/-- A row in place, behind a call that kept a longer one. -/
theorem own_shrink {w6 w7 : World} {base e g n cap c6 : Nat} {xs ys : List Value} (h : w6.ownsRow base e 1 (.slice (some ⟨g, 0, none⟩) n cap) n xs) (h6 : w6.ownsRow base e 1 (.slice (some ⟨g, 0, none⟩) (n + 1) c6) (n + 1) (xs ++ ys))
    (h7 : w7.ownsRow base e 1 (.slice (some ⟨g, 0, none⟩) (n + 1) c6) (n + 1) (xs ++ ys)) : w7.ownsRow base e 1 (.slice (some ⟨g, 0, none⟩) n cap) n xs := by
  rcases h.2 with ⟨hv, _⟩ | ⟨g1, cap1, cur1, hv1, hb1, hg1, hn1, hm1, hs1, ht1⟩
  · cases hv
  · rcases h6.2 with ⟨hv, _⟩ | ⟨g2, cap2, cur2, hv2, hb2, hg2, hn2, hm2, hs2, ht2⟩
    · cases hv
    · rcases h7.2 with ⟨hv, _⟩ | ⟨g3, cap3, cur3, hv3, hb3, hg3, hn3, hm3, hs3, ht3⟩
      · cases hv
      · cases hv1
        cases hv2
        cases hv3
        rw [hg1] at hg2
        have e1 : cur1 = cur2 := by
          have := Option.some.inj hg2
          injection this
        have e2 : cap = c6 := by rw [← e1, hs1] at hs2; omega
        refine ⟨h.1, .inr ⟨g, cap, cur3, rfl, hb1, hg3, hn1, hm1, by rw [hs3, e2], ?_⟩⟩
        have := congrArg (List.take (n * 1)) ht3
        rw [List.take_take, Nat.min_eq_left (by omega)] at this
        rw [this, ← h.1, List.take_left]
/-- The number behind a pointer. -/
def ptrI (w : World) : Value → Nat
  | .pointer (some a) => match w.cell? a with
    | some v => (intOf v).toNat
    | none => 0
  | _ => 0
theorem ptrI_eq {w : World} {I i : Nat} (h : w.cell? ⟨I, 0, none⟩ = some (.int .i64 i)) : ptrI w (.pointer (some ⟨I, 0, none⟩)) = i := by
  unfold ptrI
  simp only [h]
  simp [intOf]
set_option maxRecDepth 100000 in
set_option maxHeartbeats 4000000 in
theorem ext_any (base XB XT XE M : Nat) (a : Option Addr) (N c : Nat) (has : List Nat) (hN : has.length = N) (hN12 : N ≤ 12) (hF : FitV has) : ∀ (r : Nat) (L : List Nat) (vl : Value) (best : List Nat) (vb : Value) (w : World),
    LgS w base XB XT XE M a N c has best vb → w.ownsRow base 3 1 vl L.length (fl encI (iN L)) → vl.ownBlock ≠ some XB → vl.ownBlock ≠ some XT → vl.ownBlock ≠ some XE → (vb.ownBlock = none ∨ vb.ownBlock ≠ vl.ownBlock) →
    (∀ x, x ∈ L → x < N) → frm L + r = N → L.length + r ≤ N → base ≤ w.heap.size →
    Calls Tryd.prog 45 #[vl, .pointer (some ⟨XB, 0, none⟩), .pointer (some ⟨XT, 0, none⟩), .pointer (some ⟨XE, 0, none⟩)] w fun e w' => e = .returned (.tuple #[]) ∧ ExS w w' base XB XT XE M a N c has L L.length vl vb (goB has r L (updL best L)) := by
  intro r
  induction r using Nat.strongRecOn with
  | _ r ih =>
  intro L vl best vb w hS hown v1 v2 v3 hdis hLN hfr hLr hbw
  have IH := Lib.hid ih
  have HS := Lib.hid hS
  have HOW := Lib.hid hown
  have HV1 := Lib.hid v1
  have HV2 := Lib.hid v2
  have HV3 := Lib.hid v3
  have HD := Lib.hid hdis
  have HLN := Lib.hid hLN
  have HFR := Lib.hid hfr
  have HF := Lib.hid hF
  have HN := Lib.hid hN
  obtain ⟨A, cap, rfl, hA⟩ := owns_slice hown
  obtain ⟨Ab, cb, rfl, hAb⟩ := owns_slice hS.rb
  have c1 : w.cell? ⟨XB, 0, none⟩ = some (.slice Ab best.length cb) := hS.bb.cell 0
  have hLl : L.length ≤ 12 := by omega
  have hbl : best.length ≤ 9223372036854775807 := by
    rcases hS.rb.2 with ⟨_, e⟩ | ⟨g, cp, cur, e1, _, _, e2, e3, _⟩
    · omega
    · unfold maxLen at e3; omega
  have HRB := Lib.hid (rd_of_owns hown)
  clear ih hS hown v1 v2 v3 hdis hLN hfr hF hN
  obtain ⟨n, hn⟩ : ∃ n, n = L.length := ⟨_, rfl⟩
  obtain ⟨nb, hnb⟩ : ∃ n, n = best.length := ⟨_, rfl⟩
  obtain ⟨FIN, hFIN⟩ : ∃ x, x = goB has r L (updL best L) := ⟨_, rfl⟩
  have HNL := Lib.hid hn
  have HNB := Lib.hid hnb
  have HFIN := Lib.hid hFIN
  rw [← hn] at hA hLl hLr HOW HV1 HV2 HV3 HD ⊢
  rw [← hnb] at c1 hAb hbl HS HD ⊢
  rw [← hFIN]
  clear hFIN hn hnb
  go_enter Tryd.func45, Tryd.ntmps45
  go_upto_if 11 with fail
  go_cut [13] (fun _ wx => ExS w wx base XB XT XE M a N c has L n (.slice A n cap) (.slice Ab nb cb) (updL best L))
  case first =>
    by_cases hlt : nb < n
    · have d1 : decide (nb < n) = true := by simpa using hlt
      obtain ⟨g, hg1, hg2, rfl⟩ := hA.resolve_left (by omega)
      have hc : Hid (Calls Tryd.prog 46 #[.slice (some ⟨g, 0, none⟩) n cap] w fun e w' => ∃ v', e = .returned v' ∧ w'.ownsRow w.heap.size 3 1 v' n (fl encI (iN L)) ∧ v' ≠ .slice none 0 0 ∧ Below w.heap.size w w') := by
        have hz : (iN L).length = n := by rw [iN_len, ← HNL.out]
        refine (Tryd.slices_Clone_int g 0 n cap (iN L) w (by omega) (by omega) ?_).mono ?_
        · intro j hj
          obtain ⟨b, o, e, _, hc⟩ := rdI HRB.out (by omega)
          have e2 := Option.some.inj e
          have e3 := (Addr.mk.inj e2).1
          have e4 := (Addr.mk.inj e2).2.1
          have := hc j hj
          rw [← e3, ← e4] at this
          exact this
        · rintro e w' ⟨v', h1, h2, h3, h4⟩
          refine ⟨v', h1, ?_, h3, h4⟩
          have e : (iN L).take n = iN L := List.take_of_length_le (by omega)
          rw [e] at h2
          have e2 : (iN L).map (Value.int .i64) = fl encI (iN L) := by
            generalize iN L = zs
            induction zs with
            | nil => rfl
            | cons z zs ih => simp only [List.map_cons, ih]; rfl
          rw [← e2]; exact h2
      clear hAb
      go_wp2_with fail
      refine hc.out.mono ?_
      rintro e w1 ⟨v', rfl, ho, hnn, hb⟩
      have hb1 := HS.out.bb.below hb
      have f1 : w1.cell? ⟨XB, 0, none⟩ = some (.slice Ab nb cb) := hb1.cell 0
      have fr1 : w1.frozen? ⟨XB, 0, none⟩ = false := hb1.free 0
      obtain ⟨g', cap', rfl, hg3, hg4⟩ := ho.form (by omega)
      have HO := Lib.hid ho
      have HB := Lib.hid hb
      have HB1 := Lib.hid hb1
      clear ho hb hb1 hnn c1
      go_wp2_with fail
      go_meet
      have hu : updL best L = L := by unfold updL; rw [if_pos (by rw [← HNB.out, ← HNL.out]; exact hlt)]
      rw [hu]
      have hxb := HS.out.bb.lt
      have hxt := HS.out.bt.lt
      have hxe := HS.out.be.lt
      have ho2 : (w1.setCell ⟨XB, 0, none⟩ (.slice (some ⟨g', 0, none⟩) n cap')).ownsRow base 3 1 (.slice (some ⟨g', 0, none⟩) n cap') L.length (fl encI (iN L)) := by
        rw [← HNL.out]
        exact ownsRow_setCell_other (a := ⟨XB, 0, none⟩) (owns_mono HO.out hbw) (own_ne (X := XB) (by omega)) _
      have hk : KpL w (w1.setCell ⟨XB, 0, none⟩ (.slice (some ⟨g', 0, none⟩) n cap')) base XB (.slice (some ⟨g, 0, none⟩) n cap) :=
        ⟨fun B h1 h2 _ => (Below.heap_setCell _ _ _ B h2).trans (HB.out.block B h1), by simp [World.setCell]; exact HB.out.size, fun a h1 h2 => bl_set (bl_trans h1 HB.out) _ _ _ _ (by have := HS.out.x1; omega)⟩
      refine ⟨_, HS.out.step hk (fun q hq => by have := Option.some.inj (show some g = some q from hq); omega) HV2.out HV3.out (HB1.out.set 0 _) ho2 (own_ne (by omega)) (own_ne (by omega)) (own_ne (by omega)), .inr ⟨g', rfl, hg3⟩, ?_, hk⟩
      have h9 := owns_below HOW.out HB.out
      exact ownsRow_setCell_other (a := ⟨XB, 0, none⟩) h9 HV1.out _
    · have d1 : decide (nb < n) = false := by simpa using hlt
      go_wp2_with fail
      go_meet
      have hu : updL best L = best := by unfold updL; rw [if_neg (by rw [← HNB.out, ← HNL.out]; exact hlt)]
      rw [hu]
      exact ⟨_, HS.out, .inl rfl, HOW.out, KpL.refl _ _ _ _⟩
  case rest =>
    have HVW := Lib.hid HOW.out.lt
    have hXBw := HS.out.bb.lt
    clear HS HOW hAb c1
    obtain ⟨vb1, hS1, hv1, how1, hk1⟩ := hcut
    go_upto_if 16 with fail
    go_cut [5] (fun s wx => s = .int .i64 (frm L) ∧ wx = wc)
    case first =>
      by_cases h0 : n = 0
      · have hf : Hid (frm L = 0) := by show _ = _; unfold frm; rw [if_pos (by rw [← HNL.out]; exact h0)]
        have d1 : decide (0 < n) = false := by simp; omega
        subst h0
        go_wp2_with fail
        go_meet
        exact ⟨by rw [hf.out]; rfl, rfl⟩
      · have hf : Hid (frm L = vA L (n - 1) + 1) := by show _ = _; unfold frm; rw [if_neg (by rw [← HNL.out]; exact h0), ← HNL.out]
        have d1 : decide (0 < n) = true := by simp; omega
        have hn0 : 0 < n := by omega
        have HR1 := rd_of_owns how1
        obtain ⟨b, o, rfl, hb, hc⟩ := rdI HR1 (by rw [iN_len, ← HNL.out]; exact hn0)
        have G := hc (n - 1) (by rw [iN_len, ← HNL.out]; omega)
        rw [iN_get] at G
        have hx : vA L (n - 1) < N := HLN.out _ (by rw [vA_get (by rw [← HNL.out]; omega)]; exact List.getElem_mem _)
        clear hc HR1
        generalize vA L (n - 1) = z at *
        have e : ((n : Int) - 1) = ((n - 1 : Nat) : Int) := by omega
        have e2 : ((n : Int) - 1).toNat = n - 1 := by omega
        have e3 : 0 ≤ (n : Int) - 1 := by omega
        have e4 : (n : Int) - 1 < n := by omega
        clear e
        go_wp2_with fail
        go_meet
        exact ⟨by rw [hf.out]; go_num, rfl⟩
    case rest =>
      obtain ⟨rfl, rfl⟩ := hcut
      have hEX : ExS w wc base XB XT XE M a N c has L n (.slice A n cap) (.slice Ab nb cb) (updL best L) := ⟨vb1, hS1, hv1, how1, hk1⟩
      have HEX := Lib.hid hEX
      clear hEX hS1 hv1 how1 hk1
      obtain ⟨f, hf⟩ : ∃ f, f = frm L := ⟨_, rfl⟩
      rw [← hf] at HFR ⊢
      have HFL := Lib.hid hf
      have hfN : f ≤ N := by have := HFR.out; omega
      have hwc : w.heap.size ≤ wc.heap.size := by obtain ⟨_, _, _, _, h⟩ := HEX.out; exact h.size
      clear hf
      go_wp2_with fail
      have HX0 := Lib.hid (HEX.out.bl (bl_alloc (Below.refl _ wc) (.cells #[.int .i64 f] 3)))
      have HB0 := Lib.hid (Blk.new wc #[.int .i64 f] 3)
      go_loopw [6] (fun x wr => ∃ i I : Nat, f ≤ i ∧ i ≤ N ∧ x = .pointer (some ⟨I, 0, none⟩) ∧ Hid (Blk wr I #[.int .i64 i] 3) ∧ w.heap.size ≤ I ∧ ∃ best', Hid (ExS w wr base XB XT XE M a N c has L n (.slice A n cap) (.slice Ab nb cb) best') ∧ Hid (goB has (N - i) L best' = FIN)) (fun x wr => N - ptrI wr x)
      case atStart => exact ⟨f, wc.heap.size, Nat.le_refl _, hfN, rfl, HB0, hwc, _, HX0, by show _ = _; rw [HFIN.out]; congr 1; have := HFR.out; omega⟩
      case round =>
        clear HX0 HB0 HEX
        obtain ⟨i, I, hfi, hiN, rfl, hI, hwI, best', hX, hG⟩ := hrel
        have hmI : ptrI wr (.pointer (some ⟨I, 0, none⟩)) = i := ptrI_eq (hI.out.cell 0)
        have HMI := Lib.hid hmI
        clear hmI
        obtain ⟨vb2, hS2, hv2, how2, hk2⟩ := hX.out
        have c0 : wr.cell? ⟨I, 0, none⟩ = some (.int .i64 i) := hI.out.cell 0
        have c1 : wr.cell? ⟨XT, 1, none⟩ = some (.slice a N c) := hS2.bt.cell 1
        by_cases hlt : i < N
        · have hLl2 : (iN L).length = n := by rw [iN_len]; exact HNL.out.symm
          have HCF := Lib.hid (containsI_any 48 (enters_of Tryd.func48 (by kernel_rfl) rfl) #[.pointer (some ⟨XT, 0, none⟩), .pointer (some ⟨I, 0, none⟩)] (fun z => !fitB (vA has z.toNat) (vA has i)) A n cap (iN L) wr hLl2 (by omega) (rd_of_owns how2) (fun j hj W hW => by
            have hk : vA L j < N := HLN.out _ (by rw [vA_get (by rw [← HNL.out]; exact hj)]; exact List.getElem_mem _)
            have h := lg2_any (vA L j) i XT I M a N c has W HN.out (by omega) hk hlt HF.out (hS2.rd.bl hW) (hS2.bt.below hW) (hI.out.below hW)
            rw [iN_get, Int.toNat_natCast]
            exact h.mono fun e w' hh => ⟨hh.1, bl_of_drewN W hh.2⟩))
          have hok : (iN L).any (fun z => !fitB (vA has z.toNat) (vA has i)) = !okL has L i := by
            unfold iN okL
            rw [List.any_map, Bool.eq_iff_iff]
            simp
          rw [hok] at HCF
          have hgo : N - i = (N - (i + 1)) + 1 := by omega
          have HGO : Hid (goB has (N - (i + 1)) L (if okL has L i then goB has (N - (i + 1)) (L ++ [i]) (updL best' (L ++ [i])) else best') = FIN) := by
            have h := hG.out
            rw [hgo, goB, HN.out, show N - (N - (i + 1) + 1) = i by omega] at h
            exact h
          have HS2 := Lib.hid hS2
          have HOW2 := Lib.hid how2
          have HK2 := Lib.hid hk2
          have hXB := hS2.bb.lt
          have hXE := hS2.be.lt
          have hI2 := hI.out.lt
          clear hLl2 hok hgo hG hS2 how2 hk2
          obtain ⟨bo, hbo⟩ : ∃ b, okL has L i = b := ⟨_, rfl⟩
          rw [hbo] at HCF HGO
          clear hbo
          cases bo with
          | false =>
            go_wp2_with fail
            refine HCF.out.mono ?_
            rintro e w3 ⟨rfl, hb3⟩
            have d0 : w3.cell? ⟨I, 0, none⟩ = some (.int .i64 i) := (hI.out.below hb3).cell 0
            have HB3 := Lib.hid hb3
            clear hb3 c0 c1
            go_wp2_with fail
            have hs3 := HB3.out.size
            have HE := Lib.hid ((hX.out.bl HB3.out).bl (bl_alloc (Below.refl _ w3) (.cells #[.int .i64 ((i : Int) + 1)] 3)))
            have HBN : Hid (Blk (w3.alloc (.cells #[.int .i64 ((i : Int) + 1)] 3)) w3.heap.size #[.int .i64 ((i + 1 : Nat) : Int)] 3) := Blk.new w3 #[.int .i64 ((i : Int) + 1)] 3
            go_roundw
            case rel => exact ⟨i + 1, w3.heap.size, by omega, by omega, rfl, HBN, by omega, best', HE, HGO⟩
            case measure => rw [HMI.out, ptrI_eq (i := i + 1) (HBN.out.cell 0)]; omega
          | true =>
            go_wp2_with fail
            refine HCF.out.mono ?_
            rintro e w3 ⟨rfl, hb3⟩
            have d0 : w3.cell? ⟨I, 0, none⟩ = some (.int .i64 i) := (hI.out.below hb3).cell 0
            have d1 : w3.cell? ⟨XE, 0, none⟩ = some (.func (.func 45) #[] #[.pointer (some ⟨XB, 0, none⟩), .pointer (some ⟨XT, 0, none⟩), .pointer (some ⟨XE, 0, none⟩)]) := (HS2.out.be.below hb3).cell 0
            have HS3 := Lib.hid (HS2.out.bl hb3)
            have HOW3 := Lib.hid (owns_below HOW2.out hb3)
            have hs3 := hb3.size
            have HB3 := Lib.hid hb3
            have HI3 := Lib.hid (hI.out.below hb3)
            clear hb3 c0 c1 HCF
            go_upto_region 9 with fail
            refine wp_region_order (S := fun w' => w'.cell? ⟨XE, 0, none⟩ = some (.func (.func 45) #[] #[.pointer (some ⟨XB, 0, none⟩), .pointer (some ⟨XT, 0, none⟩), .pointer (some ⟨XE, 0, none⟩)]) ∧ w'.cell? ⟨I, 0, none⟩ = some (.int .i64 i)) 5 [0,1,2] [3,4] (by kernel_rfl) (by kernel_rfl) ⟨d1, d0⟩ ?_
            iterate 3 (refine headT_cons (by rfl) (by rfl) (by intro w hSw; obtain ⟨s0, s1⟩ := hSw; go_simp; try rfl) ?_; simp only [Act.put, List.setIfInBounds_toArray, List.set_cons_zero, List.set_cons_succ])
            refine headT_nil ?_
            obtain ⟨w4, hw4⟩ : ∃ x, x = w3.drew := ⟨_, rfl⟩
            rw [← hw4]
            have hb4 : Below w3.heap.size w3 w4 := by rw [hw4]; exact bl_drewN (Below.refl _ _) 1
            clear hw4
            refine midT_cons (by rfl) (fun K hK => ?_)
            rw [if_pos (by rfl)]
            go_simp
            have hb5 := bl_alloc hb4 (.cells #[.int .i64 i] 3)
            have hN5 := Blk.new w4 #[.int .i64 i] 3
            obtain ⟨B5, hB5⟩ : ∃ x, x = w4.heap.size := ⟨_, rfl⟩
            have hz5 : (w4.alloc (.cells #[.int .i64 i] 3)).heap.size = B5 + 1 := by rw [hB5]; simp
            have hz4 := hb4.size
            obtain ⟨w5, hw5⟩ : ∃ x, x = w4.alloc (.cells #[.int .i64 i] 3) := ⟨_, rfl⟩
            rw [← hw5] at hb5 hN5 hz5 ⊢
            rw [← hB5] at hN5 hz4 ⊢
            have HB5 := Lib.hid hB5
            clear hw5 hB5
            refine hK.out _ _ ⟨(hb5.cell (p := ⟨XE, 0, none⟩) (show XE < w3.heap.size by omega)).trans d1, (hb5.cell (p := ⟨I, 0, none⟩) (show I < w3.heap.size by omega)).trans d0⟩ (fun _ => ?_)
            clear hK K
            try simp only [Act.put, List.setIfInBounds_toArray, List.set_cons_zero, List.set_cons_succ]
            refine midT_cons (by rfl) (fun K hK => ?_)
            refine spush_I2 rfl (.tmp 37) (.tmp 39) rfl base (.slice A n cap) (iN L) n (by rw [iN_len]; exact HNL.out) rfl (owns_below HOW3.out hb5) _ _ (i : Int) rfl hN5 (by omega) (by omega) ?_
            intro g6 c6 w6 h1 h2 h3 h4 h5
            have HS5 := HS3.out.bl hb5
            have hvw := HVW.out
            have k6 : KpL w5 w6 base XB (.slice A n cap) := ⟨fun B q1 _ q3 => h2.block B q1 q3, h2.size, fun a q1 q2 => bl_grown q1 h2 (fun r hr => by have := (hvw r hr).1; omega)⟩
            have hvb : vb2.ownBlock = none ∨ vb2.ownBlock ≠ (Value.slice A n cap).ownBlock := by
              rcases hv2 with rfl | ⟨g, hg, hg2⟩
              · exact HD.out
              · right; rw [hg]; intro e; have := (hvw g e.symm).2; omega
            have HS6 : LgS w6 base XB XT XE M a N c has best' vb2 := HS5.step k6 (fun g hg => (hvw g hg).1) HV2.out HV3.out (HS5.bb.grown h2 (Ne.symm HV1.out)) (HS5.rb.kept h2 hvb) HS5.n1 HS5.n2 HS5.n3
            have hI6 : Blk w6 I #[.int .i64 i] 3 := (HI3.out.below hb5).grown h2 (fun e => by have := (hvw I e.symm).2; omega)
            have hz6 := h2.size
            have hg6 : (∃ k, (Value.slice A n cap).ownBlock = some k ∧ g6 = k) ∨ g6 = B5 + 1 := by
              rcases h3 with h3 | h3
              · exact .inl ⟨g6, h3, rfl⟩
              · exact .inr (by omega)
            have hlen : (L ++ [i]).length = n + 1 := by rw [List.length_append, ← HNL.out]; rfl
            rw [← iN_snoc] at h1
            have hn1 : (Value.slice (some ⟨g6, 0, none⟩) (n + 1) c6).ownBlock ≠ some XB := own_ne (fun e => by
              rcases hg6 with ⟨k, hk, rfl⟩ | h
              · exact HV1.out (by rw [hk, e])
              · have := HS3.out.bb.lt; omega)
            have hn2 : (Value.slice (some ⟨g6, 0, none⟩) (n + 1) c6).ownBlock ≠ some XT := own_ne (fun e => by
              rcases hg6 with ⟨k, hk, rfl⟩ | h
              · exact HV2.out (by rw [hk, e])
              · have := HS3.out.bt.lt; omega)
            have hn3 : (Value.slice (some ⟨g6, 0, none⟩) (n + 1) c6).ownBlock ≠ some XE := own_ne (fun e => by
              rcases hg6 with ⟨k, hk, rfl⟩ | h
              · exact HV3.out (by rw [hk, e])
              · have := HS3.out.be.lt; omega)
            have hd6 : vb2.ownBlock = none ∨ vb2.ownBlock ≠ (Value.slice (some ⟨g6, 0, none⟩) (n + 1) c6).ownBlock := by
              rcases hvb with hvb | hvb
              · exact .inl hvb
              · right
                intro e
                have e' : vb2.ownBlock = some g6 := e
                rcases hg6 with ⟨k, hk, rfl⟩ | h
                · exact hvb (by rw [e', hk])
                · have := (HS5.rb.lt g6 e').2; omega
            have HC := Lib.hid (IH.out (N - (i + 1)) (by have := HFR.out; omega) (L ++ [i]) (.slice (some ⟨g6, 0, none⟩) (n + 1) c6) best' vb2 w6 HS6 (by rw [hlen]; exact h1) hn1 hn2 hn3 hd6
              (fun x hx => by
                rcases List.mem_append.1 hx with hx | hx
                · exact HLN.out x hx
                · rw [List.mem_singleton.1 hx]; exact hlt) (by rw [frm_snoc]; omega) (by rw [hlen]; have := HFR.out; omega) (by omega))
            have H1 := Lib.hid h1
            have H5 := Lib.hid h5
            have K6 := Lib.hid (((HK2.out.trans (KpL.of_bl HB3.out base XB (.slice A n cap)) (.inl rfl)).trans (KpL.of_bl hb5 base XB (.slice A n cap)) (.inl rfl)).trans k6 (.inl rfl))
            have HG6 := Lib.hid hg6
            have HI6 := Lib.hid hI6
            refine hK.out _ _ ⟨HS6.be.cell 0, hI6.cell 0⟩ (fun _ => ?_)
            clear hK K h1 h2 h3 h5 hN5 d0 d1 k6 hd6 hn1 hn2 hn3 hvb HS5 HS6 hI6 hvw hg6 hb4 hb5
            try simp only [Act.put, List.setIfInBounds_toArray, List.set_cons_zero, List.set_cons_succ]
            refine midT_nil ?_
            simp only [List.drop_succ_cons, List.drop_zero]
            go_wp2_with fail
            refine HC.out.mono ?_
            rintro e w7 ⟨rfl, vb3, hS7, hv3, how7, hk7⟩
            have hvw := HVW.out
            have hw6 : w.heap.size ≤ w6.heap.size := K6.out.size
            have hI7 : Blk w7 I #[.int .i64 i] 3 := (hk7.blk I HI6.out.lt (by omega) (fun e => by
              have e' : some I = some g6 := e
              have := Option.some.inj e'
              rcases HG6.out with ⟨k, hk, rfl⟩ | h
              · have := (hvw _ hk).2; omega
              · omega)).trans HI6.out
            have how : w7.ownsRow base 3 1 (.slice A n cap) n (fl encI (iN L)) := by
              rw [hlen] at how7
              rcases HG6.out with ⟨k, hk, rfl⟩ | h
              · obtain ⟨b, o, hA2⟩ : ∃ b o, A = some ⟨b, o, none⟩ := by
                  rcases H5.out.2 with ⟨e, _⟩ | ⟨g, cp, cur, e, _⟩
                  · rw [e] at hk; cases hk
                  · cases e; exact ⟨g, 0, rfl⟩
                subst hA2
                have e1 : b = g6 := Option.some.inj (show some b = some g6 from hk)
                subst e1
                have ho : o = 0 := by
                  rcases H5.out.2 with ⟨e, _⟩ | ⟨g, cp, cur, e, _⟩
                  · cases e
                  · cases e; rfl
                subst ho
                have h1 := H1.out
                rw [iN_snoc, fl_snoc] at h1 how7
                exact own_shrink H5.out h1 how7
              · refine ⟨H5.out.1, ?_⟩
                rcases H5.out.2 with e | ⟨g, cp, cur, e, e1, e2, e3⟩
                · exact .inl e
                · refine .inr ⟨g, cp, cur, e, e1, ?_, e3⟩
                  rw [hk7.blk g (H5.out.lt g (by rw [e]; rfl)).2 (fun e4 => HV1.out (by rw [e, e4]; rfl)) (fun e4 => by
                    have e5 : some g = some g6 := e4
                    have := Option.some.inj e5
                    have := (hvw g (by rw [e]; rfl)).2
                    omega)]
                  exact e2
            have hk : KpL w w7 base XB (.slice A n cap) := K6.out.trans hk7 (by
              rcases HG6.out with ⟨k, hk, rfl⟩ | h
              · left; rw [hk]; rfl
              · right; exact ⟨g6, rfl, by have := K6.out.size; have := HK2.out.size; have := hwc; omega⟩)
            have hv : vb3 = .slice Ab nb cb ∨ ∃ g, vb3.ownBlock = some g ∧ w.heap.size ≤ g := by
              rcases hv3 with rfl | ⟨g, h1, h2⟩
              · exact hv2
              · exact .inr ⟨g, h1, by omega⟩
            have HE7 : Hid (ExS w w7 base XB XT XE M a N c has L n (.slice A n cap) (.slice Ab nb cb) (goB has (N - (i + 1)) (L ++ [i]) (updL best' (L ++ [i])))) := ⟨vb3, hS7, hv, how, hk⟩
            have HI7 := Lib.hid hI7
            have c0' : w7.cell? ⟨I, 0, none⟩ = some (.int .i64 i) := hI7.cell 0
            have hs7 := Lib.hid hk7.size
            clear hS7 hv how hk hI7 how7 hk7 hv3 hvw
            go_wp2_with fail
            refine NoPanic.normal ?_
            go_wp2_with fail
            have hs8 := hs7.out
            have HE := Lib.hid (HE7.out.bl (bl_alloc (Below.refl _ w7) (.cells #[.int .i64 ((i : Int) + 1)] 3)))
            have HBN : Hid (Blk (w7.alloc (.cells #[.int .i64 ((i : Int) + 1)] 3)) w7.heap.size #[.int .i64 ((i + 1 : Nat) : Int)] 3) := Blk.new w7 #[.int .i64 ((i : Int) + 1)] 3
            have HG2 : Hid (goB has (N - (i + 1)) L (goB has (N - (i + 1)) (L ++ [i]) (updL best' (L ++ [i]))) = FIN) := by
              have h := HGO.out
              first | rw [if_pos rfl] at h; exact h | (rw [if_pos trivial] at h; exact h)
            go_roundw
            case rel => exact ⟨i + 1, w7.heap.size, by omega, by omega, rfl, HBN, by omega, _, HE, HG2⟩
            case measure => rw [HMI.out, ptrI_eq (i := i + 1) (HBN.out.cell 0)]; omega
        · obtain rfl : i = N := by omega
          have hfin : Hid (best' = FIN) := by
            have h := hG.out
            rw [Nat.sub_self, goB] at h
            exact h
          rw [hfin.out] at hX
          go_wp2_with fail
          go_end0
          exact ⟨rfl, hX.out⟩
end Go.Proofs.YtnabbmdhhddfbaaDoor
namespace Go.Proofs.YtnabbmdhhddfbaaDoor
open Go Go.RowKit Go.Shelf
def lgE (L : Int) (l : List Nat) : Int := if chkT L l ≠ 0 then chkT L l else if 12 < l.length then 12 else 0
def lgL (L : Int) (l : List Nat) : List Nat := if lgE L l = 0 then bigL l else []
/-- What Largest answers. -/
def LgPost (w : World) (L : Int) (l : List Nat) (e : Ending) (w' : World) : Prop :=
  ∃ v, e = .returned (.tuple #[v, .int .i64 (lgE L l)]) ∧ w'.ownsRow w.heap.size 3 1 v (lgL L l).length (fl encI (iN (lgL L l))) ∧ Below w.heap.size w w'
theorem lgPost_nil {w w' : World} {L : Int} {l : List Nat} {E : Int} (hE : lgE L l = E) (h0 : E ≠ 0) (hbl : Below w.heap.size w w') : LgPost w L l (.returned (.tuple #[.slice none 0 0, .int .i64 E])) w' := by
  refine ⟨_, by rw [hE], ?_, hbl⟩
  unfold lgL
  rw [if_neg (by rw [hE]; exact h0)]
  exact World.ownsRow_nil _ _ _ _
set_option maxRecDepth 100000 in
set_option maxHeartbeats 4000000 in
theorem largest_any (L : Int) (a : Option Addr) (N c : Nat) (l : List Nat) (w : World) (hl : l.length = N) (hN : N ≤ 1152921504606846976) (hA : Rd w a (fl encV l)) (hF : FitV l) :
    Calls Tryd.prog 21 #[.agg #[.int .i64 L, .slice a N c]] w (LgPost w L l) := by
  have hb0 := bl_alloc (Below.refl _ w) (.cells #[.int .i64 L, .slice a N c] 24)
  have hB := Blk.new w #[.int .i64 L, .slice a N c] 24
  have HL := Lib.hid hl
  have HF := Lib.hid hF
  have HC := Lib.hid (tchk_any L a N c l (w.alloc (.cells #[.int .i64 L, .slice a N c] 24)) hl hN (hA.bl hb0) hF)
  have HA := Lib.hid (hA.bl hb0)
  have HNA : Hid (0 < l.length → ∀ b o, a = some ⟨b, o, none⟩ → b < w.heap.size) := fun h0 b o e => by
    obtain ⟨b', o', e', hb, _⟩ := hA (by rw [fl_length encV_len]; omega)
    rw [e] at e'
    have := (Addr.mk.inj (Option.some.inj e')).1
    omega
  clear hl hA hF
  obtain ⟨X, hX⟩ : ∃ X, X = w.heap.size := ⟨_, rfl⟩
  go_enter Tryd.func21, Tryd.ntmps21
  go_wp2_with fail
  refine HC.out.mono ?_
  rintro e w2 ⟨rfl, hb2⟩
  have hb3 := bl_trans hb0 hb2
  have hB2 := hB.below hb2
  have HA2 := Lib.hid (HA.out.bl hb2)
  rw [← hX] at hB2 ⊢
  have HB3 := Lib.hid hb3
  have e1 : w2.cell? ⟨X, 1, none⟩ = some (.slice a N c) := hB2.cell 1
  have HBX := Lib.hid hB2
  have HX := Lib.hid hX
  clear hX hB2 hb3 hB hb0 hb2 HA HC
  by_cases h0 : chkT L l = 0
  · have HE : Hid (lgE L l = if 12 < l.length then 12 else 0) := if_neg (fun h => h h0)
    obtain ⟨M, rfl⟩ : ∃ M : Nat, L = M := by
      refine ⟨L.toNat, ?_⟩
      unfold chkT at h0
      by_cases q : L < 0 ∨ 32 < L
      · rw [if_pos q] at h0; omega
      · omega
    rw [h0]
    clear h0
    by_cases h12 : 12 < N
    · have d1 : decide (12 < N) = true := by simpa using h12
      have hE : Hid (lgE (M : Int) l = 12) := by show _ = _; rw [HE.out, if_pos (by rw [HL.out]; exact h12)]
      clear HE
      go_wp2_with fail
      exact bodyPost_ret (v := .tuple #[.slice none 0 0, .int .i64 12]) (by simp [results, Tryd.results21, go_sem]) rfl (lgPost_nil hE.out (by omega) HB3.out)
    · have d1 : decide (12 < N) = false := by simpa using h12
      have hE : Hid (lgE (M : Int) l = 0) := by show _ = _; rw [HE.out, if_neg (by rw [HL.out]; exact h12)]
      have hLL : Hid (lgL (M : Int) l = bigL l) := if_pos hE.out
      have hN12 : N ≤ 12 := by omega
      clear HE h12
      go_upto_region 8 with fail
      have hb4 := bl_alloc (bl_alloc (Below.refl _ w2) (.cells #[.slice none 0 0] 38)) (.cells #[.nilFunc] 74)
      have b5 := (Blk.new w2 #[.slice none 0 0] 38).alloc (.cells #[.nilFunc] 74)
      have b6 := Blk.new2 w2 (.cells #[.slice none 0 0] 38) #[.nilFunc] 74
      obtain ⟨H, hH⟩ : ∃ x, x = w2.heap.size := ⟨_, rfl⟩
      obtain ⟨w4, hw4⟩ : ∃ x, x = (w2.alloc (.cells #[.slice none 0 0] 38)).alloc (.cells #[.nilFunc] 74) := ⟨_, rfl⟩
      rw [← hw4] at hb4 b5 b6 ⊢
      rw [← hH] at b5 b6 ⊢
      have hXH : X < H := by rw [hH]; exact HBX.out.lt
      have hwH : w.heap.size ≤ H := by rw [hH]; exact HB3.out.size
      have bX := HBX.out.below hb4
      have HR4 := Lib.hid (HA2.out.bl hb4)
      have HB4 := Lib.hid (bl_trans HB3.out hb4)
      have c6 : w4.cell? ⟨H + 1, 0, none⟩ = some .nilFunc := b6.cell 0
      have f6 : w4.frozen? ⟨H + 1, 0, none⟩ = false := b6.free 0
      have B5 := Lib.hid b5
      have B6 := Lib.hid b6
      have BX := Lib.hid bX
      clear hw4 hH hb4 b5 b6 bX HA2 e1 HBX HB3
      go_upto_region 9 with fail
      have hb5 : Below w.heap.size w (w4.setCell ⟨H + 1, 0, none⟩ (.func (.func 45) #[] #[.pointer (some ⟨H, 0, none⟩), .pointer (some ⟨X, 0, none⟩), .pointer (some ⟨H + 1, 0, none⟩)])) := bl_set HB4.out _ _ _ _ (by omega)
      have hS : LgS (w4.setCell ⟨H + 1, 0, none⟩ (.func (.func 45) #[] #[.pointer (some ⟨H, 0, none⟩), .pointer (some ⟨X, 0, none⟩), .pointer (some ⟨H + 1, 0, none⟩)])) w.heap.size H X (H + 1) M a N c l [] (.slice none 0 0) :=
        ⟨B5.out.other (by omega) 0 _, BX.out.other (by omega) 0 _, B6.out.set 0 _, World.ownsRow_nil _ _ _ _, fun h0 => rd_block HR4.out (by simp [World.setCell]) (fun b o e hlt => Below.heap_setCell _ _ _ b (show b ≠ H + 1 by
          have := HNA.out (by rw [fl_length encV_len] at h0; omega) b o e; omega)) h0, HNA.out, (by intro e; cases e), (by intro e; cases e), (by intro e; cases e), hwH, by have := HX.out; omega, by omega, by omega, by omega⟩
      have c7 : (w4.setCell ⟨H + 1, 0, none⟩ (.func (.func 45) #[] #[.pointer (some ⟨H, 0, none⟩), .pointer (some ⟨X, 0, none⟩), .pointer (some ⟨H + 1, 0, none⟩)])).cell? ⟨H + 1, 0, none⟩ = some (.func (.func 45) #[] #[.pointer (some ⟨H, 0, none⟩), .pointer (some ⟨X, 0, none⟩), .pointer (some ⟨H + 1, 0, none⟩)]) := (B6.out.set 0 _).cell 0
      obtain ⟨w5, hw5⟩ : ∃ x, x = w4.setCell ⟨H + 1, 0, none⟩ (.func (.func 45) #[] #[.pointer (some ⟨H, 0, none⟩), .pointer (some ⟨X, 0, none⟩), .pointer (some ⟨H + 1, 0, none⟩)]) := ⟨_, rfl⟩
      rw [← hw5] at hb5 hS c7 ⊢
      have HC := Lib.hid (ext_any w.heap.size H X (H + 1) M a N c l HL.out hN12 HF.out N [] (.slice none 0 0) [] (.slice none 0 0) w5 hS (World.ownsRow_nil _ _ _ _) (by intro e; cases e) (by intro e; cases e) (by intro e; cases e) (.inl rfl) (by simp) (by simp [frm]) (by simp) hb5.size)
      have HB5 := Lib.hid hb5
      clear hw5 hb5 hS c6 f6 B5 B6 BX HR4 HB4
      go_wp2_with fail
      refine HC.out.mono ?_
      rintro e w6 ⟨rfl, vb, hS6, h91, h92, hk6⟩
      have hgo : goB l N [] (updL [] []) = bigL l := by unfold bigL; rw [HL.out]; rfl
      rw [hgo] at hS6
      obtain ⟨Z, hZ⟩ : ∃ x, x = bigL l := ⟨_, rfl⟩
      rw [← hZ] at hS6 hLL
      obtain ⟨A, cp, hvb, h93⟩ := owns_slice hS6.rb
      subst hvb
      have HRB := Lib.hid hS6.rb
      have HB6 := Lib.hid (hk6.bel w HB5.out (Nat.le_refl _))
      obtain ⟨z, hz⟩ : ∃ x, x = Z.length := ⟨_, rfl⟩
      have e6 : w6.cell? ⟨H, 0, none⟩ = some (.slice A Z.length cp) := hS6.bb.cell 0
      rw [← hz] at e6 HRB
      have HZ := Lib.hid hz
      clear hS6 hk6 c7 h91 h92 h93 hgo hZ hz
      go_wp2_with fail
      exact bodyPost_ret (v := .tuple #[.slice A z cp, .int .i64 0]) (by simp [results, Tryd.results21, go_sem]) rfl ⟨_, by rw [hE.out], by rw [hLL.out, ← HZ.out]; exact HRB.out, HB6.out⟩
  · have hE : Hid (lgE L l = chkT L l) := if_pos h0
    obtain ⟨E, hEE⟩ : ∃ E, chkT L l = E := ⟨_, rfl⟩
    rw [hEE] at hE h0 ⊢
    have d0 : (E == 0) = false := by simp [h0]
    have d1 : (E != 0) = true := by simp [h0]
    have h00 := Lib.hid h0
    clear hEE h0
    go_wp2_with fail
    exact bodyPost_ret (v := .tuple #[.slice none 0 0, .int .i64 E]) (by simp [results, Tryd.results21, go_sem]) rfl (lgPost_nil hE.out h00.out HB3.out)
end Go.Proofs.YtnabbmdhhddfbaaDoor
namespace Go.Proofs.YtnabbmdhhddfbaaDoor
open Go.RowKit
def slR (x : Rw) : Value := .slice x.1 x.2.1 x.2.2
/-- Block g has n rows; row i is the list S i, in a block of its own or nil. -/
structure FamW (w : World) (base g n : Nat) (S : Nat → List Nat) (rs : Nat → Rw) : Prop where
  rows : w.ownsRow base 38 1 (.slice (some ⟨g, 0, none⟩) n n) n (fl encR ((List.range n).map rs))
  row : ∀ i, i < n → w.ownsRow base 3 1 (slR (rs i)) (S i).length (fl encI (iN (S i)))
  len : ∀ i, i < n → (rs i).2.1 = (S i).length
  dis : ∀ i j, i < n → j < n → i ≠ j → (slR (rs i)).ownBlock = none ∨ (slR (rs i)).ownBlock ≠ (slR (rs j)).ownBlock
  far : ∀ i, i < n → (slR (rs i)).ownBlock ≠ some g
theorem setR_put {n i : Nat} {rs : Nat → Rw} (x : Rw) (hi : i < n) : ((List.range n).map rs).set i x = (List.range n).map fun j => if j = i then x else rs j := by
  apply List.ext_getElem?
  intro j
  by_cases hj : j < n
  · by_cases e : j = i
    · subst e; simp [hj]
    · rw [List.getElem?_set_ne (by omega)]
      simp [hj, e]
  · simp [hj]
theorem fl_setR (l : List Rw) (k : Nat) (x : Rw) : (fl encR l).set k (.slice x.1 x.2.1 x.2.2) = fl encR (l.set k x) := by
  induction l generalizing k with
  | nil => simp [fl]
  | cons y l ih =>
    have e : ∀ y l, fl encR (y :: l) = .slice y.1 y.2.1 y.2.2 :: fl encR l := fun y l => by simp [fl, encR]
    cases k with
    | zero => simp [e]
    | succ k => simp only [e, List.set_cons_succ]; rw [ih]
theorem grown_set (w : World) (b o : Nat) (u : Value) : w.grownBy (w.setCell ⟨b, o, none⟩ u) (some b) := ⟨rfl, rfl, rfl, by simp [World.setCell], fun k _ hne => Below.heap_setCell w ⟨b, o, none⟩ u k (fun e => hne (by rw [e]))⟩
section
variable {w w' : World} {base g n : Nat} {S : Nat → List Nat} {rs : Nat → Rw}
theorem FamW.cell (h : FamW w base g n S rs) {i : Nat} (hi : i < n) : w.cell? ⟨g, i, none⟩ = some (slR (rs i)) := by
  obtain ⟨b, o, e, _, hc⟩ := rdR (rd_of_owns h.rows) (by simp; omega)
  simp only [Option.some.injEq, Addr.mk.injEq, and_true] at e
  obtain ⟨rfl, rfl⟩ := e
  have := hc i (by simpa using hi)
  rw [Nat.zero_add] at this
  rw [this]
  simp [rA, rN, rC, hi, slR]
theorem FamW.bl (h : FamW w base g n S rs) (hb : Below w.heap.size w w') : FamW w' base g n S rs := ⟨owns_below h.rows hb, fun i hi => owns_below (h.row i hi) hb, h.len, h.dis, h.far⟩
/-- Row i grew: it is x now, and its cell is laid anew. -/
theorem FamW.grow (h : FamW w base g n S rs) {i : Nat} (hi : i < n) {x : Rw} {X : List Nat} (hg : w.grownBy w' (slR (rs i)).ownBlock) (hx : w'.ownsRow base 3 1 (slR x) X.length (fl encI (iN X))) (hl : x.2.1 = X.length)
    (hb : (slR x).ownBlock = (slR (rs i)).ownBlock ∨ ∃ b, (slR x).ownBlock = some b ∧ w.heap.size ≤ b) :
    FamW (w'.setCell ⟨g, i, none⟩ (slR x)) base g n (fun j => if j = i then X else S j) (fun j => if j = i then x else rs j) := by
  have hgs : g < w.heap.size := (h.rows.lt g rfl).2
  have hxg : (slR x).ownBlock ≠ some g := by
    rcases hb with hb | ⟨b, hb, hb2⟩
    · rw [hb]; exact h.far i hi
    · rw [hb]; intro e; have := Option.some.inj e; omega
  have hother : ∀ j, j < n → j ≠ i → (slR (rs j)).ownBlock = none ∨ (slR (rs j)).ownBlock ≠ (slR x).ownBlock := fun j hj hji => by
    rcases h.dis j i hj hi hji with h1 | h1
    · exact .inl h1
    · rcases hb with hb | ⟨b, hb, hb2⟩
      · right; rw [hb]; exact h1
      · cases hq : (slR (rs j)).ownBlock with
        | none => exact .inl rfl
        | some k =>
          right
          rw [hb]
          intro e
          have := ((h.row j hj).lt k hq).2
          have := Option.some.inj e
          omega
  refine ⟨?_, fun j hj => ?_, fun j hj => ?_, fun j k hj hk hjk => ?_, fun j hj => ?_⟩
  · have h0 := h.rows.kept hg (.inr (fun e => h.far i hi e.symm))
    have h1 := (World.ownsRow.stored h0 i (slR x)).1
    unfold slR at h1
    rw [fl_setR, setR_put x hi] at h1
    exact h1
  · by_cases e : j = i
    · subst e
      simp only [if_true]
      exact ownsRow_setCell_other (a := ⟨g, j, none⟩) hx hxg _
    · simp only [if_neg e]
      exact ownsRow_setCell_other (a := ⟨g, i, none⟩) ((h.row j hj).kept hg (h.dis j i hj hi e)) (h.far j hj) _
  · by_cases e : j = i
    · simp only [if_pos e]; exact hl
    · simp only [if_neg e]; exact h.len j hj
  · by_cases e : j = i
    · have e2 : k ≠ i := by omega
      simp only [if_pos e, if_neg e2]
      rcases hother k hk e2 with h1 | h1
      · cases hq : (slR x).ownBlock with
        | none => exact .inl rfl
        | some q => right; rw [h1]; intro e; cases e
      · exact .inr (Ne.symm h1)
    · by_cases e2 : k = i
      · simp only [if_neg e, if_pos e2]; exact hother j hj e
      · simp only [if_neg e, if_neg e2]; exact h.dis j k hj hk hjk
  · by_cases e : j = i
    · simp only [if_pos e]; exact hxg
    · simp only [if_neg e]; exact h.far j hj
/-- The rows when they are made. -/
theorem FamW.made (w : World) (base n : Nat) (hb : base ≤ w.heap.size) (hn : n ≤ maxLen) : FamW (w.alloc (.cells (madeCells #[.slice none 0 0] n) 38)) base w.heap.size n (fun _ => []) (fun _ => (none, 0, 0)) := by
  refine ⟨?_, fun i hi => World.ownsRow_nil _ _ _ _, fun i hi => rfl, fun _ _ _ _ _ => .inl rfl, fun i hi => by intro e; cases e⟩
  have h := owns_made (w := w) (base := base) (e := 38) (k := 1) (n := n) (cs := madeCells #[.slice none 0 0] n) hb (by simp [madeCells]) hn
  have e : (madeCells #[Value.slice none 0 0] n).toList = fl encR ((List.range n).map fun _ => ((none, 0, 0) : Rw)) := by
    have h2 := made_cells encR 1 (fun _ => rfl) (by omega) (none, 0, 0) n
    rw [Nat.mul_one] at h2
    rw [show (List.range n).map (fun _ => ((none, 0, 0) : Rw)) = List.replicate n (none, 0, 0) by simp [List.map_const']]
    exact h2
  rw [e] at h
  exact h
end
/-- Node u is a child of node v. -/
def kidB (t : List Nd) (v u : Nat) : Bool := decide (0 < u) && decide (nP t u = (v : Int))
/-- The children of v among the first k nodes. -/
def famL (t : List Nd) (k v : Nat) : List Nat := (List.range k).filter (kidB t v)
theorem famL_snoc (t : List Nd) (k v : Nat) : famL t (k + 1) v = famL t k v ++ (if kidB t v k then [k] else []) := by
  unfold famL
  rw [List.range_succ, List.filter_append]
  congr 1
  by_cases q : kidB t v k <;> simp [q]
theorem famL_le (t : List Nd) (k v : Nat) : (famL t k v).length ≤ k := by
  have := List.length_filter_le (kidB t v) (List.range k)
  simpa [famL] using this
set_option maxRecDepth 100000 in
set_option maxHeartbeats 4000000 in
theorem families_any (a : Option Addr) (n c : Nat) (t : List Nd) (w : World) (hn : t.length = n) (hN : n ≤ 64) (hA : Rd w a (fl encNd t)) (hP : ∀ v, 0 < v → v < n → 0 ≤ nP t v ∧ nP t v < n) :
    Calls Tryd.prog 78 #[.slice a n c] w fun e w' => ∃ g rs, e = .returned (.slice (some ⟨g, 0, none⟩) n n) ∧ FamW w' w.heap.size g n (fun v => famL t n v) rs ∧ Below w.heap.size w w' := by
  have HN := Lib.hid hn
  have HA := Lib.hid hA
  have HP := Lib.hid hP
  obtain ⟨i0, hi0, hz0, hz1, hz2⟩ := info_parts info_R
  have hmk := run_make (P := Tryd.prog) w 106 38 i0 _ Tryd.underlying106 hi0 hz0 .i64 .i64 (n : Int) (n : Int) (by omega) (by omega) (by rw [hz2]; omega) (by omega)
  simp only [hz1, Int.toNat_natCast, Nat.mul_one] at hmk
  have hF0 := FamW.made w w.heap.size n (Nat.le_refl _) (by unfold maxLen; omega)
  have hb0 := bl_alloc (Below.refl _ w) (.cells (madeCells #[.slice none 0 0] n) 38)
  have HF0 := Lib.hid hF0
  have HB0 := Lib.hid hb0
  clear hi0 hz0 hz1 hz2 hn hA hP hF0 hb0
  go_enter Tryd.func78, Tryd.ntmps78
  go_upto_region 2 with fail
  obtain ⟨g, hg⟩ : ∃ x, x = w.heap.size := ⟨_, rfl⟩
  obtain ⟨w1, hw1⟩ : ∃ x, x = w.alloc (.cells (madeCells #[.slice none 0 0] n) 38) := ⟨_, rfl⟩
  rw [← hw1] at HF0 HB0 ⊢
  rw [← hg] at HF0 HB0 ⊢
  have HG := Lib.hid hg
  clear hw1 hg hmk
  go_wp2_with fail
  go_loopw [11] (fun x wr => ∃ k : Nat, k ≤ n ∧ x = .int .i64 k ∧ ∃ rs, Hid (FamW wr g g n (fun v => famL t k v) rs) ∧ Hid (Below g w wr)) (fun x _ => n - (intOf x).toNat)
  case atStart => exact ⟨0, by omega, rfl, _, HF0, HB0⟩
  case round =>
    clear HF0 HB0
    obtain ⟨k, hk, rfl, rs, hF, hbl⟩ := hrel
    by_cases hlt : k < n
    · obtain ⟨b, o, rfl, hb, hc⟩ := rdNd HA.out (by rw [HN.out]; omega)
      obtain ⟨G0, G1⟩ := hc k (by rw [HN.out]; exact hlt)
      rw [← HG.out] at hb
      have G0' := (hbl.out.cell (p := ⟨b, o + k * 2, none⟩) hb).trans G0
      have G1' := (hbl.out.cell (p := ⟨b, o + k * 2 + 1, none⟩) hb).trans G1
      have hsn : Hid (∀ v, famL t (k + 1) v = famL t k v ++ (if kidB t v k then [k] else [])) := fun v => famL_snoc t k v
      have HPK := Lib.hid (HP.out k)
      have hkd : Hid (∀ v, kidB t v k = (decide (0 < k) && decide (nP t k = (v : Int)))) := fun v => rfl
      clear hc G0 G1
      generalize nP t k = P at *
      generalize nS t k = s at *
      by_cases h0 : k = 0
      · have hfam : Hid ((fun v => famL t (k + 1) v) = fun v => famL t k v) := by
          show _ = _
          funext v
          rw [hsn.out, hkd.out, decide_eq_false (by omega)]
          simp
        have d1 : decide (0 < k) = false := by simp; omega
        clear h0
        go_wp2_with fail
        go_roundw
        case rel => exact ⟨k + 1, by omega, by go_num, rs, by rw [hfam.out]; exact hF.out.bl (bl_alloc (Below.refl _ _) _), hbl.out.trans ((bl_alloc (Below.refl _ wr) _).mono (by have := hbl.out.size; have := HG.out; omega))⟩
        case measure => simp [intOf]; omega
      · have h00 : 0 < k := by omega
        obtain ⟨hp0, hpn⟩ := HPK.out h00 hlt
        obtain ⟨p, rfl⟩ : ∃ p : Nat, P = p := ⟨P.toNat, by omega⟩
        have hpn' : p < n := by omega
        have d1 : decide (0 < k) = true := by simpa using h00
        clear h0 hp0 hpn
        go_upto_region 6 with fail
        have hF2 := hF.out.bl (bl_alloc (Below.refl _ wr) (.cells #[.int .i64 p, .string s] 60))
        have hbl2 : Below g w (wr.alloc (.cells #[.int .i64 p, .string s] 60)) := hbl.out.trans ((bl_alloc (Below.refl _ wr) _).mono (by have := hbl.out.size; have := HG.out; omega))
        have hX := Blk.new wr #[.int .i64 p, .string s] 60
        obtain ⟨X, hXe⟩ : ∃ x, x = wr.heap.size := ⟨_, rfl⟩
        have hz2 : (wr.alloc (.cells #[.int .i64 p, .string s] 60)).heap.size = X + 1 := by rw [hXe]; simp
        have hgX : g < X := by rw [hXe]; exact (hF.out.rows.lt g rfl).2
        obtain ⟨w2, hw2⟩ : ∃ x, x = wr.alloc (.cells #[.int .i64 p, .string s] 60) := ⟨_, rfl⟩
        rw [← hw2] at hF2 hbl2 hX hz2 ⊢
        rw [← hXe] at hX ⊢
        have HXE := Lib.hid hXe
        have HRL : Hid (∀ q, (slR (rs p)).ownBlock = some q → q < X) := fun q hq => by rw [hXe]; exact ((hF.out.row p hpn').lt q hq).2
        clear hw2 hXe G0' G1' hF hbl hb
        have c0 : w2.cell? ⟨X, 0, none⟩ = some (.int .i64 p) := hX.cell 0
        have c1 := hF2.cell hpn'
        obtain ⟨⟨A, m, cp⟩, hx⟩ : ∃ x, x = rs p := ⟨_, rfl⟩
        have hm : m = (famL t k p).length := by have := hF2.len p hpn'; rw [← hx] at this; exact this
        have hrow := hF2.row p hpn'
        have hfar := hF2.far p hpn'
        rw [← hx] at c1 hrow hfar
        have c1' : w2.cell? ⟨g, p, none⟩ = some (.slice A m cp) := c1
        have HM := Lib.hid hm
        have hm64 : m ≤ 64 := by have := famL_le t k p; omega
        have HX := Lib.hid hX
        have HXX := Lib.hid hx
        have HF2 := Lib.hid hF2
        have HB2 := Lib.hid hbl2
        have HROW := Lib.hid hrow
        have HFAR := Lib.hid hfar
        clear c1 hm hX hx hF2 hbl2 hrow hfar
        refine wp_region_order (S := fun w' => w'.cell? ⟨X, 0, none⟩ = some (.int .i64 p) ∧ w'.cell? ⟨g, p, none⟩ = some (.slice A m cp)) 11 [0,1,2,3,4,5,6,7,8] [9,10] (by kernel_rfl) (by kernel_rfl) ⟨c0, c1'⟩ ?_
        iterate 9 (refine headT_cons (by rfl) (by rfl) (by intro w hSw; obtain ⟨s0, s1⟩ := hSw; go_simp; try rfl) ?_; simp only [Act.put, List.setIfInBounds_toArray, List.set_cons_zero, List.set_cons_succ])
        refine headT_nil ?_
        obtain ⟨w4, hw4⟩ : ∃ x, x = w2.drew := ⟨_, rfl⟩
        rw [← hw4]
        have hb4 : Below w2.heap.size w2 w4 := by rw [hw4]; exact bl_drewN (Below.refl _ _) 1
        have hz4 : w4.heap.size = X + 1 := by rw [hw4]; exact hz2
        clear hw4
        refine midT_cons (by rfl) (fun K hK => ?_)
        rw [if_pos (by rfl)]
        go_simp
        have hb5 := bl_alloc hb4 (.cells #[.int .i64 k] 3)
        have hN5 := Blk.new w4 #[.int .i64 k] 3
        have hz5 : (w4.alloc (.cells #[.int .i64 k] 3)).heap.size = X + 2 := by simp [hz4]
        rw [hz4] at hN5
        obtain ⟨w5, hw5⟩ : ∃ x, x = w4.alloc (.cells #[.int .i64 k] 3) := ⟨_, rfl⟩
        rw [← hw5] at hb5 hN5 hz5 ⊢
        have HF5 := Lib.hid (HF2.out.bl hb5)
        have HX5 := Lib.hid (HX.out.below hb5)
        have HR5 := Lib.hid (owns_below HROW.out hb5)
        have HB5 : Hid (Below g w w5) := HB2.out.trans (hb5.mono (by omega))
        clear hw5
        refine hK.out _ _ ⟨HX5.out.cell 0, by have h := HF5.out.cell hpn'; rw [← HXX.out] at h; exact h⟩ (fun _ => ?_)
        clear hK K
        try simp only [Act.put, List.setIfInBounds_toArray, List.set_cons_zero, List.set_cons_succ]
        refine midT_cons (by rfl) (fun K hK => ?_)
        refine spush_I rfl (.tmp 25) (.tmp 27) rfl g (.slice A m cp) (iN (famL t k p)) m (by rw [iN_len]; exact HM.out) rfl (by have h := HR5.out; rw [← HM.out] at h; exact h) _ _ (k : Int) rfl hN5 (by omega) (by omega) ?_
        intro g6 c6 w6 h1 h2 h3 h4
        have hz6 := h2.size
        have HX6 := Lib.hid (HX5.out.grown h2 (by
          intro e
          have := HRL.out X (by rw [← HXX.out]; exact e.symm)
          omega))
        have HG6 := Lib.hid (HF5.out.grow (w' := w6) hpn' (x := (some ⟨g6, 0, none⟩, m + 1, c6)) (X := famL t k p ++ [k]) (by rw [← HXX.out]; exact h2) (by
            rw [← iN_snoc] at h1
            have e : (famL t k p ++ [k]).length = m + 1 := by rw [List.length_append, ← HM.out]; rfl
            rw [e]; exact h1) (by rw [List.length_append, ← HM.out]; rfl) (by
            rw [← HXX.out]
            rcases h3 with h3 | h3
            · exact .inl h3.symm
            · exact .inr ⟨g6, rfl, by omega⟩))
        have hgp5 : w5.cell? ⟨g, p, none⟩ = some (.slice A m cp) := by have h := HF5.out.cell hpn'; rw [← HXX.out] at h; exact h
        have hgp6 : w6.cell? ⟨g, p, none⟩ = some (.slice A m cp) := h2.cell hgp5 (fun e => HFAR.out e.symm)
        have hrw6 := HF5.out.rows.kept h2 (.inr (fun e => HFAR.out e.symm))
        have hfz6 : w6.frozen? ⟨g, p, none⟩ = false := World.ownsRow.frozenAt hrw6 p
        have HB6 := Lib.hid (bl_grown (a := w) (by have h := HB5.out; rw [HG.out] at h; exact h) h2 (fun r hr => by have := (HR5.out.lt r hr).1; have := HG.out; omega))
        refine hK.out _ _ ⟨HX6.out.cell 0, hgp6⟩ (fun _ => ?_)
        clear hK K h1 h2 h3 h4 hrw6 hgp5 hN5 hb4 hb5 c0 c1'
        try simp only [Act.put, List.setIfInBounds_toArray, List.set_cons_zero, List.set_cons_succ]
        refine midT_nil ?_
        simp only [List.drop_succ_cons, List.drop_zero]
        go_wp2_with fail
        refine NoPanic.normal ?_
        go_wp2_with fail
        have hfam : Hid ((fun v => famL t (k + 1) v) = fun j => if j = p then famL t k p ++ [k] else famL t k j) := by
          show _ = _
          funext v
          rw [hsn.out, hkd.out, d1]
          by_cases e : v = p
          · subst e; simp
          · rw [if_neg e, decide_eq_false (fun h => e (by omega))]; simp
        have HB7 : Hid (Below g w (w6.setCell ⟨g, p, none⟩ (.slice (some ⟨g6, 0, none⟩) (m + 1) c6))) := by
          have h := HB6.out
          rw [← HG.out] at h
          exact h.setCell (p := ⟨g, p, none⟩) (Nat.le_refl _) _
        go_roundw
        case rel => exact ⟨k + 1, by omega, by go_num, _, by rw [hfam.out]; exact HG6.out, HB7⟩
        case measure => simp [intOf]; omega
    · obtain rfl : k = n := by omega
      go_wp2_with fail
      go_ret
      exact ⟨g, rs, rfl, by rw [← HG.out]; exact hF.out, by rw [← HG.out]; exact hbl.out⟩
end Go.Proofs.YtnabbmdhhddfbaaDoor
namespace Go.Proofs.YtnabbmdhhddfbaaDoor
open Go.RowKit
/-- Node v is a leaf. -/
def leafB (t : List Nd) (v : Nat) : Bool := (famL t t.length v).isEmpty
def lvsL (t : List Nd) (k : Nat) : List Nat := (List.range k).filter (leafB t)
theorem lvsL_snoc (t : List Nd) (k : Nat) : lvsL t (k + 1) = lvsL t k ++ (if leafB t k then [k] else []) := by
  unfold lvsL
  rw [List.range_succ, List.filter_append]
  congr 1
  by_cases q : leafB t k <;> simp [q]
theorem lvsL_le (t : List Nd) (k : Nat) : (lvsL t k).length ≤ k := by
  have := List.length_filter_le (leafB t) (List.range k)
  simpa [lvsL] using this
theorem leafB_len (t : List Nd) (v : Nat) : leafB t v = decide ((famL t t.length v).length = 0) := by
  unfold leafB
  cases famL t t.length v <;> rfl
set_option maxRecDepth 100000 in
set_option maxHeartbeats 4000000 in
theorem leaves_any (a : Option Addr) (n c : Nat) (t : List Nd) (w : World) (hn : t.length = n) (hN : n ≤ 64) (hA : Rd w a (fl encNd t)) (hP : ∀ v, 0 < v → v < n → 0 ≤ nP t v ∧ nP t v < n) :
    Calls Tryd.prog 58 #[.slice a n c] w fun e w' => ∃ v, e = .returned v ∧ w'.ownsRow w.heap.size 3 1 v (lvsL t n).length (fl encI (iN (lvsL t n))) ∧ Below w.heap.size w w' := by
  have HC := Lib.hid (families_any a n c t w hn hN hA hP)
  have HLB : Hid (∀ v, leafB t v = decide ((famL t n v).length = 0)) := fun v => by rw [← hn]; exact leafB_len t v
  have hle := fun v => famL_le t n v
  have HLE := Lib.hid hle
  clear hn hA hP hle
  go_enter Tryd.func58, Tryd.ntmps58
  go_wp2_with fail
  refine HC.out.mono ?_
  rintro e w1 ⟨g, rs, rfl, hF, hb⟩
  have HF := Lib.hid hF
  have HB := Lib.hid hb
  clear hF hb HC
  go_wp2_with fail
  go_loopw [9, 3] (fun x v wr => ∃ k : Nat, k ≤ n ∧ x = .int .i64 k ∧ Hid (wr.ownsRow w1.heap.size 3 1 v (lvsL t k).length (fl encI (iN (lvsL t k)))) ∧ Hid (Below w1.heap.size w1 wr)) (fun x _ _ => n - (intOf x).toNat)
  case atStart => exact ⟨0, by omega, rfl, World.ownsRow_nil _ _ _ _, Below.refl _ _⟩
  case round =>
    obtain ⟨k, hk, rfl, how, hbl⟩ := hrel
    by_cases hlt : k < n
    · have G := (HF.out.bl hbl.out).cell hlt
      have hlen := HF.out.len k hlt
      obtain ⟨⟨A, m, cp⟩, hx⟩ : ∃ x, x = rs k := ⟨_, rfl⟩
      rw [← hx] at G hlen
      have G' : wr.cell? ⟨g, k, none⟩ = some (.slice A m cp) := G
      have hm : m = (famL t n k).length := hlen
      have hsn := Lib.hid (lvsL_snoc t k)
      have hlb := HLB.out k
      rw [← hm] at hlb
      have HLB2 := Lib.hid hlb
      have hm64 : m ≤ 64 := by have := HLE.out k; omega
      clear G hlen hx hm hlb
      by_cases h0 : m = 0
      · have hs : Hid (lvsL t (k + 1) = lvsL t k ++ [k]) := by show _ = _; rw [hsn.out, HLB2.out, decide_eq_true h0]; rfl
        have t1 : ((m : Int) == 0) = true := by simp [h0]
        have t2 : decide ((m : Int) = 0) = true := by simp [h0]
        have t3 : decide (m = 0) = true := by simp [h0]
        have t4 : (m == 0) = true := by simp [h0]
        have hl2 := lvsL_le t k
        obtain ⟨q, hq⟩ : ∃ q, q = (lvsL t k).length := ⟨_, rfl⟩
        have HQ := Lib.hid hq
        rw [← hq] at how hl2
        clear h0 hsn HLB2 hq
        have hbase : w1.heap.size ≤ (wr.alloc (.cells #[.int .i64 k] 3)).heap.size := (bl_alloc hbl.out _).size
        go_wp2_with (at_builtin; refine push_I rfl (.tmp 17) (.tmp 19) rfl w1.heap.size u3 (iN (lvsL t k)) q (by rw [iN_len]; exact HQ.out) rfl (how.out.alloc _) _ _ (k : Int) rfl (Blk.new _ _ _) (by omega) hbase ?_; intro g2 cap w8 h81 h82 h83 h84; rw [← iN_snoc, ← hs.out] at h81; have H81 := Lib.hid h81; have H82 := Lib.hid h82; clear h81 h82 h83)
        have hlen2 : Hid ((lvsL t (k + 1)).length = q + 1) := by show _ = _; rw [hs.out, List.length_append, HQ.out]; rfl
        have HB8 := Lib.hid (bl_grown (bl_alloc hbl.out (.cells #[.int .i64 k] 3)) H82.out (fun x e => (how.out.lt x e).1))
        go_roundw
        case rel => exact ⟨k + 1, by omega, by go_num, by rw [hlen2.out]; exact H81, HB8⟩
        case measure => simp [intOf]; omega
      · have hs : Hid (lvsL t (k + 1) = lvsL t k) := by show _ = _; rw [hsn.out, HLB2.out, decide_eq_false h0]; simp
        have t1 : ((m : Int) == 0) = false := by simp; omega
        have t2 : decide ((m : Int) = 0) = false := by simp; omega
        have t3 : decide (m = 0) = false := by simp; omega
        have t4 : (m == 0) = false := by simp; omega
        clear h0 hsn HLB2
        go_wp2_with fail
        go_roundw
        case rel => exact ⟨k + 1, by omega, by go_num, by rw [hs.out]; exact how, hbl⟩
        case measure => simp [intOf]; omega
    · obtain rfl : k = n := by omega
      go_wp2_with fail
      go_ret
      exact ⟨_, rfl, owns_mono how.out HB.out.size, bl_trans HB.out hbl.out⟩
/-- The parents of a valid tree. -/
theorem tree_par {t : List Nd} (h : TreeOk t) : ∀ v, 0 < v → v < t.length → 0 ≤ nP t v ∧ nP t v < v := by
  intro v h0 hv
  obtain ⟨h1, h2, _⟩ := h.2.2 v hv
  rw [if_neg (by omega)] at h2
  exact ⟨h2, h1⟩
theorem chk_tree {t : List Nd} (h : chkE t = 0) : TreeOk t := by
  unfold chkE at h
  by_cases q : TreeOk t
  · exact q
  · rw [if_neg q] at h; omega
theorem chk_tree' {t : List Nd} (h : chkE t ≠ 0) : chkE t = 16 ∧ ¬ TreeOk t := by
  unfold chkE at *
  by_cases q : TreeOk t
  · rw [if_pos q] at h; omega
  · rw [if_neg q]; exact ⟨rfl, q⟩
/-- The leaves that tree.Leaves answers. -/
def lvT (t : List Nd) : List Nat := if chkE t = 0 then lvsL t t.length else []
set_option maxRecDepth 100000 in
set_option maxHeartbeats 4000000 in
theorem Leaves_any (a : Option Addr) (n c : Nat) (t : List Nd) (w : World) (hn : t.length = n) (hN : n ≤ 1152921504606846976) (hA : Rd w a (fl encNd t)) (hS : ∀ v, v < n → (nS t v).size ≤ 9223372036854775807) :
    Calls Tryd.prog 32 #[.slice a n c] w fun e w' => ∃ v, e = .returned (.tuple #[v, .int .i64 (chkE t)]) ∧ w'.ownsRow w.heap.size 3 1 v (lvT t).length (fl encI (iN (lvT t))) ∧ Below w.heap.size w w' := by
  have HC := Lib.hid (check_any a n c t w hn hN hA hS)
  have HN := Lib.hid hn
  have HA := Lib.hid hA
  clear hn hA hS
  go_enter Tryd.func32, Tryd.ntmps32
  go_wp2_with fail
  refine HC.out.mono ?_
  rintro e w1 ⟨rfl, hb⟩
  have HB := Lib.hid hb
  clear hb HC
  by_cases h0 : chkE t = 0
  · have hok := chk_tree h0
    have HL : Hid (lvT t = lvsL t n) := by show _ = _; unfold lvT; rw [if_pos h0, HN.out]
    have HC2 := Lib.hid (leaves_any a n c t w1 HN.out (by have := hok.2.1; have := HN.out; omega) (HA.out.bl HB.out) (fun v h1 h2 => by
      have := tree_par hok v h1 (by rw [HN.out]; exact h2)
      omega))
    have HE := Lib.hid h0
    rw [h0]
    clear hok h0
    go_wp2_with fail
    refine HC2.out.mono ?_
    rintro e w2 ⟨v, rfl, ho, hb2⟩
    obtain ⟨A, cp, rfl, _⟩ := owns_slice ho
    have HO := Lib.hid (owns_mono ho HB.out.size)
    have HB2 := Lib.hid (bl_trans HB.out hb2)
    obtain ⟨q, hq⟩ : ∃ q, q = (lvsL t n).length := ⟨_, rfl⟩
    rw [← hq] at HO ⊢
    have HQ := Lib.hid hq
    clear ho hb2 hq
    go_wp2_with fail
    exact bodyPost_ret (v := .tuple #[.slice A q cp, .int .i64 0]) (by simp [results, Tryd.results32, go_sem]) rfl ⟨_, by rw [HE.out], by rw [HL.out, ← HQ.out]; exact HO.out, HB2.out⟩
  · have HL : Hid (lvT t = []) := by show _ = _; unfold lvT; rw [if_neg h0]
    have h16 := (chk_tree' h0).1
    have HE := Lib.hid h16
    rw [h16]
    clear h0 h16
    go_wp2_with fail
    exact bodyPost_ret (v := .tuple #[.slice none 0 0, .int .i64 16]) (by simp [results, Tryd.results32, go_sem]) rfl ⟨_, by rw [HE.out], by rw [HL.out]; exact World.ownsRow_nil _ _ _ _, HB.out⟩
/-- Why a table or a tree is not valid, or both do not fit each other. -/
def chkP (L : Int) (l : List Nat) (t : List Nd) : Int := if chkT L l ≠ 0 then chkT L l else if chkE t ≠ 0 then chkE t else if ((lvT t).length : Int) = L then 0 else 2
set_option maxRecDepth 100000 in
set_option maxHeartbeats 4000000 in
theorem pcheck_any (L : Int) (a : Option Addr) (N c : Nat) (l : List Nat) (b : Option Addr) (n d : Nat) (t : List Nd) (w : World) (hl : l.length = N) (hN : N ≤ 1152921504606846976) (hA : Rd w a (fl encV l)) (hF : FitV l)
    (ht : t.length = n) (hn : n ≤ 1152921504606846976) (hB : Rd w b (fl encNd t)) (hS : ∀ v, v < n → (nS t v).size ≤ 9223372036854775807) :
    Calls Tryd.prog 49 #[.agg #[.int .i64 L, .slice a N c], .slice b n d] w fun e w' => e = .returned (.int .i64 (chkP L l t)) ∧ Below w.heap.size w w' := by
  have hb0 := bl_alloc (Below.refl _ w) (.cells #[.int .i64 L, .slice a N c] 24)
  have hX := Blk.new w #[.int .i64 L, .slice a N c] 24
  have HC := Lib.hid (tchk_any L a N c l (w.alloc (.cells #[.int .i64 L, .slice a N c] 24)) hl hN (hA.bl hb0) hF)
  have HB := Lib.hid (hB.bl hb0)
  have HT := Lib.hid ht
  have HS := Lib.hid hS
  clear hl hA hF hB ht hS
  go_enter Tryd.func49, Tryd.ntmps49
  go_wp2_with fail
  refine HC.out.mono ?_
  rintro e w2 ⟨rfl, hb2⟩
  have HB2 := Lib.hid (bl_trans hb0 hb2)
  have HX2 := Lib.hid (hX.below hb2)
  have HR2 := Lib.hid (HB.out.bl hb2)
  clear hb0 hb2 hX HC HB
  by_cases h0 : chkT L l = 0
  · have HE : Hid (chkP L l t = if chkE t ≠ 0 then chkE t else if ((lvT t).length : Int) = L then 0 else 2) := if_neg (fun h => h h0)
    have HC2 := Lib.hid (Leaves_any b n d t w2 HT.out hn HR2.out HS.out)
    rw [h0]
    clear h0
    go_wp2_with fail
    refine HC2.out.mono ?_
    rintro e w3 ⟨v, rfl, ho, hb3⟩
    obtain ⟨A, cp, rfl, _⟩ := owns_slice ho
    have HB3 := Lib.hid (bl_trans HB2.out hb3)
    have hx3 := HX2.out.below hb3
    obtain ⟨X, hXe⟩ : ∃ x, x = w.heap.size := ⟨_, rfl⟩
    rw [← hXe] at hx3 ⊢
    have c0 : w3.cell? ⟨X, 0, none⟩ = some (.int .i64 L) := hx3.cell 0
    obtain ⟨q, hq⟩ : ∃ q, q = (lvT t).length := ⟨_, rfl⟩
    rw [← hq] at HE ⊢
    have hq63 : q ≤ 9223372036854775807 := by
      rcases ho.2 with ⟨_, e⟩ | ⟨g, cp2, cur, e1, _, _, e2, e3, _⟩
      · omega
      · unfold maxLen at e3; omega
    clear ho hb3 hx3 hq hXe HC2
    by_cases h1 : chkE t = 0
    · rw [h1] at HE ⊢
      by_cases h2 : (q : Int) = L
      · have hv : Hid (chkP L l t = 0) := by show _ = _; rw [HE.out, if_neg (by simp), if_pos h2]
        have t1 : ((q : Int) != L) = false := by simp [h2]
        have t2 : decide ((q : Int) = L) = true := by simp [h2]
        have t3 : ((q : Int) == L) = true := by simp [h2]
        clear HE h1 h2
        go_wp2_with fail
        go_ret
        exact ⟨by rw [hv.out]; rfl, HB3.out⟩
      · have hv : Hid (chkP L l t = 2) := by show _ = _; rw [HE.out, if_neg (by simp), if_neg h2]
        have t1 : ((q : Int) != L) = true := by simp [h2]
        have t2 : decide ((q : Int) = L) = false := by simp [h2]
        have t3 : ((q : Int) == L) = false := by simp [h2]
        clear HE h1 h2
        go_wp2_with fail
        go_ret
        exact ⟨by rw [hv.out]; rfl, HB3.out⟩
    · have h16 := (chk_tree' h1).1
      have hv : Hid (chkP L l t = 16) := by show _ = _; rw [HE.out, if_pos h1, h16]
      rw [h16]
      clear HE h1 h16
      go_wp2_with fail
      go_ret
      exact ⟨by rw [hv.out]; rfl, HB3.out⟩
  · have hE : Hid (chkP L l t = chkT L l) := if_pos h0
    obtain ⟨E, hEE⟩ : ∃ E, chkT L l = E := ⟨_, rfl⟩
    rw [hEE] at hE h0 ⊢
    have d0 : (E == 0) = false := by simp [h0]
    have d1 : (E != 0) = true := by simp [h0]
    clear hEE h0
    go_wp2_with fail
    go_ret
    exact ⟨by rw [hE.out]; rfl, HB2.out⟩
end Go.Proofs.YtnabbmdhhddfbaaDoor
namespace Go.Proofs.YtnabbmdhhddfbaaDoor
open Go.RowKit
/-- Has node v a child among the first k? -/
def inB (t : List Nd) (k v : Nat) : Bool := (List.range k).any (kidB t v)
theorem inB_succ (t : List Nd) (k v : Nat) : inB t (k + 1) v = (inB t k v || kidB t v k) := by
  unfold inB
  rw [List.range_succ, List.any_append]
  simp
theorem leafB_in (t : List Nd) (v : Nat) : leafB t v = !inB t t.length v := by
  unfold leafB inB famL
  rw [Bool.eq_iff_iff]
  simp [List.isEmpty_iff]
/-- What a leaf begins with. -/
def botS (t : List Nd) (v : Nat) : Nat := if leafB t v then 2 ^ (lvsL t v).length else 0
/-- The sets behind j steps upwards. -/
def upS (t : List Nd) : Nat → Nat → Nat
  | 0, v => botS t v
  | j + 1, v => if nP t (t.length - 1 - j) = (v : Int) then upS t j v ||| upS t j (t.length - 1 - j) else upS t j v
/-- The set of a node. -/
def cl (t : List Nd) (v : Nat) : Nat := upS t (t.length - 1) v
theorem lvsL_mono (t : List Nd) {j k : Nat} (h : j ≤ k) : (lvsL t j).length ≤ (lvsL t k).length := by
  induction k with
  | zero => have : j = 0 := by omega
            subst this; exact Nat.le_refl _
  | succ k ih =>
    by_cases e : j = k + 1
    · subst e; exact Nat.le_refl _
    · have := ih (by omega)
      rw [lvsL_snoc, List.length_append]; omega
theorem upS_lt {t : List Nd} {n : Nat} (hL : (lvsL t t.length).length ≤ n) : ∀ j v, v < t.length → upS t j v < 2 ^ n := by
  intro j
  induction j with
  | zero =>
    intro v hv
    unfold upS botS
    by_cases q : leafB t v = true
    · rw [if_pos q]
      refine Nat.pow_lt_pow_right (by omega) ?_
      have h1 := lvsL_snoc t v
      rw [if_pos q] at h1
      have h2 := lvsL_mono t (show v + 1 ≤ t.length from hv)
      rw [h1, List.length_append, List.length_singleton] at h2
      omega
    · rw [if_neg q]; exact Nat.two_pow_pos _
  | succ j ih =>
    intro v hv
    unfold upS
    split
    · exact Nat.or_lt_two_pow (ih v hv) (ih _ (by omega))
    · exact ih v hv
theorem cl_lt {t : List Nd} {n : Nat} (hL : (lvsL t t.length).length ≤ n) (v : Nat) (hv : v < t.length) : cl t v < 2 ^ n := upS_lt hL _ v hv
/-- What the iterator hands out. -/
def ndsL (t : List Nd) (k : Nat) : List (Nat × Nat) := (List.range k).map fun v => (v, cl t v)
theorem ndsL_snoc (t : List Nd) (k : Nat) : ndsL t (k + 1) = ndsL t k ++ [(k, cl t k)] := by simp [ndsL, List.range_succ]
theorem ndsL_len (t : List Nd) (k : Nat) : (ndsL t k).length = k := by simp [ndsL]
end Go.Proofs.YtnabbmdhhddfbaaDoor
namespace Go.Proofs.YtnabbmdhhddfbaaDoor
open Go.RowKit Go.Shelf
attribute [local go_sem] Oper.semAt_some
/-- From block n₀ on what is cells lies as it lay. -/
def KpN (n₀ : Nat) (W W' : World) : Prop := ∀ (B : Nat) (cs : Array Value) (t : TypeId) (fr : Nat × Nat), n₀ ≤ B → W.heap[B]? = some (.cells cs t fr) → W'.heap[B]? = some (.cells cs t fr)
theorem KpN.refl (n₀ : Nat) (W : World) : KpN n₀ W W := fun _ _ _ _ _ h => h
theorem KpN.trans {n₀ : Nat} {X Y Z : World} (h : KpN n₀ X Y) (k : KpN n₀ Y Z) : KpN n₀ X Z := fun B cs t fr hB hx => k B cs t fr hB (h B cs t fr hB hx)
def encQ (x : Nat × Nat) : Array Value := #[.int .i64 (x.1 : Int), .int .u64 (x.2 : Int)]
theorem bools_made (n : Nat) : madeCells #[Value.bool false] n = ofF n (fun _ => .bool false) := by
  apply Array.ext
  · simp [madeCells, ofF]
  · intro i h1 h2
    simp [madeCells, ofF, Nat.mod_one]
theorem u64s_made (n : Nat) : madeCells #[Value.int .u64 0] n = ofF n (fun _ => .int .u64 0) := by
  apply Array.ext
  · simp [madeCells, ofF]
  · intro i h1 h2
    simp [madeCells, ofF, Nat.mod_one]
theorem info_B : (Tryd.prog.info? 4).map (fun i => (i.zero, i.size, i.bytes)) = some (some (.bool false), 1, 1) := by kernel_rfl
theorem rd_dropNd {w : World} {b o : Nat} {t : List Nd} (h : Rd w (some ⟨b, o, none⟩) (fl encNd t)) (h1 : 0 < t.length) : ∀ i, i + 1 < t.length → w.cell? ⟨b, o + 2 + i * 2, none⟩ = some (.int .i64 (nP t (i + 1))) ∧ w.cell? ⟨b, o + 2 + i * 2 + 1, none⟩ = some (.string (nS t (i + 1))) := by
  intro i hi
  obtain ⟨b', o', e, _, hc⟩ := rdNd h h1
  have e2 := Option.some.inj e
  obtain rfl := (Addr.mk.inj e2).1
  obtain rfl := (Addr.mk.inj e2).2.1
  have := hc (i + 1) hi
  rw [show o + (i + 1) * 2 = o + 2 + i * 2 by omega] at this
  exact this
set_option maxRecDepth 100000 in
set_option maxHeartbeats 4000000 in
theorem nodes1_in (m n l X n₀ c : Nat) (a : Option Addr) (t : List Nd) (hn : t.length = n) (h1 : 1 ≤ n) (h63 : n ≤ 63) (hnc : n ≤ c) (hc : c ≤ 9223372036854775807) (hP : ∀ v, 0 < v → v < n → 0 ≤ nP t v ∧ nP t v < v) (hL : (lvsL t n).length ≤ 32) (hm : 1 ≤ m) (J Jx : List (Nat × Nat) → World → Prop)
    (hAb : ∀ W W', Below W.heap.size W W' → J [] W → J [] W')
    (hY : ∀ pre (x : Nat × Nat) W, x.1 < n → x.2 < 18446744073709551616 → J pre W → pre.length < 64 → YieldAt Fence.wide (m - 1) Tryd.prog l (encQ x) W fun e W' =>
      (e = .returned (.bool true) ∧ J (pre ++ [x]) W' ∧ KpN n₀ W W') ∨ (e = .returned (.bool false) ∧ Jx (pre ++ [x]) W'))
    (W : World) (hX : W.cell? ⟨X, 0, none⟩ = some (.slice a n c)) (hXl : X < W.heap.size) (hR : Rd W a (fl encNd t)) (hn0 : n₀ ≤ W.heap.size) (h0 : J [] W) :
    CallsIn Fence.wide m Tryd.prog 71 #[.func (.yield l) #[] #[], .pointer (some ⟨X, 0, none⟩)] W fun e W' => (∃ v, e = .returned v) ∧
      ((∃ ys, ys = ndsL t n ∧ J ys W') ∨ (∃ pre, (∃ k, k < n ∧ pre = ndsL t (k + 1)) ∧ Jx pre W')) := by
  have HY := Lib.hid hY
  have HN := Lib.hid hn
  have HP := Lib.hid hP
  have HR := Lib.hid hR
  have HL := Lib.hid hL
  have HAB := Lib.hid hAb
  have HJ := Lib.hid h0
  clear hY hn hP hR hL hAb h0
  obtain ⟨i0, hi0, hz0, hz1, hz2⟩ := info_parts info_G
  have hmk := fun w => run_make (P := Tryd.prog) w 62 61 i0 _ Tryd.underlying62 hi0 hz0 .i64 .i64 (n : Int) (n : Int) (by omega) (by omega) (by rw [hz2]; omega) (by omega)
  simp only [hz1, Int.toNat_natCast, Nat.mul_one] at hmk
  clear hi0 hz0 hz1 hz2
  obtain ⟨i1, hi0, hz0, hz1, hz2⟩ := info_parts info_B
  have hmb := fun w => run_make (P := Tryd.prog) w 43 4 i1 _ Tryd.underlying43 hi0 hz0 .i64 .i64 (n : Int) (n : Int) (by omega) (by omega) (by rw [hz2]; omega) (by omega)
  simp only [hz1, Int.toNat_natCast, Nat.mul_one] at hmb
  clear hi0 hz0 hz1 hz2
  have hk1 := hmk W
  have hk2 := hmb (W.alloc (.cells (madeCells #[.int .u64 0] n) 61))
  clear hmk hmb
  refine callsIn_of_wp Tryd.func71 rfl trivial ?_ rfl
  simp only [Tryd.ntmps71, List.size_toArray, List.length_cons, List.length_nil, Nat.reduceAdd, Nat.reduceSub, Array.replicate_succ, Array.replicate_zero, List.push_toArray, List.append_toArray, List.nil_append, List.cons_append]
  refine wpIn_wide.2 ?_
  go_upto_region 3 with fail
  have hS0 := (Blk.new W (madeCells #[.int .u64 0] n) 61).alloc (.cells (madeCells #[.bool false] n) 4)
  have hI0 := Blk.new2 W (.cells (madeCells #[.int .u64 0] n) 61) (madeCells #[.bool false] n) 4
  have hB0 : Below W.heap.size W ((W.alloc (.cells (madeCells #[.int .u64 0] n) 61)).alloc (.cells (madeCells #[.bool false] n) 4)) := bl_alloc (bl_alloc (Below.refl _ _) _) _
  have hz : ((W.alloc (.cells (madeCells #[.int .u64 0] n) 61)).alloc (.cells (madeCells #[.bool false] n) 4)).heap.size = W.heap.size + 2 := by simp
  obtain ⟨w3, hw3⟩ : ∃ x, x = (W.alloc (.cells (madeCells #[.int .u64 0] n) 61)).alloc (.cells (madeCells #[.bool false] n) 4) := ⟨_, rfl⟩
  obtain ⟨g, hg⟩ : ∃ x, x = W.heap.size := ⟨_, rfl⟩
  rw [← hw3] at hS0 hI0 hB0 hz ⊢
  rw [← hg] at hS0 hI0 hz hXl hn0 ⊢
  rw [u64s_made] at hS0
  rw [bools_made] at hI0
  have HG := Lib.hid hg
  have HS0 := Lib.hid hS0
  have HI0 : Hid (Blk w3 (g + 1) (ofF n (fun v => .bool (inB t 1 v))) 4) := by
    have e : ∀ v, inB t 1 v = false := fun v => by simp [inB, kidB]
    show Blk _ _ _ _
    rw [show (fun v => Value.bool (inB t 1 v)) = fun _ => Value.bool false by funext v; rw [e]]
    exact hI0
  have HB0 := Lib.hid hB0
  have hX3 : w3.cell? ⟨X, 0, none⟩ = some (.slice a n c) := (hB0.cell (p := ⟨X, 0, none⟩) (by show X < _; omega)).trans hX
  obtain ⟨b, o, rfl, hb, _⟩ := rdNd HR.out (by rw [HN.out]; omega)
  have HDR := Lib.hid (rd_dropNd HR.out (by rw [HN.out]; omega))
  rw [← HG.out] at hb
  clear hw3 hg hS0 hI0 hB0 hk1 hk2
  have HX0 := Lib.hid hX
  clear hX
  obtain ⟨o2, ho2⟩ : ∃ o2, (2 ≤ n → o2 = o + 2) ∧ ∀ W', Sem.run Tryd.prog (Instr.slice 27 (.slice (some ⟨b, o, none⟩) n c) (some (.int .i64 1)) none none) W' = .ok (.slice (some ⟨b, o2, none⟩) (n - 1) (c - 1)) W' := by
    refine ⟨if c = 1 then o else o + 2, fun h2 => if_neg (by omega), fun W' => ?_⟩
    have hl1 : (1 : Int) ≤ (n : Int) := by omega
    by_cases q : c = 1
    · subst q
      simp [go_sem, hl1]
    · simp [go_sem, hl1, q]
  obtain ⟨ho2a, ho2b⟩ := ho2
  have HO2 := Lib.hid ho2a
  clear ho2a
  go_wp2_with fail
  go_loopw [21] (fun x wr => ∃ j : Nat, j ≤ n - 1 ∧ x = .int .i64 j ∧ Hid (Blk wr g (ofF n (fun _ => .int .u64 0)) 61) ∧ Hid (Blk wr (g + 1) (ofF n (fun v => .bool (inB t (j + 1) v))) 4) ∧ Hid (Below W.heap.size W wr)) (fun x _ => n - (intOf x).toNat)
  case atStart => exact ⟨0, by omega, rfl, HS0, HI0, HB0⟩
  case round =>
    clear HS0 HI0 HB0 hX3 hz
    obtain ⟨j, hj, rfl, hS, hI, hB⟩ := hrel
    by_cases hlt : j < n - 1
    · obtain rfl : o2 = o + 2 := HO2.out (by omega)
      obtain ⟨G0, G1⟩ := HDR.out j (by rw [HN.out]; omega)
      have G0' := (hB.out.cell (p := ⟨b, o + 2 + j * 2, none⟩) (by rw [← HG.out]; exact hb)).trans G0
      have G1' := (hB.out.cell (p := ⟨b, o + 2 + j * 2 + 1, none⟩) (by rw [← HG.out]; exact hb)).trans G1
      obtain ⟨hp0, hpn⟩ := HP.out (j + 1) (by omega) (by omega)
      have hsn : Hid (∀ v, inB t (j + 2) v = (inB t (j + 1) v || (decide (0 < j + 1) && decide (nP t (j + 1) = (v : Int))))) := fun v => inB_succ t (j + 1) v
      clear G0 G1
      generalize nS t (j + 1) = s at *
      obtain ⟨p, hp⟩ : ∃ p : Nat, nP t (j + 1) = p := ⟨(nP t (j + 1)).toNat, by omega⟩
      rw [hp] at G0' hp0 hpn hsn
      have hpn' : p < n := by omega
      have hgI : Hid (g + 1 < wr.heap.size) := hI.out.lt
      have HI2 := Lib.hid (hI.out.alloc (.cells #[.int .i64 p, .string s] 60))
      have c3 : (wr.alloc (.cells #[.int .i64 p, .string s] 60)).cell? ⟨g + 1, p, none⟩ = some (.bool (inB t (j + 1) p)) := HI2.out.getF p hpn'
      have f3 : (wr.alloc (.cells #[.int .i64 p, .string s] 60)).frozen? ⟨g + 1, p, none⟩ = false := HI2.out.free p
      have hne : ¬ (g + 1 = wr.heap.size) := by have := hgI.out; omega
      clear hp hp0 hpn
      go_wp2_with fail
      have HI3 := Lib.hid (HI2.out.setF p (.bool true))
      have HS3 := Lib.hid ((hS.out.alloc (.cells #[.int .i64 p, .string s] 60)).other (show g ≠ g + 1 by omega) p (.bool true))
      have HB3 := Lib.hid (bl_set (bl_alloc hB.out (.cells #[.int .i64 p, .string s] 60)) (g + 1) p none (.bool true) (by rw [← HG.out]; omega))
      have hfn : (fun i => if i = p then Value.bool true else Value.bool (inB t (j + 1) i)) = fun v => Value.bool (inB t (j + 2) v) := by
        funext v
        rw [hsn.out]
        by_cases e : v = p
        · subst e; simp
        · rw [if_neg e, decide_eq_false (show ¬ ((p : Int) = (v : Int)) by omega)]; simp
      rw [hfn] at HI3
      clear hfn
      go_roundw
      case rel => exact ⟨j + 1, by omega, by go_num, HS3, HI3, HB3⟩
      case measure => simp [intOf]; omega
    · have hj2 : j = n - 1 := by omega
      have hI2 : Hid (Blk wr (g + 1) (ofF n (fun v => .bool (inB t n v))) 4) := by
        have h := hI.out
        rw [hj2, Nat.sub_add_cancel h1] at h
        exact h
      have d1 : decide (j < n - 1) = false := by simpa using hlt
      have hX3 : wr.cell? ⟨X, 0, none⟩ = some (.slice (some ⟨b, o, none⟩) n c) := (hB.out.cell (p := ⟨X, 0, none⟩) (by rw [← HG.out]; exact hXl)).trans HX0.out
      clear hI hj2 ho2b HO2 HDR
      go_wp2_with fail
      obtain ⟨wo, rfl⟩ : ∃ x : World, x = wr := ⟨_, rfl⟩
      have hS0' : Hid (Blk wo g (ofF n (fun v => .int .u64 ((if v < 0 then botS t v else 0 : Nat) : Int))) 61) := by
        show Blk _ _ _ _
        simp only [Nat.not_lt_zero, if_false]
        exact hS.out
      go_loopw [32, 4] (fun x y wr => ∃ k : Nat, k ≤ n ∧ x = .int .i64 k ∧ y = .int .u64 ((2 ^ (lvsL t k).length : Nat) : Int) ∧ Hid (Blk wr g (ofF n (fun v => .int .u64 ((if v < k then botS t v else 0 : Nat) : Int))) 61) ∧ Hid (Blk wr (g + 1) (ofF n (fun v => .bool (inB t n v))) 4) ∧ Hid (Below W.heap.size W wr)) (fun x _ _ => n - (intOf x).toNat)
      case atStart => exact ⟨0, by omega, rfl, rfl, hS0', hI2, hB⟩
      case round =>
        clear hS hS0' hI2 hB hX3
        obtain ⟨k, hk, rfl, rfl, hS, hI, hB⟩ := hrel
        have hX3 : wr.cell? ⟨X, 0, none⟩ = some (.slice (some ⟨b, o, none⟩) n c) := (hB.out.cell (p := ⟨X, 0, none⟩) (by rw [← HG.out]; exact hXl)).trans HX0.out
        by_cases hlt2 : k < n
        · have c3 : wr.cell? ⟨g + 1, k, none⟩ = some (.bool (inB t n k)) := hI.out.getF k hlt2
          have hlb : leafB t k = !inB t n k := by rw [← HN.out]; exact leafB_in t k
          have hsn := Lib.hid (lvsL_snoc t k)
          have hbt : Hid (botS t k = if leafB t k then 2 ^ (lvsL t k).length else 0) := rfl
          have hq := lvsL_mono t (show k ≤ n from hk)
          have hq32 : (lvsL t k).length ≤ 32 := by have := HL.out; omega
          have hle : Hid (leafB t k = true → (lvsL t k).length + 1 ≤ 32) := fun hh => by
            have h1 := lvsL_mono t (show k + 1 ≤ n from hlt2)
            rw [hsn.out, if_pos hh, List.length_append] at h1
            have := HL.out
            simp at h1
            omega
          have hlen : Hid ((lvsL t (k + 1)).length = (lvsL t k).length + if leafB t k then 1 else 0) := by
            show _ = _
            rw [hsn.out, List.length_append]; split <;> rfl
          have c4 : wr.cell? ⟨g, k, none⟩ = some (.int .u64 ((if k < k then botS t k else 0 : Nat) : Int)) := hS.out.getF k hlt2
          have f4 : wr.frozen? ⟨g, k, none⟩ = false := hS.out.free k
          clear hq
          generalize (lvsL t k).length = q at *
          rw [if_neg (by omega)] at c4
          obtain ⟨bi, hbi⟩ : ∃ x, inB t n k = x := ⟨_, rfl⟩
          rw [hbi] at c3 hlb
          rw [hlb] at hbt hle hlen
          clear hbi hlb hsn
          cases bi with
          | true =>
            have hb0 : Hid (botS t k = 0) := hbt.out
            have hfn : (fun v => Value.int .u64 ((if v < k + 1 then botS t v else 0 : Nat) : Int)) = fun v => Value.int .u64 ((if v < k then botS t v else 0 : Nat) : Int) := by
              funext v
              by_cases e : v = k
              · subst e; rw [if_pos (by omega), if_neg (by omega), hb0.out]
              · by_cases e2 : v < k
                · rw [if_pos (by omega), if_pos e2]
                · rw [if_neg (by omega), if_neg e2]
            have HFN := Lib.hid hfn
            have hl2 : Hid ((lvsL t (k + 1)).length = q) := hlen.out
            clear hfn
            go_wp2_with fail
            go_roundw
            case rel => exact ⟨k + 1, by omega, by go_num, by rw [hl2.out], by rw [HFN.out]; exact hS, hI, hB⟩
            case measure => simp [intOf]; omega
          | false =>
            have hle2 : q + 1 ≤ 32 := hle.out rfl
            have hb0 : Hid (botS t k = 2 ^ q) := hbt.out
            have hl2 : Hid ((lvsL t (k + 1)).length = q + 1) := hlen.out
            have hp2 : 2 ^ q ≤ 4294967296 := Nat.pow_le_pow_right (n := 2) (by omega) (show q ≤ 32 by omega)
            have e1 : ((2 : Int) ^ q) = ((2 ^ q : Nat) : Int) := by simp
            have hE2 : Hid (IntKind.u64.wrap (2 ^ q * 2) = ((2 ^ (q + 1) : Nat) : Int)) := by
              show _ = _
              rw [e1, show ((2 ^ q : Nat) : Int) * 2 = ((2 ^ (q + 1) : Nat) : Int) by rw [Nat.pow_succ]; simp, w64 _ (by rw [Nat.pow_succ]; omega)]
            have hE1 := Lib.hid e1
            clear e1
            go_wp2_with fail
            have hfn : (fun i => if i = k then Value.int .u64 (2 ^ q) else Value.int .u64 ((if i < k then botS t i else 0 : Nat) : Int)) = fun v => Value.int .u64 ((if v < k + 1 then botS t v else 0 : Nat) : Int) := by
              funext v
              by_cases e : v = k
              · subst e; rw [if_pos rfl, if_pos (by omega), hb0.out, hE1.out]
              · by_cases e2 : v < k
                · rw [if_neg e, if_pos e2, if_pos (by omega)]
                · rw [if_neg e, if_neg e2, if_neg (by omega)]
            have HS2 := Lib.hid (hS.out.setF k (.int .u64 (2 ^ q)))
            rw [hfn] at HS2
            have HI2 := Lib.hid (hI.out.other (show g + 1 ≠ g by omega) k (.int .u64 (2 ^ q)))
            have HB2 := Lib.hid (bl_set hB.out g k none (.int .u64 (2 ^ q)) (by rw [← HG.out]; exact Nat.le_refl _))
            clear hfn
            go_roundw
            case rel => exact ⟨k + 1, by omega, by go_num, by rw [hl2.out, hE2.out], HS2, HI2, HB2⟩
            case measure => simp [intOf]; omega
        · obtain rfl : n = k := by omega
          have hS2 : Hid (Blk wr g (ofF n (fun v => .int .u64 (upS t 0 v : Nat))) 61) := by
            show Blk _ _ _ _
            have e : ofF n (fun v => Value.int .u64 ((if v < n then botS t v else 0 : Nat) : Int)) = ofF n (fun v => Value.int .u64 (upS t 0 v : Nat)) := ofF_congr fun i hi => by rw [if_pos hi]; rfl
            rw [← e]; exact hS.out
          have e9 : ((n : Int) - 1) = ((n - 1 : Nat) : Int) := by omega
          have E9 := Lib.hid e9
          have hup : Hid (∀ j v, v < n → upS t j v < 18446744073709551616) := fun j v hv => Nat.lt_of_lt_of_le (upS_lt (n := 32) (by rw [HN.out]; exact HL.out) j v (by rw [HN.out]; exact hv)) (by decide)
          clear hS hI e9 hlt2 hlt hj d1
          obtain ⟨lf, hlf⟩ : ∃ z : Int, ((2 ^ (lvsL t n).length : Nat) : Int) = z := ⟨_, rfl⟩
          rw [hlf]
          clear hlf
          go_upto_region 16 with fail
          rw [E9.out]
          obtain ⟨wp, rfl⟩ : ∃ x : World, x = wr := ⟨_, rfl⟩
          go_loopw [9] (fun x wr => ∃ i : Nat, i ≤ n - 1 ∧ x = .int .i64 i ∧ Hid (Blk wr g (ofF n (fun v => .int .u64 (upS t (n - 1 - i) v : Nat))) 61) ∧ Hid (Below W.heap.size W wr)) (fun x _ => (intOf x).toNat)
          case atStart => exact ⟨n - 1, by omega, rfl, by rw [Nat.sub_self]; exact hS2, hB⟩
          case round =>
            clear hS2 hB hX3
            obtain ⟨i, hi, rfl, hS, hB⟩ := hrel
            have hX3 : wr.cell? ⟨X, 0, none⟩ = some (.slice (some ⟨b, o, none⟩) n c) := (hB.out.cell (p := ⟨X, 0, none⟩) (by rw [← HG.out]; exact hXl)).trans HX0.out
            by_cases hi0 : 0 < i
            · have d1 : decide (0 < i) = true := by simpa using hi0
              obtain ⟨b', o', e', _, hc'⟩ := rdNd HR.out (by rw [HN.out]; omega)
              have G := (hc' i (by rw [HN.out]; omega)).1
              obtain rfl := (Addr.mk.inj (Option.some.inj e')).1
              obtain rfl := (Addr.mk.inj (Option.some.inj e')).2.1
              have G' := (hB.out.cell (p := ⟨b, o + i * 2, none⟩) (by rw [← HG.out]; exact hb)).trans G
              obtain ⟨hp0, hpn⟩ := HP.out i hi0 (by omega)
              obtain ⟨p, hp⟩ : ∃ p : Nat, nP t i = p := ⟨(nP t i).toNat, by omega⟩
              rw [hp] at G' hp0 hpn
              have hpn' : p < n := by omega
              have hin : i < n := by omega
              obtain ⟨j, hj⟩ : ∃ j, n - 1 - i = j := ⟨_, rfl⟩
              have hji : n - 1 - j = i := by omega
              have hj1 : n - 1 - (i - 1) = j + 1 := by omega
              rw [hj] at hS
              have c1 : wr.cell? ⟨g, p, none⟩ = some (.int .u64 (upS t j p : Nat)) := hS.out.getF p hpn'
              have c2 : wr.cell? ⟨g, i, none⟩ = some (.int .u64 (upS t j i : Nat)) := hS.out.getF i hin
              have hx := hup.out j p hpn'
              have hy := hup.out j i hin
              have hbo := bits_or hx hy
              have HST : Hid (∀ v, upS t (j + 1) v = if (p : Int) = (v : Int) then upS t j v ||| upS t j i else upS t j v) := fun v => by rw [upS, HN.out, hji, hp]
              have HJ1 := Lib.hid hj1
              have hf4 : ∀ q, (wr.drewN q).frozen? ⟨g, p, none⟩ = false := fun q => hS.out.free p
              have HBO := Lib.hid hbo
              clear hc' e' G hp hp0 hpn hj hji hj1 hx hy hbo
              obtain ⟨A, hA⟩ : ∃ A, upS t j p = A := ⟨_, rfl⟩
              obtain ⟨B, hB2⟩ : ∃ B, upS t j i = B := ⟨_, rfl⟩
              rw [hA] at c1
              rw [hB2] at c2
              rw [hA, hB2] at HBO
              have HA := Lib.hid hA
              have HB2 := Lib.hid hB2
              clear hA hB2
              go_upto_region 18 with fail
              refine wp_quiet_tail_lit 14 (by kernel_rfl) (by kernel_rfl) ?_
              simp only [List.take_succ_cons, List.take_zero, List.drop_succ_cons, List.drop_zero]
              repeat (go_big_quiet_step (fail))
              refine wpQuiet_nil ?_
              intro _ hw'
              obtain ⟨nq, hw''⟩ := hw'
              subst hw''
              rw [HBO.out]
              have hfq := hf4 nq
              clear hf4
              go_wp2_with fail
              have hfn : (fun v => if v = p then Value.int .u64 ((A ||| B : Nat) : Int) else Value.int .u64 (upS t j v : Nat)) = fun v => Value.int .u64 (upS t (j + 1) v : Nat) := by
                funext v
                rw [HST.out]
                by_cases e : v = p
                · subst e; rw [if_pos rfl, if_pos rfl, HA.out, HB2.out]
                · rw [if_neg e, if_neg (by omega)]
              have HS2 := Lib.hid ((hS.out.drewN nq).setF p (.int .u64 ((A ||| B : Nat) : Int)))
              rw [hfn] at HS2
              have HB3 := Lib.hid (bl_set (bl_drewN hB.out nq) g p none (.int .u64 ((A ||| B : Nat) : Int)) (by rw [← HG.out]; exact Nat.le_refl _))
              clear hfn hfq
              go_roundw
              case rel => exact ⟨i - 1, by omega, by go_num, by rw [HJ1.out]; exact HS2, HB3⟩
              case measure => simp [intOf]; omega
            · have d1 : decide (0 < i) = false := by simpa using hi0
              have hS9 : Hid (Blk wr g (ofF n (fun v => .int .u64 (cl t v : Nat))) 61) := by
                have h := hS.out
                obtain rfl : i = 0 := by omega
                rw [Nat.sub_zero] at h
                show Blk _ _ _ _
                unfold cl
                rw [HN.out]; exact h
              have hcl : Hid (∀ v, v < n → cl t v < 18446744073709551616) := fun v hv => by
                have := hup.out (t.length - 1) v hv
                exact this
              clear hS hup
              go_upto_region 20 with fail
              refine (wpIn_wide (n := m)).1 ?_
              have hJ0 := HAB.out W wr hB.out HJ.out
              clear E9 hi hi0 d1 hX3
              obtain ⟨wp4, rfl⟩ : ∃ x : World, x = wr := ⟨_, rfl⟩
              gi_loopw [70] (fun x wx => ∃ k : Nat, k ≤ n ∧ x = .int .i64 k ∧ J (ndsL t k) wx ∧ Hid (Blk wx g (ofF n (fun v => .int .u64 (cl t v : Nat))) 61)) (fun x _ => n - (intOf x).toNat)
              case atStart => exact ⟨0, by omega, rfl, hJ0, hS9⟩
              case round =>
                clear hS9 hJ0 hB
                obtain ⟨k, hk, rfl, hJ, hS⟩ := hrel
                by_cases hlt : k < n
                · have c1 : wr.cell? ⟨g, k, none⟩ = some (.int .u64 (cl t k : Nat)) := hS.out.getF k hlt
                  obtain ⟨fn, tmps, assign, body, hy, hR2⟩ := HY.out (ndsL t k) (k, cl t k) wr hlt (hcl.out k hlt) hJ (by rw [ndsL_len]; omega)
                  dsimp only [encQ] at hy
                  have HNX := Lib.hid (ndsL_snoc t k)
                  gi_wp2
                  refine hR2.mono ?_
                  rintro e W3 (⟨rfl, hJ3, hk3⟩ | ⟨rfl, hJx3⟩)
                  · rw [← HNX.out] at hJ3
                    have hS3 := Lib.hid (hk3 g _ _ _ hn0 hS.out)
                    gi_wp2
                    go_roundw
                    case rel => exact ⟨k + 1, by omega, by go_num, hJ3, hS3⟩
                    case measure => simp [intOf]; omega
                  · gi_wp2
                    refine bodyPost_ret (results_none rfl _ _ _) rfl ?_
                    exact ⟨⟨_, rfl⟩, .inr ⟨_, ⟨k, hlt, by rw [HNX.out]⟩, hJx3⟩⟩
                · obtain rfl : k = n := by omega
                  gi_wp2
                  go_end0
                  exact ⟨⟨_, rfl⟩, .inl ⟨_, rfl, hJ⟩⟩
/-- A node's number and a set. -/
abbrev NQ (n : Nat) := Fin n × U64
def qN {n : Nat} (x : NQ n) : Nat × Nat := (x.1.val, x.2.val)
/-- The iterator keeps its word. -/
theorem nodes_stops (m n X n₀ c : Nat) (a : Option Addr) (t : List Nd) (w : World) (hn : t.length = n) (h1 : 1 ≤ n) (h63 : n ≤ 63) (hnc : n ≤ c) (hc : c ≤ 9223372036854775807) (hP : ∀ v, 0 < v → v < n → 0 ≤ nP t v ∧ nP t v < v) (hL : (lvsL t n).length ≤ 32) (hm : 1 ≤ m)
    (hX : w.cell? ⟨X, 0, none⟩ = some (.slice a n c)) (hXl : X < w.heap.size) (hR : Rd w a (fl encNd t)) (hn0 : n₀ ≤ w.heap.size) :
    SeqStopsK Fence.wide m Tryd.prog 71 #[.pointer (some ⟨X, 0, none⟩)] (fun x : NQ n => encQ (qN x)) (KpN n₀) (fun ys => ys.map qN = ndsL t n) (fun ys => ∃ k, k < n ∧ ys.map qN = ndsL t (k + 1)) 64 w := fun l J Jx W hW hA _ hY h0 => by
  refine (nodes1_in m n l X n₀ c a t hn h1 h63 hnc hc hP hL hm (fun l W => ∃ ys : List (NQ n), ys.map qN = l ∧ J ys W) (fun l W => ∃ ys : List (NQ n), ys.map qN = l ∧ Jx ys W) ?_ ?_ W ((hW.cell (p := ⟨X, 0, none⟩) hXl).trans hX) (Nat.lt_of_lt_of_le hXl hW.size) (hR.bl hW) (Nat.le_trans hn0 hW.size) ⟨[], rfl, h0⟩).mono ?_
  · rintro W1 W2 hb ⟨ys, hy, hJ⟩
    exact ⟨ys, hy, hA ys W1 W2 none hJ ⟨hb.os, hb.tape, hb.output, hb.size, fun k hk _ => hb.block k hk⟩ (fun r e => by cases e)⟩
  · rintro pre ⟨x, y⟩ W1 hx hy ⟨ys, rfl, hJ⟩ hl
    obtain ⟨fn, tmps, assign, body, hy1, hR⟩ := hY ys (⟨x, hx⟩, ⟨y, hy⟩) W1 hJ (by rwa [List.length_map] at hl)
    refine ⟨fn, tmps, assign, body, hy1, hR.mono ?_⟩
    rintro e W' (⟨he, hJ', hk⟩ | ⟨he, hJx⟩)
    · exact .inl ⟨he, ⟨_, by rw [List.map_append]; rfl, hJ'⟩, hk⟩
    · exact .inr ⟨he, _, by rw [List.map_append]; rfl, hJx⟩
  · rintro e W' ⟨he, ⟨ys, rfl, zs, hz, hJ⟩ | ⟨pre, ⟨k, hk, rfl⟩, zs, hz, hJx⟩⟩
    · exact ⟨he, .inl ⟨zs, hz, hJ⟩⟩
    · exact ⟨he, .inr ⟨zs, ⟨k, hk, hz⟩, hJx⟩⟩
theorem nodes_any (a : Option Addr) (n c : Nat) (w : World) :
    Calls Tryd.prog 50 #[.slice a n c] w fun e w' => e = .returned (.func (.func 71) #[] #[.pointer (some ⟨w.heap.size, 0, none⟩)]) ∧ w' = w.alloc (.cells #[.slice a n c] 27) := by
  go_enter Tryd.func50, Tryd.ntmps50
  go_wp2
  go_ret
  exact ⟨rfl, rfl⟩
end Go.Proofs.YtnabbmdhhddfbaaDoor
