/- phylo.Largest's recursive closure. -/
import Derived.Test.YtnabbmdhhddfbaaDoorB5
namespace Go.Proofs.YtnabbmdhhddfbaaDoor
open Go Go.RowKit Go.Shelf
def ptP (X : Nat) : Value := .pointer (some ⟨X, 0, none⟩)
/-- Largest's memory: the best list so far, the table, the closure. -/
structure LgS (w : World) (base XB XT XE M : Nat) (a : Option Addr) (N c : Nat) (has best : List Nat) (vb : Value) : Prop where
  bb : Blk w XB #[vb] 38
  bt : Blk w XT #[.int .i64 M, .slice a N c] 24
  be : Blk w XE #[.func (.func 45) #[] #[.pointer (some ⟨XB, 0, none⟩), .pointer (some ⟨XT, 0, none⟩), .pointer (some ⟨XE, 0, none⟩)]] 74
  rb : w.ownsRow base 3 1 vb best.length (fl encI (iN best))
  rd : Rd w a (fl encV has)
  na : 0 < has.length → ∀ b o, a = some ⟨b, o, none⟩ → b < base
  n1 : vb.ownBlock ≠ some XB
  n2 : vb.ownBlock ≠ some XT
  n3 : vb.ownBlock ≠ some XE
  x1 : base ≤ XB
  x2 : base ≤ XT
  x3 : base ≤ XE
  y1 : XT ≠ XB
  y2 : XE ≠ XB
/-- What a call leaves alone. -/
structure KpL (w w' : World) (base XB : Nat) (vl : Value) : Prop where
  blk : ∀ B, B < w.heap.size → B ≠ XB → some B ≠ vl.ownBlock → w'.heap[B]? = w.heap[B]?
  size : w.heap.size ≤ w'.heap.size
  bel : ∀ a : World, Below a.heap.size a w → a.heap.size ≤ base → Below a.heap.size a w'
theorem KpL.refl (w : World) (base XB : Nat) (vl : Value) : KpL w w base XB vl := ⟨fun _ _ _ _ => rfl, Nat.le_refl _, fun _ h _ => h⟩
theorem KpL.of_bl {w w' : World} (h : Below w.heap.size w w') (base XB : Nat) (vl : Value) : KpL w w' base XB vl := ⟨fun B hB _ _ => h.block B hB, h.size, fun a ha _ => bl_trans ha h⟩
theorem KpL.trans {w w1 w2 : World} {base XB : Nat} {vl vl' : Value} (h : KpL w w1 base XB vl) (k : KpL w1 w2 base XB vl') (hv : vl'.ownBlock = vl.ownBlock ∨ ∃ g, vl'.ownBlock = some g ∧ w.heap.size ≤ g) : KpL w w2 base XB vl :=
  ⟨fun B h1 h2 h3 => (k.blk B (Nat.lt_of_lt_of_le h1 h.size) h2 (by
    rcases hv with hv | ⟨g, hv, hg⟩
    · rw [hv]; exact h3
    · rw [hv]; intro e; have := Option.some.inj e; omega)).trans (h.blk B h1 h2 h3), Nat.le_trans h.size k.size, fun a h1 h2 => k.bel a (h.bel a h1 h2) h2⟩
theorem LgS.step {w w' : World} {base XB XT XE M : Nat} {a : Option Addr} {N c : Nat} {has best best' : List Nat} {vb vb' vl : Value} (h : LgS w base XB XT XE M a N c has best vb) (k : KpL w w' base XB vl)
    (hl : ∀ g, vl.ownBlock = some g → base ≤ g) (h2 : vl.ownBlock ≠ some XT) (h3 : vl.ownBlock ≠ some XE) (hb : Blk w' XB #[vb'] 38) (hr : w'.ownsRow base 3 1 vb' best'.length (fl encI (iN best')))
    (n1 : vb'.ownBlock ≠ some XB) (n2 : vb'.ownBlock ≠ some XT) (n3 : vb'.ownBlock ≠ some XE) : LgS w' base XB XT XE M a N c has best' vb' :=
  ⟨hb, (k.blk XT h.bt.lt h.y1 (Ne.symm h2)).trans h.bt, (k.blk XE h.be.lt h.y2 (Ne.symm h3)).trans h.be, hr,
    fun h0 => rd_block h.rd k.size (fun b o e hlt => by
      have h1 : 0 < has.length := by rw [fl_length encV_len] at h0; omega
      exact k.blk b hlt (by have := h.na h1 b o e; have := h.x1; omega) (fun e2 => by have := hl b e2.symm; have := h.na h1 b o e; omega)) h0, h.na, n1, n2, n3, h.x1, h.x2, h.x3, h.y1, h.y2⟩
theorem LgS.bl {w w' : World} {base XB XT XE M : Nat} {a : Option Addr} {N c : Nat} {has best : List Nat} {vb : Value} (h : LgS w base XB XT XE M a N c has best vb) (k : Below w.heap.size w w') : LgS w' base XB XT XE M a N c has best vb :=
  ⟨h.bb.below k, h.bt.below k, h.be.below k, owns_below h.rb k, h.rd.bl k, h.na, h.n1, h.n2, h.n3, h.x1, h.x2, h.x3, h.y1, h.y2⟩
/-- The first number that may go on from L. -/
def frm (L : List Nat) : Nat := if L.length = 0 then 0 else vA L (L.length - 1) + 1
theorem frm_snoc (L : List Nat) (i : Nat) : frm (L ++ [i]) = i + 1 := by
  unfold frm
  rw [if_neg (by simp)]
  simp [vA]
/-- What stands on the way through a call. -/
def ExS (w wx : World) (base XB XT XE M : Nat) (a : Option Addr) (N c : Nat) (has : List Nat) (L : List Nat) (n : Nat) (vl vb : Value) (best' : List Nat) : Prop :=
  ∃ vb1, LgS wx base XB XT XE M a N c has best' vb1 ∧ (vb1 = vb ∨ ∃ g, vb1.ownBlock = some g ∧ w.heap.size ≤ g) ∧ wx.ownsRow base 3 1 vl n (fl encI (iN L)) ∧ KpL w wx base XB vl
theorem ExS.bl {w wx wy : World} {base XB XT XE M : Nat} {a : Option Addr} {N c : Nat} {has L best' : List Nat} {n : Nat} {vl vb : Value} (h : ExS w wx base XB XT XE M a N c has L n vl vb best') (k : Below wx.heap.size wx wy) : ExS w wy base XB XT XE M a N c has L n vl vb best' :=
  let ⟨vb1, h1, h2, h3, h4⟩ := h
  ⟨vb1, h1.bl k, h2, owns_below h3 k, h4.trans (KpL.of_bl k base XB vl) (.inl rfl)⟩
/-- A row in place, behind a call that kept a longer one. -/
theorem own_shrink {w6 w7 : World} {base e g n cap c6 : Nat} {xs ys : List Value} (h : w6.ownsRow base e 1 (.slice (some ⟨g, 0, none⟩) n cap) n xs) (h6 : w6.ownsRow base e 1 (.slice (some ⟨g, 0, none⟩) (n + 1) c6) (n + 1) (xs ++ ys))
    (h7 : w7.ownsRow base e 1 (.slice (some ⟨g, 0, none⟩) (n + 1) c6) (n + 1) (xs ++ ys)) : w7.ownsRow base e 1 (.slice (some ⟨g, 0, none⟩) n cap) n xs := by
  rcases h.2 with ⟨hv, _⟩ | ⟨g1, cap1, cur1, hv1, hb1, hg1, hn1, hm1, hs1, ht1⟩
  · cases hv
  · rcases h6.2 with ⟨hv, _⟩ | ⟨g2, cap2, cur2, hv2, hb2, hg2, hn2, hm2, hs2, ht2⟩
    · cases hv
    · rcases h7.2 with ⟨hv, _⟩ | ⟨g3, cap3, cur3, hv3, hb3, hg3, hn3, hm3, hs3, ht3⟩
      · cases hv
      · cases hv1
        cases hv2
        cases hv3
        rw [hg1] at hg2
        have e1 : cur1 = cur2 := by
          have := Option.some.inj hg2
          injection this
        have e2 : cap = c6 := by rw [← e1, hs1] at hs2; omega
        refine ⟨h.1, .inr ⟨g, cap, cur3, rfl, hb1, hg3, hn1, hm1, by rw [hs3, e2], ?_⟩⟩
        have := congrArg (List.take (n * 1)) ht3
        rw [List.take_take, Nat.min_eq_left (by omega)] at this
        rw [this, ← h.1, List.take_left]
/-- The number behind a pointer. -/
def ptrI (w : World) : Value → Nat
  | .pointer (some a) => match w.cell? a with
    | some v => (intOf v).toNat
    | none => 0
  | _ => 0
theorem ptrI_eq {w : World} {I i : Nat} (h : w.cell? ⟨I, 0, none⟩ = some (.int .i64 i)) : ptrI w (.pointer (some ⟨I, 0, none⟩)) = i := by
  unfold ptrI
  simp only [h]
  simp [intOf]
set_option maxRecDepth 100000 in
set_option maxHeartbeats 4000000 in
theorem ext_any (base XB XT XE M : Nat) (a : Option Addr) (N c : Nat) (has : List Nat) (hN : has.length = N) (hN12 : N ≤ 12) (hF : FitV has) : ∀ (r : Nat) (L : List Nat) (vl : Value) (best : List Nat) (vb : Value) (w : World),
    LgS w base XB XT XE M a N c has best vb → w.ownsRow base 3 1 vl L.length (fl encI (iN L)) → vl.ownBlock ≠ some XB → vl.ownBlock ≠ some XT → vl.ownBlock ≠ some XE → (vb.ownBlock = none ∨ vb.ownBlock ≠ vl.ownBlock) →
    (∀ x, x ∈ L → x < N) → frm L + r = N → L.length + r ≤ N → base ≤ w.heap.size →
    Calls Tryd.prog 45 #[vl, .pointer (some ⟨XB, 0, none⟩), .pointer (some ⟨XT, 0, none⟩), .pointer (some ⟨XE, 0, none⟩)] w fun e w' => e = .returned (.tuple #[]) ∧ ExS w w' base XB XT XE M a N c has L L.length vl vb (goB has r L (updL best L)) := by
  intro r
  induction r using Nat.strongRecOn with
  | _ r ih =>
  intro L vl best vb w hS hown v1 v2 v3 hdis hLN hfr hLr hbw
  have IH := Lib.hid ih
  have HS := Lib.hid hS
  have HOW := Lib.hid hown
  have HV1 := Lib.hid v1
  have HV2 := Lib.hid v2
  have HV3 := Lib.hid v3
  have HD := Lib.hid hdis
  have HLN := Lib.hid hLN
  have HFR := Lib.hid hfr
  have HF := Lib.hid hF
  have HN := Lib.hid hN
  obtain ⟨A, cap, rfl, hA⟩ := owns_slice hown
  obtain ⟨Ab, cb, rfl, hAb⟩ := owns_slice hS.rb
  have c1 : w.cell? ⟨XB, 0, none⟩ = some (.slice Ab best.length cb) := hS.bb.cell 0
  have hLl : L.length ≤ 12 := by omega
  have hbl : best.length ≤ 9223372036854775807 := by
    rcases hS.rb.2 with ⟨_, e⟩ | ⟨g, cp, cur, e1, _, _, e2, e3, _⟩
    · omega
    · unfold maxLen at e3; omega
  have HRB := Lib.hid (rd_of_owns hown)
  clear ih hS hown v1 v2 v3 hdis hLN hfr hF hN
  obtain ⟨n, hn⟩ : ∃ n, n = L.length := ⟨_, rfl⟩
  obtain ⟨nb, hnb⟩ : ∃ n, n = best.length := ⟨_, rfl⟩
  obtain ⟨FIN, hFIN⟩ : ∃ x, x = goB has r L (updL best L) := ⟨_, rfl⟩
  have HNL := Lib.hid hn
  have HNB := Lib.hid hnb
  have HFIN := Lib.hid hFIN
  rw [← hn] at hA hLl hLr HOW HV1 HV2 HV3 HD ⊢
  rw [← hnb] at c1 hAb hbl HS HD ⊢
  rw [← hFIN]
  clear hFIN hn hnb
  go_enter Tryd.func45, Tryd.ntmps45
  go_upto_if 11 with fail
  go_cut [13] (fun _ wx => ExS w wx base XB XT XE M a N c has L n (.slice A n cap) (.slice Ab nb cb) (updL best L))
  case first =>
    by_cases hlt : nb < n
    · have d1 : decide (nb < n) = true := by simpa using hlt
      obtain ⟨g, hg1, hg2, rfl⟩ := hA.resolve_left (by omega)
      have hc : Hid (Calls Tryd.prog 46 #[.slice (some ⟨g, 0, none⟩) n cap] w fun e w' => ∃ v', e = .returned v' ∧ w'.ownsRow w.heap.size 3 1 v' n (fl encI (iN L)) ∧ v' ≠ .slice none 0 0 ∧ Below w.heap.size w w') := by
        have hz : (iN L).length = n := by rw [iN_len, ← HNL.out]
        refine (Tryd.slices_Clone_int g 0 n cap (iN L) w (by omega) (by omega) ?_).mono ?_
        · intro j hj
          obtain ⟨b, o, e, _, hc⟩ := rdI HRB.out (by omega)
          have e2 := Option.some.inj e
          have e3 := (Addr.mk.inj e2).1
          have e4 := (Addr.mk.inj e2).2.1
          have := hc j hj
          rw [← e3, ← e4] at this
          exact this
        · rintro e w' ⟨v', h1, h2, h3, h4⟩
          refine ⟨v', h1, ?_, h3, h4⟩
          have e : (iN L).take n = iN L := List.take_of_length_le (by omega)
          rw [e] at h2
          have e2 : (iN L).map (Value.int .i64) = fl encI (iN L) := by
            generalize iN L = zs
            induction zs with
            | nil => rfl
            | cons z zs ih => simp only [List.map_cons, ih]; rfl
          rw [← e2]; exact h2
      clear hAb
      go_wp2_with fail
      refine hc.out.mono ?_
      rintro e w1 ⟨v', rfl, ho, hnn, hb⟩
      have hb1 := HS.out.bb.below hb
      have f1 : w1.cell? ⟨XB, 0, none⟩ = some (.slice Ab nb cb) := hb1.cell 0
      have fr1 : w1.frozen? ⟨XB, 0, none⟩ = false := hb1.free 0
      obtain ⟨g', cap', rfl, hg3, hg4⟩ := ho.form (by omega)
      have HO := Lib.hid ho
      have HB := Lib.hid hb
      have HB1 := Lib.hid hb1
      clear ho hb hb1 hnn c1
      go_wp2_with fail
      go_meet
      have hu : updL best L = L := by unfold updL; rw [if_pos (by rw [← HNB.out, ← HNL.out]; exact hlt)]
      rw [hu]
      have hxb := HS.out.bb.lt
      have hxt := HS.out.bt.lt
      have hxe := HS.out.be.lt
      have ho2 : (w1.setCell ⟨XB, 0, none⟩ (.slice (some ⟨g', 0, none⟩) n cap')).ownsRow base 3 1 (.slice (some ⟨g', 0, none⟩) n cap') L.length (fl encI (iN L)) := by
        rw [← HNL.out]
        exact ownsRow_setCell_other (a := ⟨XB, 0, none⟩) (owns_mono HO.out hbw) (own_ne (X := XB) (by omega)) _
      have hk : KpL w (w1.setCell ⟨XB, 0, none⟩ (.slice (some ⟨g', 0, none⟩) n cap')) base XB (.slice (some ⟨g, 0, none⟩) n cap) :=
        ⟨fun B h1 h2 _ => (Below.heap_setCell _ _ _ B h2).trans (HB.out.block B h1), by simp [World.setCell]; exact HB.out.size, fun a h1 h2 => bl_set (bl_trans h1 HB.out) _ _ _ _ (by have := HS.out.x1; omega)⟩
      refine ⟨_, HS.out.step hk (fun q hq => by have := Option.some.inj (show some g = some q from hq); omega) HV2.out HV3.out (HB1.out.set 0 _) ho2 (own_ne (by omega)) (own_ne (by omega)) (own_ne (by omega)), .inr ⟨g', rfl, hg3⟩, ?_, hk⟩
      have h9 := owns_below HOW.out HB.out
      exact ownsRow_setCell_other (a := ⟨XB, 0, none⟩) h9 HV1.out _
    · have d1 : decide (nb < n) = false := by simpa using hlt
      go_wp2_with fail
      go_meet
      have hu : updL best L = best := by unfold updL; rw [if_neg (by rw [← HNB.out, ← HNL.out]; exact hlt)]
      rw [hu]
      exact ⟨_, HS.out, .inl rfl, HOW.out, KpL.refl _ _ _ _⟩
  case rest =>
    have HVW := Lib.hid HOW.out.lt
    have hXBw := HS.out.bb.lt
    clear HS HOW hAb c1
    obtain ⟨vb1, hS1, hv1, how1, hk1⟩ := hcut
    go_upto_if 16 with fail
    go_cut [5] (fun s wx => s = .int .i64 (frm L) ∧ wx = wc)
    case first =>
      by_cases h0 : n = 0
      · have hf : Hid (frm L = 0) := by show _ = _; unfold frm; rw [if_pos (by rw [← HNL.out]; exact h0)]
        have d1 : decide (0 < n) = false := by simp; omega
        subst h0
        go_wp2_with fail
        go_meet
        exact ⟨by rw [hf.out]; rfl, rfl⟩
      · have hf : Hid (frm L = vA L (n - 1) + 1) := by show _ = _; unfold frm; rw [if_neg (by rw [← HNL.out]; exact h0), ← HNL.out]
        have d1 : decide (0 < n) = true := by simp; omega
        have hn0 : 0 < n := by omega
        have HR1 := rd_of_owns how1
        obtain ⟨b, o, rfl, hb, hc⟩ := rdI HR1 (by rw [iN_len, ← HNL.out]; exact hn0)
        have G := hc (n - 1) (by rw [iN_len, ← HNL.out]; omega)
        rw [iN_get] at G
        have hx : vA L (n - 1) < N := HLN.out _ (by rw [vA_get (by rw [← HNL.out]; omega)]; exact List.getElem_mem _)
        clear hc HR1
        generalize vA L (n - 1) = z at *
        have e : ((n : Int) - 1) = ((n - 1 : Nat) : Int) := by omega
        have e2 : ((n : Int) - 1).toNat = n - 1 := by omega
        have e3 : 0 ≤ (n : Int) - 1 := by omega
        have e4 : (n : Int) - 1 < n := by omega
        clear e
        go_wp2_with fail
        go_meet
        exact ⟨by rw [hf.out]; go_num, rfl⟩
    case rest =>
      obtain ⟨rfl, rfl⟩ := hcut
      have hEX : ExS w wc base XB XT XE M a N c has L n (.slice A n cap) (.slice Ab nb cb) (updL best L) := ⟨vb1, hS1, hv1, how1, hk1⟩
      have HEX := Lib.hid hEX
      clear hEX hS1 hv1 how1 hk1
      obtain ⟨f, hf⟩ : ∃ f, f = frm L := ⟨_, rfl⟩
      rw [← hf] at HFR ⊢
      have HFL := Lib.hid hf
      have hfN : f ≤ N := by have := HFR.out; omega
      have hwc : w.heap.size ≤ wc.heap.size := by obtain ⟨_, _, _, _, h⟩ := HEX.out; exact h.size
      clear hf
      go_wp2_with fail
      have HX0 := Lib.hid (HEX.out.bl (bl_alloc (Below.refl _ wc) (.cells #[.int .i64 f] 3)))
      have HB0 := Lib.hid (Blk.new wc #[.int .i64 f] 3)
      go_loopw [6] (fun x wr => ∃ i I : Nat, f ≤ i ∧ i ≤ N ∧ x = .pointer (some ⟨I, 0, none⟩) ∧ Hid (Blk wr I #[.int .i64 i] 3) ∧ w.heap.size ≤ I ∧ ∃ best', Hid (ExS w wr base XB XT XE M a N c has L n (.slice A n cap) (.slice Ab nb cb) best') ∧ Hid (goB has (N - i) L best' = FIN)) (fun x wr => N - ptrI wr x)
      case atStart => exact ⟨f, wc.heap.size, Nat.le_refl _, hfN, rfl, HB0, hwc, _, HX0, by show _ = _; rw [HFIN.out]; congr 1; have := HFR.out; omega⟩
      case round =>
        clear HX0 HB0 HEX
        obtain ⟨i, I, hfi, hiN, rfl, hI, hwI, best', hX, hG⟩ := hrel
        have hmI : ptrI wr (.pointer (some ⟨I, 0, none⟩)) = i := ptrI_eq (hI.out.cell 0)
        have HMI := Lib.hid hmI
        clear hmI
        obtain ⟨vb2, hS2, hv2, how2, hk2⟩ := hX.out
        have c0 : wr.cell? ⟨I, 0, none⟩ = some (.int .i64 i) := hI.out.cell 0
        have c1 : wr.cell? ⟨XT, 1, none⟩ = some (.slice a N c) := hS2.bt.cell 1
        by_cases hlt : i < N
        · have hLl2 : (iN L).length = n := by rw [iN_len]; exact HNL.out.symm
          have HCF := Lib.hid (containsI_any 48 (enters_of Tryd.func48 (by kernel_rfl) rfl) #[.pointer (some ⟨XT, 0, none⟩), .pointer (some ⟨I, 0, none⟩)] (fun z => !fitB (vA has z.toNat) (vA has i)) A n cap (iN L) wr hLl2 (by omega) (rd_of_owns how2) (fun j hj W hW => by
            have hk : vA L j < N := HLN.out _ (by rw [vA_get (by rw [← HNL.out]; exact hj)]; exact List.getElem_mem _)
            have h := lg2_any (vA L j) i XT I M a N c has W HN.out (by omega) hk hlt HF.out (hS2.rd.bl hW) (hS2.bt.below hW) (hI.out.below hW)
            rw [iN_get, Int.toNat_natCast]
            exact h.mono fun e w' hh => ⟨hh.1, bl_of_drewN W hh.2⟩))
          have hok : (iN L).any (fun z => !fitB (vA has z.toNat) (vA has i)) = !okL has L i := by
            unfold iN okL
            rw [List.any_map, Bool.eq_iff_iff]
            simp
          rw [hok] at HCF
          have hgo : N - i = (N - (i + 1)) + 1 := by omega
          have HGO : Hid (goB has (N - (i + 1)) L (if okL has L i then goB has (N - (i + 1)) (L ++ [i]) (updL best' (L ++ [i])) else best') = FIN) := by
            have h := hG.out
            rw [hgo, goB, HN.out, show N - (N - (i + 1) + 1) = i by omega] at h
            exact h
          have HS2 := Lib.hid hS2
          have HOW2 := Lib.hid how2
          have HK2 := Lib.hid hk2
          have hXB := hS2.bb.lt
          have hXE := hS2.be.lt
          have hI2 := hI.out.lt
          clear hLl2 hok hgo hG hS2 how2 hk2
          obtain ⟨bo, hbo⟩ : ∃ b, okL has L i = b := ⟨_, rfl⟩
          rw [hbo] at HCF HGO
          clear hbo
          cases bo with
          | false =>
            go_wp2_with fail
            refine HCF.out.mono ?_
            rintro e w3 ⟨rfl, hb3⟩
            have d0 : w3.cell? ⟨I, 0, none⟩ = some (.int .i64 i) := (hI.out.below hb3).cell 0
            have HB3 := Lib.hid hb3
            clear hb3 c0 c1
            go_wp2_with fail
            have hs3 := HB3.out.size
            have HE := Lib.hid ((hX.out.bl HB3.out).bl (bl_alloc (Below.refl _ w3) (.cells #[.int .i64 ((i : Int) + 1)] 3)))
            have HBN : Hid (Blk (w3.alloc (.cells #[.int .i64 ((i : Int) + 1)] 3)) w3.heap.size #[.int .i64 ((i + 1 : Nat) : Int)] 3) := Blk.new w3 #[.int .i64 ((i : Int) + 1)] 3
            go_roundw
            case rel => exact ⟨i + 1, w3.heap.size, by omega, by omega, rfl, HBN, by omega, best', HE, HGO⟩
            case measure => rw [HMI.out, ptrI_eq (i := i + 1) (HBN.out.cell 0)]; omega
          | true =>
            go_wp2_with fail
            refine HCF.out.mono ?_
            rintro e w3 ⟨rfl, hb3⟩
            have d0 : w3.cell? ⟨I, 0, none⟩ = some (.int .i64 i) := (hI.out.below hb3).cell 0
            have d1 : w3.cell? ⟨XE, 0, none⟩ = some (.func (.func 45) #[] #[.pointer (some ⟨XB, 0, none⟩), .pointer (some ⟨XT, 0, none⟩), .pointer (some ⟨XE, 0, none⟩)]) := (HS2.out.be.below hb3).cell 0
            have HS3 := Lib.hid (HS2.out.bl hb3)
            have HOW3 := Lib.hid (owns_below HOW2.out hb3)
            have hs3 := hb3.size
            have HB3 := Lib.hid hb3
            have HI3 := Lib.hid (hI.out.below hb3)
            clear hb3 c0 c1 HCF
            go_upto_region 9 with fail
            refine wp_region_order (S := fun w' => w'.cell? ⟨XE, 0, none⟩ = some (.func (.func 45) #[] #[.pointer (some ⟨XB, 0, none⟩), .pointer (some ⟨XT, 0, none⟩), .pointer (some ⟨XE, 0, none⟩)]) ∧ w'.cell? ⟨I, 0, none⟩ = some (.int .i64 i)) 5 [0,1,2] [3,4] (by kernel_rfl) (by kernel_rfl) ⟨d1, d0⟩ ?_
            iterate 3 (refine headT_cons (by rfl) (by rfl) (by intro w hSw; obtain ⟨s0, s1⟩ := hSw; go_simp; try rfl) ?_; simp only [Act.put, List.setIfInBounds_toArray, List.set_cons_zero, List.set_cons_succ])
            refine headT_nil ?_
            obtain ⟨w4, hw4⟩ : ∃ x, x = w3.drew := ⟨_, rfl⟩
            rw [← hw4]
            have hb4 : Below w3.heap.size w3 w4 := by rw [hw4]; exact bl_drewN (Below.refl _ _) 1
            clear hw4
            refine midT_cons (by rfl) (fun K hK => ?_)
            rw [if_pos (by rfl)]
            go_simp
            have hb5 := bl_alloc hb4 (.cells #[.int .i64 i] 3)
            have hN5 := Blk.new w4 #[.int .i64 i] 3
            obtain ⟨B5, hB5⟩ : ∃ x, x = w4.heap.size := ⟨_, rfl⟩
            have hz5 : (w4.alloc (.cells #[.int .i64 i] 3)).heap.size = B5 + 1 := by rw [hB5]; simp
            have hz4 := hb4.size
            obtain ⟨w5, hw5⟩ : ∃ x, x = w4.alloc (.cells #[.int .i64 i] 3) := ⟨_, rfl⟩
            rw [← hw5] at hb5 hN5 hz5 ⊢
            rw [← hB5] at hN5 hz4 ⊢
            have HB5 := Lib.hid hB5
            clear hw5 hB5
            refine hK.out _ _ ⟨(hb5.cell (p := ⟨XE, 0, none⟩) (show XE < w3.heap.size by omega)).trans d1, (hb5.cell (p := ⟨I, 0, none⟩) (show I < w3.heap.size by omega)).trans d0⟩ (fun _ => ?_)
            clear hK K
            try simp only [Act.put, List.setIfInBounds_toArray, List.set_cons_zero, List.set_cons_succ]
            refine midT_cons (by rfl) (fun K hK => ?_)
            refine spush_I2 rfl (.tmp 37) (.tmp 39) rfl base (.slice A n cap) (iN L) n (by rw [iN_len]; exact HNL.out) rfl (owns_below HOW3.out hb5) _ _ (i : Int) rfl hN5 (by omega) (by omega) ?_
            intro g6 c6 w6 h1 h2 h3 h4 h5
            have HS5 := HS3.out.bl hb5
            have hvw := HVW.out
            have k6 : KpL w5 w6 base XB (.slice A n cap) := ⟨fun B q1 _ q3 => h2.block B q1 q3, h2.size, fun a q1 q2 => bl_grown q1 h2 (fun r hr => by have := (hvw r hr).1; omega)⟩
            have hvb : vb2.ownBlock = none ∨ vb2.ownBlock ≠ (Value.slice A n cap).ownBlock := by
              rcases hv2 with rfl | ⟨g, hg, hg2⟩
              · exact HD.out
              · right; rw [hg]; intro e; have := (hvw g e.symm).2; omega
            have HS6 : LgS w6 base XB XT XE M a N c has best' vb2 := HS5.step k6 (fun g hg => (hvw g hg).1) HV2.out HV3.out (HS5.bb.grown h2 (Ne.symm HV1.out)) (HS5.rb.kept h2 hvb) HS5.n1 HS5.n2 HS5.n3
            have hI6 : Blk w6 I #[.int .i64 i] 3 := (HI3.out.below hb5).grown h2 (fun e => by have := (hvw I e.symm).2; omega)
            have hz6 := h2.size
            have hg6 : (∃ k, (Value.slice A n cap).ownBlock = some k ∧ g6 = k) ∨ g6 = B5 + 1 := by
              rcases h3 with h3 | h3
              · exact .inl ⟨g6, h3, rfl⟩
              · exact .inr (by omega)
            have hlen : (L ++ [i]).length = n + 1 := by rw [List.length_append, ← HNL.out]; rfl
            rw [← iN_snoc] at h1
            have hn1 : (Value.slice (some ⟨g6, 0, none⟩) (n + 1) c6).ownBlock ≠ some XB := own_ne (fun e => by
              rcases hg6 with ⟨k, hk, rfl⟩ | h
              · exact HV1.out (by rw [hk, e])
              · have := HS3.out.bb.lt; omega)
            have hn2 : (Value.slice (some ⟨g6, 0, none⟩) (n + 1) c6).ownBlock ≠ some XT := own_ne (fun e => by
              rcases hg6 with ⟨k, hk, rfl⟩ | h
              · exact HV2.out (by rw [hk, e])
              · have := HS3.out.bt.lt; omega)
            have hn3 : (Value.slice (some ⟨g6, 0, none⟩) (n + 1) c6).ownBlock ≠ some XE := own_ne (fun e => by
              rcases hg6 with ⟨k, hk, rfl⟩ | h
              · exact HV3.out (by rw [hk, e])
              · have := HS3.out.be.lt; omega)
            have hd6 : vb2.ownBlock = none ∨ vb2.ownBlock ≠ (Value.slice (some ⟨g6, 0, none⟩) (n + 1) c6).ownBlock := by
              rcases hvb with hvb | hvb
              · exact .inl hvb
              · right
                intro e
                have e' : vb2.ownBlock = some g6 := e
                rcases hg6 with ⟨k, hk, rfl⟩ | h
                · exact hvb (by rw [e', hk])
                · have := (HS5.rb.lt g6 e').2; omega
            have HC := Lib.hid (IH.out (N - (i + 1)) (by have := HFR.out; omega) (L ++ [i]) (.slice (some ⟨g6, 0, none⟩) (n + 1) c6) best' vb2 w6 HS6 (by rw [hlen]; exact h1) hn1 hn2 hn3 hd6
              (fun x hx => by
                rcases List.mem_append.1 hx with hx | hx
                · exact HLN.out x hx
                · rw [List.mem_singleton.1 hx]; exact hlt) (by rw [frm_snoc]; omega) (by rw [hlen]; have := HFR.out; omega) (by omega))
            have H1 := Lib.hid h1
            have H5 := Lib.hid h5
            have K6 := Lib.hid (((HK2.out.trans (KpL.of_bl HB3.out base XB (.slice A n cap)) (.inl rfl)).trans (KpL.of_bl hb5 base XB (.slice A n cap)) (.inl rfl)).trans k6 (.inl rfl))
            have HG6 := Lib.hid hg6
            have HI6 := Lib.hid hI6
            refine hK.out _ _ ⟨HS6.be.cell 0, hI6.cell 0⟩ (fun _ => ?_)
            clear hK K h1 h2 h3 h5 hN5 d0 d1 k6 hd6 hn1 hn2 hn3 hvb HS5 HS6 hI6 hvw hg6 hb4 hb5
            try simp only [Act.put, List.setIfInBounds_toArray, List.set_cons_zero, List.set_cons_succ]
            refine midT_nil ?_
            simp only [List.drop_succ_cons, List.drop_zero]
            go_wp2_with fail
            refine HC.out.mono ?_
            rintro e w7 ⟨rfl, vb3, hS7, hv3, how7, hk7⟩
            have hvw := HVW.out
            have hw6 : w.heap.size ≤ w6.heap.size := K6.out.size
            have hI7 : Blk w7 I #[.int .i64 i] 3 := (hk7.blk I HI6.out.lt (by omega) (fun e => by
              have e' : some I = some g6 := e
              have := Option.some.inj e'
              rcases HG6.out with ⟨k, hk, rfl⟩ | h
              · have := (hvw _ hk).2; omega
              · omega)).trans HI6.out
            have how : w7.ownsRow base 3 1 (.slice A n cap) n (fl encI (iN L)) := by
              rw [hlen] at how7
              rcases HG6.out with ⟨k, hk, rfl⟩ | h
              · obtain ⟨b, o, hA2⟩ : ∃ b o, A = some ⟨b, o, none⟩ := by
                  rcases H5.out.2 with ⟨e, _⟩ | ⟨g, cp, cur, e, _⟩
                  · rw [e] at hk; cases hk
                  · cases e; exact ⟨g, 0, rfl⟩
                subst hA2
                have e1 : b = g6 := Option.some.inj (show some b = some g6 from hk)
                subst e1
                have ho : o = 0 := by
                  rcases H5.out.2 with ⟨e, _⟩ | ⟨g, cp, cur, e, _⟩
                  · cases e
                  · cases e; rfl
                subst ho
                have h1 := H1.out
                rw [iN_snoc, fl_snoc] at h1 how7
                exact own_shrink H5.out h1 how7
              · refine ⟨H5.out.1, ?_⟩
                rcases H5.out.2 with e | ⟨g, cp, cur, e, e1, e2, e3⟩
                · exact .inl e
                · refine .inr ⟨g, cp, cur, e, e1, ?_, e3⟩
                  rw [hk7.blk g (H5.out.lt g (by rw [e]; rfl)).2 (fun e4 => HV1.out (by rw [e, e4]; rfl)) (fun e4 => by
                    have e5 : some g = some g6 := e4
                    have := Option.some.inj e5
                    have := (hvw g (by rw [e]; rfl)).2
                    omega)]
                  exact e2
            have hk : KpL w w7 base XB (.slice A n cap) := K6.out.trans hk7 (by
              rcases HG6.out with ⟨k, hk, rfl⟩ | h
              · left; rw [hk]; rfl
              · right; exact ⟨g6, rfl, by have := K6.out.size; have := HK2.out.size; have := hwc; omega⟩)
            have hv : vb3 = .slice Ab nb cb ∨ ∃ g, vb3.ownBlock = some g ∧ w.heap.size ≤ g := by
              rcases hv3 with rfl | ⟨g, h1, h2⟩
              · exact hv2
              · exact .inr ⟨g, h1, by omega⟩
            have HE7 : Hid (ExS w w7 base XB XT XE M a N c has L n (.slice A n cap) (.slice Ab nb cb) (goB has (N - (i + 1)) (L ++ [i]) (updL best' (L ++ [i])))) := ⟨vb3, hS7, hv, how, hk⟩
            have HI7 := Lib.hid hI7
            have c0' : w7.cell? ⟨I, 0, none⟩ = some (.int .i64 i) := hI7.cell 0
            have hs7 := Lib.hid hk7.size
            clear hS7 hv how hk hI7 how7 hk7 hv3 hvw
            go_wp2_with fail
            refine NoPanic.normal ?_
            go_wp2_with fail
            have hs8 := hs7.out
            have HE := Lib.hid (HE7.out.bl (bl_alloc (Below.refl _ w7) (.cells #[.int .i64 ((i : Int) + 1)] 3)))
            have HBN : Hid (Blk (w7.alloc (.cells #[.int .i64 ((i : Int) + 1)] 3)) w7.heap.size #[.int .i64 ((i + 1 : Nat) : Int)] 3) := Blk.new w7 #[.int .i64 ((i : Int) + 1)] 3
            have HG2 : Hid (goB has (N - (i + 1)) L (goB has (N - (i + 1)) (L ++ [i]) (updL best' (L ++ [i]))) = FIN) := by
              have h := HGO.out
              first | rw [if_pos rfl] at h; exact h | (rw [if_pos trivial] at h; exact h)
            go_roundw
            case rel => exact ⟨i + 1, w7.heap.size, by omega, by omega, rfl, HBN, by omega, _, HE, HG2⟩
            case measure => rw [HMI.out, ptrI_eq (i := i + 1) (HBN.out.cell 0)]; omega
        · obtain rfl : i = N := by omega
          have hfin : Hid (best' = FIN) := by
            have h := hG.out
            rw [Nat.sub_self, goB] at h
            exact h
          rw [hfin.out] at hX
          go_wp2_with fail
          go_end0
          exact ⟨rfl, hX.out⟩
end Go.Proofs.YtnabbmdhhddfbaaDoor
