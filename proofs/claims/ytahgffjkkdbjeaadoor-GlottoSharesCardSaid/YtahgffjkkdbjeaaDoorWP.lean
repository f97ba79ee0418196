/- glotto.plant: what is below a node is added, in preorder. -/
import Derived.Test.YtahgffjkkdbjeaaDoorPT
import Derived.Test.YtahgffjkkdbjeaaDoorQH
import Derived.Test.YtahgffjkkdbjeaaDoorWQ
import Derived.Test.YtahgffjkkdbjeaaDoorWO
namespace Go.Proofs.YtahgffjkkdbjeaaDoor
open Go.RowKit
/-- Only the planter's block and new ones differ; the planter holds the nodes o. -/
structure PlJ (W0 : World) (PB : Nat) (na bv : Value) (o : List Nd) (W : World) : Prop where
  but : But PB W0 W
  row : ∃ ov, Blk W PB #[na, bv, ov] 118 ∧ W.ownsRow W0.heap.size 66 2 ov o.length (fl encNd o)
theorem Rd.but {g : Nat} {w w' : World} {b o : Nat} {cs : List Value} (h : Rd w (some ⟨b, o, none⟩) cs) (hb : But g w w') (hne : b ≠ g) : Rd w' (some ⟨b, o, none⟩) cs := by
  intro h0
  obtain ⟨b', off, e, hlt, hc⟩ := h h0
  simp only [Option.some.injEq, Addr.mk.injEq, and_true] at e
  obtain ⟨rfl, rfl⟩ := e
  exact ⟨b, o, rfl, Nat.lt_of_lt_of_le hlt hb.size, fun i hi => (hb.cell hlt hne).trans (hc i hi)⟩
/-- It is read of a, and not in block g. -/
def RdN (g : Nat) (w : World) (a : Option Addr) (cs : List Value) : Prop := 0 < cs.length → ∃ b o, a = some ⟨b, o, none⟩ ∧ b ≠ g ∧ Rd w (some ⟨b, o, none⟩) cs
theorem RdN.but {g : Nat} {w w' : World} {a : Option Addr} {cs : List Value} (h : RdN g w a cs) (hb : But g w w') : Rd w' a cs := by
  intro h0
  obtain ⟨b, o, rfl, hne, hr⟩ := h h0
  exact hr.but hb hne h0
set_option maxRecDepth 100000 in
set_option maxHeartbeats 4000000 in
theorem plant_any (W0 : World) (PB n c N bc : Nat) (na ba : Option Addr) (names : List ByteArray) (bel : List Fr) (hln : names.length = n) (hlb : bel.length = N) (hnm : RdN PB W0 na (fl encS names)) (hbl : RdN PB W0 ba (fl encFr bel)) (hok : BelOk n bel) (hN : N ≤ 30) (hn : n ≤ 1000000) (hP : PB < W0.heap.size) :
    ∀ (f : Nat) (up k : Int) (o : List Nd) (W : World), 0 < f → k + 1 < f → k < N → -1 - (n : Int) < k → f ≤ 31 → o.length + 2 ^ f < 5000000000000 → PlJ W0 PB (.slice na n c) (.slice ba N bc) o W →
      Calls Tryd.prog 70 #[.pointer (some ⟨PB, 0, none⟩), .int .i64 up, .int .i64 k] W fun e W' => e = .returned (.tuple #[]) ∧ PlJ W0 PB (.slice na n c) (.slice ba N bc) (o ++ plantL (nmOf names) bel f up k o.length) W' := by
  have HH := Lib.hid (And.intro hln (And.intro hlb (And.intro hnm (And.intro hbl hok))))
  clear hln hlb hnm hbl hok
  intro f
  induction f with
  | zero => intro up k o W h0; omega
  | succ f ih =>
    intro up k o W _ h1 h2 h3 h4 h5 hJ
    have IH := Lib.hid ih
    clear ih
    obtain ⟨hbut, ov, prow, own⟩ := hJ
    obtain ⟨va, vcap, rfl, hva⟩ := owns_slice own
    have hsz := hbut.size
    obtain ⟨L, hL⟩ : ∃ L, o.length = L := ⟨_, rfl⟩
    rw [hL] at h5 own prow
    rw [hL]
    have HL := Lib.hid hL
    clear hL
    have p2 : W.cell? ⟨PB, 2, none⟩ = some (.slice va L vcap) := prow.cell 2
    have p1 : W.cell? ⟨PB, 1, none⟩ = some (.slice ba N bc) := prow.cell 1
    have pf := prow.free 2
    have hne : (Value.slice va L vcap).ownBlock ≠ some PB := fun e => by
      have := (own.lt PB e).1
      omega
    have hpow : 0 < 2 ^ f := Nat.pow_pos (by omega)
    rw [Nat.pow_succ] at h5
    have hcall := fun n' => name_any PB n c na names (.slice ba N bc) (.slice va L vcap) k (W.drewN n') HH.out.1 (prow.drewN n') ((HH.out.2.2.1.but hbut).drewN n') (by omega) (by omega) (by omega) (by omega)
    have HC := Lib.hid hcall
    clear hcall
    have hq := fun s => keep_cell p2 (.cells #[.int .i64 up, .string s] 66)
    have HQ := Lib.hid hq
    clear hq
    go_enter Tryd.func70, Tryd.ntmps70
    go_wp2_with fail
    refine wp_region_order (S := fun w' => w'.cell? ⟨PB, 2, none⟩ = some (.slice va L vcap)) 12 [0,1,2,3,4,5,6,7] [8,9,10,11] (by kernel_rfl) (by kernel_rfl) p2 ?_
    iterate 8 (refine headT_cons (by rfl) (by rfl) (by intro w hSw; go_simp; try rfl) ?_; try simp only [Act.put, List.setIfInBounds_toArray, List.set_cons_zero, List.set_cons_succ])
    refine headT_nil ?_
    refine midT_cons (by rfl) (fun K hK => ?_)
    rw [if_pos (by rfl)]
    go_simp
    refine (HC.out 1).mono ?_
    rintro e w' ⟨rfl, rfl⟩
    generalize hs : nmOf names k = s
    have HS := Lib.hid hs
    clear hs
    refine hK.out _ _ p2 (fun _ => ?_)
    clear hK K
    try simp only [Act.put, List.setIfInBounds_toArray, List.set_cons_zero, List.set_cons_succ]
    refine midT_cons (by rfl) (fun K hK => ?_)
    rw [if_pos (by rfl)]
    go_simp
    refine hK.out _ _ p2 (fun _ => ?_)
    clear hK K
    try simp only [Act.put, List.setIfInBounds_toArray, List.set_cons_zero, List.set_cons_succ]
    refine midT_cons (by rfl) (fun K hK => ?_)
    rw [if_pos (by rfl)]
    go_simp
    refine hK.out _ _ (HQ.out s) (fun _ => ?_)
    clear hK K
    try simp only [Act.put, List.setIfInBounds_toArray, List.set_cons_zero, List.set_cons_succ]
    refine midT_cons (by rfl) (fun K hK => ?_)
    refine spush_Nd (by rfl) (.tmp 16) (.tmp 22) (by rfl) W0.heap.size (.slice va L vcap) o L (by exact HL.out.symm) (by rfl) (by exact own.alloc _) W.heap.size 1 (up, s) (by rfl) (by exact Blk.new W _ _) (by omega) (by simp; omega) ?_
    intro g8 cap8 w8 h8 hg8 h8c h8d
    have hg9 : (W.alloc (.cells #[.int .i64 up, .string s] 66)).grownBy w8 (Value.slice va L vcap).ownBlock := ⟨hg8.os, hg8.tape, hg8.output, hg8.size, hg8.block⟩
    have k0 := far_cell hg9 p2 hne
    have k1 := far_cell hg9 p1 hne
    have kf := far_free hg9 prow.lt pf hne
    refine hK.out _ _ k0 (fun _ => ?_)
    clear hK K
    try simp only [Act.put, List.setIfInBounds_toArray, List.set_cons_zero, List.set_cons_succ]
    refine midT_nil ?_
    simp only [List.drop_succ_cons, List.drop_zero]
    go_wp2_with fail
    refine NoPanic.normal ?_
    have hb8 : But PB W0 ((w8).setCell ⟨PB, 2, none⟩ (.slice (some ⟨g8, 0, none⟩) (L + 1) cap8)) := (show But PB W0 w8 from ⟨hg9.os.trans hbut.os, hg9.tape.trans hbut.tape, hg9.output.trans hbut.output, by have := hg9.size; simp at this; omega, fun i hi hne => (hg9.block i (by simp; omega) (fun e => by have := (own.lt i e.symm).1; omega)).trans ((Below.heap_alloc W _ i (by omega)).trans (hbut.block i hi hne))⟩).set _ _
    have hPB : (Value.slice (some ⟨g8, 0, none⟩) (L + 1) cap8).ownBlock ≠ some PB := fun e => by
      have e2 : g8 = PB := by simpa [Value.ownBlock] using e
      rcases h8c with h | h
      · have := own.lt g8 h; omega
      · simp at h; omega
    have row8 : Blk (w8.setCell ⟨PB, 2, none⟩ (.slice (some ⟨g8, 0, none⟩) (L + 1) cap8)) PB #[.slice na n c, .slice ba N bc, .slice (some ⟨g8, 0, none⟩) (L + 1) cap8] 118 := by
      have := ((prow.alloc (.cells #[.int .i64 up, .string s] 66)).grown hg9 (Ne.symm hne)).set 2 (.slice (some ⟨g8, 0, none⟩) (L + 1) cap8)
      simpa using this
    have own8 := owns_other h8 PB 2 (.slice (some ⟨g8, 0, none⟩) (L + 1) cap8) hPB
    clear k0 k1 kf hg9 hg8 h8 h8c h8d hPB own prow p2 p1 pf hne HQ HC hbut hsz
    generalize w8.setCell ⟨PB, 2, none⟩ (.slice (some ⟨g8, 0, none⟩) (L + 1) cap8) = wx at *
    have c1 : wx.cell? ⟨PB, 1, none⟩ = some (.slice ba N bc) := row8.cell 1
    have c2 : wx.cell? ⟨PB, 2, none⟩ = some (.slice (some ⟨g8, 0, none⟩) (L + 1) cap8) := row8.cell 2
    by_cases hk : k < 0
    · have e := Lib.hid (show plantL (nmOf names) bel (f + 1) up k L = [(up, nmOf names k)] by rw [plantL, if_pos hk])
      go_wp2_with fail
      refine bodyPost_ret (v := .tuple #[]) (by simp [results, Tryd.results70, go_sem]) rfl ⟨rfl, ?_⟩
      rw [e.out, HS.out]
      exact ⟨hb8, ⟨_, row8, by rw [List.length_append, HL.out]; exact own8⟩⟩
    · obtain ⟨j, rfl⟩ : ∃ j : Nat, k = j := ⟨k.toNat, by omega⟩
      obtain ⟨b, o1, rfl, hbne, hrb⟩ := HH.out.2.2.2.1 (by rw [fl_length encFr_len, HH.out.2.1]; omega)
      obtain ⟨b2, o2, eb, _, hcb⟩ := rdFr (hrb.but hb8 hbne) (by rw [HH.out.2.1]; omega)
      obtain ⟨g0, g1⟩ := hcb j (by rw [HH.out.2.1]; omega)
      simp only [Option.some.injEq, Addr.mk.injEq, and_true] at eb
      obtain ⟨rfl, rfl⟩ := eb
      clear hcb
      generalize hX : fN bel j = X at *
      generalize hY : fD bel j = Y at *
      have HX := Lib.hid (And.intro hX hY)
      clear hX hY
      have i0 : ∀ w, (Instr.index 120 (.agg #[.int .i64 X, .int .i64 Y]) (.int .i64 0)).run Tryd.prog w = .ok (.int .i64 X) w := fun _ => by kernel_rfl
      have i1 : ∀ w, (Instr.index 120 (.agg #[.int .i64 X, .int .i64 Y]) (.int .i64 1)).run Tryd.prog w = .ok (.int .i64 Y) w := fun _ => by kernel_rfl
      go_wp2_with fail
      have hJ0 := Lib.hid (show PlJ W0 PB (.slice na n c) (.slice (some ⟨b, o1, none⟩) N bc) (plAcc (nmOf names) bel f L X Y (o ++ [(up, s)]) 0) wx from ⟨hb8, ⟨_, row8, by rw [plAcc, List.length_append, HL.out]; exact own8⟩⟩)
      have hfin := Lib.hid (plAcc_two (nmOf names) bel f L up j o)
      have hbo := Lib.hid (HH.out.2.2.2.2 j (by rw [HH.out.2.1]; omega))
      clear g0 g1 c1 c2 row8 own8 hb8 hrb
      go_loopw [41, 9] (fun x _ wr => ∃ i : Nat, i ≤ 2 ∧ x = .int .i64 i ∧ PlJ W0 PB (.slice na n c) (.slice (some ⟨b, o1, none⟩) N bc) (plAcc (nmOf names) bel f L X Y (o ++ [(up, s)]) i) wr) (fun x _ _ => 2 - (intOf x).toNat)
      case atStart => exact ⟨0, by omega, rfl, hJ0.out⟩
      case round =>
        obtain ⟨i, hi, rfl, hJ⟩ := hrel
        clear hJ0
        by_cases h0 : i = 0
        · subst h0
          have hc := Lib.hid (IH.out (L : Int) X (o ++ [(up, s)]) wr (by omega) (by have := hbo.out.1.1; rw [HX.out.1] at this; omega) (by have := hbo.out.1.1; rw [HX.out.1] at this; omega) (by have := hbo.out.1.2; rw [HX.out.1] at this; omega) (by omega) (by rw [List.length_append, HL.out]; simp; omega) hJ)
          clear hJ
          go_wp2_with fail
          refine hc.out.mono ?_
          rintro e w7 ⟨rfl, hJ7⟩
          rw [List.length_append, HL.out] at hJ7
          have HJ7 := Lib.hid hJ7
          clear hJ7 hc
          go_wp2_with fail
          go_roundw
          case rel => exact ⟨1, by omega, by go_num, HJ7.out⟩
          case measure => simp [intOf]
        · by_cases h1 : i = 1
          · subst h1
            have hl := plantL_len (nmOf names) bel f L X (L + 1)
            have hc := Lib.hid (IH.out (L : Int) Y (o ++ [(up, s)] ++ plantL (nmOf names) bel f L X (L + 1)) wr (by omega) (by have := hbo.out.2.1; rw [HX.out.2] at this; omega) (by have := hbo.out.2.1; rw [HX.out.2] at this; omega) (by have := hbo.out.2.2; rw [HX.out.2] at this; omega) (by omega) (by rw [List.length_append, List.length_append, HL.out]; simp; omega) hJ)
            clear hJ hl
            go_wp2_with fail
            refine hc.out.mono ?_
            rintro e w7 ⟨rfl, hJ7⟩
            rw [List.length_append, List.length_append, HL.out] at hJ7
            have HJ7 := Lib.hid hJ7
            clear hJ7 hc
            go_wp2_with fail
            go_roundw
            case rel => exact ⟨2, by omega, by go_num, HJ7.out⟩
            case measure => simp [intOf]
          · obtain rfl : i = 2 := by omega
            have HJ := Lib.hid hJ
            clear hJ
            go_wp2_with fail
            go_end0
            refine ⟨rfl, ?_⟩
            rw [← hfin.out, HX.out.1, HX.out.2]
            have := HJ.out
            rw [← HS.out] at this
            exact this
/-- The whole tree is planted. -/
theorem plant_root (W0 : World) (PB n c N bc : Nat) (na ba : Option Addr) (names : List ByteArray) (bel : List Fr) (hln : names.length = n) (hlb : bel.length = N) (hnm : RdN PB W0 na (fl encS names)) (hbl : RdN PB W0 ba (fl encFr bel)) (hok : BelOk n bel) (hN : N ≤ 23) (hn : n ≤ 24) (k : Int) (X : List Nd) (hk : k < N) (hk2 : -1 - (n : Int) < k) (hX : X = plantL (nmOf names) bel 25 (-1) k 0)
    (hP : Blk W0 PB #[.slice na n c, .slice ba N bc, .slice none 0 0] 118) :
    Calls Tryd.prog 70 #[.pointer (some ⟨PB, 0, none⟩), .int .i64 (-1), .int .i64 k] W0 fun e W' => e = .returned (.tuple #[]) ∧ ∃ ov, But PB W0 W' ∧ W'.cell? ⟨PB, 2, none⟩ = some ov ∧ W'.ownsRow W0.heap.size 66 2 ov X.length (fl encNd X) := by
  obtain ⟨o, ho⟩ : ∃ o : List Nd, o = [] := ⟨_, rfl⟩
  have hl : o.length = 0 := by rw [ho]; rfl
  have hx : o ++ plantL (nmOf names) bel 25 (-1) k o.length = X := by rw [hX, hl, ho, List.nil_append]
  have hr : W0.ownsRow W0.heap.size 66 2 (.slice none 0 0) o.length (fl encNd o) := by rw [ho]; exact World.ownsRow_nil _ _ _ _
  have hb : o.length + 2 ^ 25 < 5000000000000 := by rw [hl]; decide
  have h := plant_any W0 PB n c N bc na ba names bel hln hlb hnm hbl hok (by omega) (by omega) hP.lt 25 (-1) k o W0 (by omega) (by omega) hk hk2 (by omega) hb ⟨But.refl _ _, ⟨_, hP, hr⟩⟩
  rw [hx] at h
  refine h.mono ?_
  rintro e W' ⟨he, hb, ov, h1, h2⟩
  exact ⟨he, ov, hb, h1.cell 2, h2⟩
end Go.Proofs.YtahgffjkkdbjeaaDoor
