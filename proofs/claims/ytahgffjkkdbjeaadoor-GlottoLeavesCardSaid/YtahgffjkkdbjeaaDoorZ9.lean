/- glotto.Merges at every input. -/
import Derived.Deep.MidRow
import Derived.Laws.EntriesVeiled
import Derived.Deep.LoopGhost
import Derived.Deep.RegionHeld3
import Derived.Test.YtahgffjkkdbjeaaDoorZ8
import Derived.Test.YtahgffjkkdbjeaaDoorZ3
namespace Go.Proofs.YtahgffjkkdbjeaaDoor
open Go.RowKit Go.Shelf
attribute [local go_sem] Oper.semAt_some
theorem Blk.setCells {B n : Nat} {t : TypeId} : ∀ (vs : List Value) (w : World) (o : Nat) (h : Nat → Value), Blk w B (ofF n h) t → Blk (w.setCells B o vs) B (ofF n fun i => if o ≤ i ∧ i < o + vs.length then vs.getD (i - o) undef else h i) t
  | [], w, o, h, hb => by
    have e : (fun i => if o ≤ i ∧ i < o + ([] : List Value).length then ([] : List Value).getD (i - o) undef else h i) = h := by
      funext i
      rw [if_neg (by simp)]
    rw [e]; exact hb
  | v :: vs, w, o, h, hb => by
    have ih := Blk.setCells vs _ (o + 1) _ (hb.setF o v)
    rw [World.setCells]
    have e : (fun i => if o + 1 ≤ i ∧ i < o + 1 + vs.length then vs.getD (i - (o + 1)) undef else if i = o then v else h i) = (fun i => if o ≤ i ∧ i < o + (v :: vs).length then (v :: vs).getD (i - o) undef else h i) := by
      funext i
      simp only [List.length_cons]
      by_cases e1 : i = o
      · subst e1
        rw [if_neg (by omega), if_pos rfl, if_pos (by omega), Nat.sub_self]; rfl
      · by_cases e2 : o + 1 ≤ i ∧ i < o + 1 + vs.length
        · rw [if_pos e2, if_pos (by omega), show i - o = (i - (o + 1)) + 1 by omega]; rfl
        · rw [if_neg e2, if_neg e1, if_neg (by omega)]
    rw [← e]; exact ih
/-- The cells of a table. -/
def tabL (g : Nat → Nat) : List Value := (List.range 576).map fun t => .int .i64 (g t)
theorem tabL_len (g : Nat → Nat) : (tabL g).length = 576 := by simp [tabL]
theorem tabL_at (g : Nat → Nat) {t : Nat} (h : t < 576) : (tabL g)[t]? = some (.int .i64 (g t)) := by simp [tabL, h]
theorem Cl.setTab {w : World} {B : Nat} {s f g : Nat → Nat} (h : Cl w B s f) : Cl (w.setCells B 24 (tabL g)) B s g := by
  have h2 := Blk.setCells (tabL g) w 24 _ h
  have e : (ofF 600 fun i => if 24 ≤ i ∧ i < 24 + (tabL g).length then (tabL g).getD (i - 24) undef else cg s f i) = ofF 600 (cg s g) := by
    refine ofF_congr fun i hi => ?_
    rw [tabL_len]
    unfold cg
    by_cases h1 : i < 24
    · rw [if_neg (by omega), if_pos h1, if_pos h1]
    · rw [if_pos (by omega), if_neg h1, List.getD_eq_getElem?_getD, tabL_at g (by omega)]; rfl
  rw [e] at h2
  exact h2
theorem dg_range {w : World} {Bd n c : Nat} {g : Nat → Nat} (h : Blk w Bd (ofF 578 (dg n c g)) 89) : w.rangeAt Bd 2 (tabL g) := by
  intro j v hv
  have hj : j < 576 := by have := (List.getElem?_eq_some_iff.1 hv).1; rwa [tabL_len] at this
  rw [tabL_at g hj] at hv
  rw [h.getF (2 + j) (by omega), ← hv, dg, if_neg (by omega), if_neg (by omega), show 2 + j - 2 = j by omega]
theorem Cl.there {w : World} {B : Nat} {s f : Nat → Nat} (h : Cl w B s f) : w.there B 24 576 := fun j hj => ⟨by rw [Blk.getF h (24 + j) (by omega)]; rfl, h.free _⟩
/-- A load of many cells, in a region that is walked in the text's order. -/
theorem quiet_load {P : Program} {ops : Array Oper} {C : World → Prop} {Q : Act → Prop} {a : Act} {o : Oper} {rest : List Oper} (ty : TypeId) (x : Operand) (ho : o.op = .load ty x) (hgd : o.guard = none) (p v : Value) (hx : a.eval x = p)
    (hL : ∀ w, C w → (Instr.loadAt ty p).run P w = .ok v w) (h : wpQuiet P ops C Q rest (a.put o.dst v)) : wpQuiet P ops C Q (o :: rest) a := by
  refine wpQuiet_step fun K hK => ?_
  have hw : Region.wanted o (yielded ops a.tmps) = true := by simp [Region.wanted, hgd]
  rw [if_pos hw]
  refine ⟨v, fun w hw => ?_, hK _ h⟩
  unfold Oper.quietAt execOp
  simp only [ho, hx, Sem.run_bind, Sem.run_pure, Result.andThen_ok, hL w hw]
  exact ⟨rfl, rfl⟩
theorem info87 : (Tryd.prog.info? 87).map (·.size) = some 576 := by kernel_rfl
theorem tabL_one (g : Nat → Nat) : (tabL g).toArray.all (·.oneCell') = true := all_oneCell_toArray fun v hv => by
  obtain ⟨t, _, rfl⟩ := List.mem_map.1 hv
  rfl
theorem But.setCells {g : Nat} : ∀ (vs : List Value) (o : Nat) {a b : World}, But g a b → But g a (b.setCells g o vs)
  | [], _, _, _, h => h
  | v :: vs, o, _, _, h => But.setCells vs (o + 1) (h.set o v)
/-- What is left to be done at the end: the loops over functions that were run. -/
def dfs (Ds : List Nat) : List Deferred := Ds.map fun D => { target := .collected D, args := #[] }
/-- The clustering after k steps. -/
structure MgI (w : World) (m cm : Nat) (g : Nat → Nat) (B Bx C Bd : Nat) (k : Nat) (v : Value) (Ds : List Nat) (W : World) : Prop where
  cl : Cl W B (mRun m cm g k).s (mRun m cm g k).f
  own : W.ownsRow (C + 2) 42 5 v k (fl encMg (mRun m cm g k).l)
  box : Blk W Bx #[.pointer (some ⟨B, 0, none⟩)] 96
  c9 : Blk W C #[.func (.func 54) #[] #[.pointer (some ⟨Bx, 0, none⟩)]] 101
  c10 : Blk W (C + 1) #[.func (.func 55) #[] #[.pointer (some ⟨Bx, 0, none⟩), .pointer (some ⟨C, 0, none⟩)]] 102
  dist : Blk W Bd (ofF 578 (dg m cm g)) 89
  bl : Below w.heap.size w W
  ds : ∀ D ∈ Ds, w.heap.size ≤ D ∧ C + 2 ≤ D ∧ W.heap[D]? = some (.deferred (some []))
  nd : Ds.Nodup
theorem keeps_drewN (W : World) (n : Nat) : KeepsOthers W (W.drewN n) := ⟨Nat.le_refl _, fun _ _ h _ => h⟩
/-- The two numbers of the nearest pair so far. -/
def bij : Option (Nat × Nat) → Int × Int
  | none => (-1, -1)
  | some p => (p.1, p.2)
/-- The two cells of the loop over the pairs. -/
def RnC (H : Nat) (s f : Nat → Nat) (pre : List Two) (W : World) : Prop :=
  W.cell? ⟨H, 0, none⟩ = some (.int .i64 (bij (bestP s f (pre.map toN))).1) ∧ W.frozen? ⟨H, 0, none⟩ = false ∧ W.cell? ⟨H + 1, 0, none⟩ = some (.int .i64 (bij (bestP s f (pre.map toN))).2) ∧ W.frozen? ⟨H + 1, 0, none⟩ = false
theorem rnC_mk {H : Nat} {s f : Nat → Nat} {pre : List Two} {W : World} {u v : Value} (nq : Nat) {p : Nat × Nat} (hb : bestP s f (pre.map toN) = some p) (ci : W.cell? ⟨H, 0, none⟩ = some u) (cj : W.cell? ⟨H + 1, 0, none⟩ = some v) (fi : W.frozen? ⟨H, 0, none⟩ = false) (fj : W.frozen? ⟨H + 1, 0, none⟩ = false) :
    RnC H s f pre (((W.drewN nq).setCell ⟨H, 0, none⟩ (.int .i64 p.1)).setCell ⟨H + 1, 0, none⟩ (.int .i64 p.2)) := by
  have hne : (⟨H + 1, 0, none⟩ : Addr) ≠ ⟨H, 0, none⟩ := fun e => by have := congrArg Addr.block e; simp at this
  have e1 : ((W.drewN nq).setCell ⟨H, 0, none⟩ (.int .i64 p.1)).cell? ⟨H + 1, 0, none⟩ = some v := (World.cell?_setCell_other _ _ _ _ (Ne.symm hne)).trans cj
  have e0 : ((W.drewN nq).setCell ⟨H, 0, none⟩ (.int .i64 p.1)).cell? ⟨H, 0, none⟩ = some (.int .i64 p.1) := World.cell?_setCell_same _ _ _ (u := u) ci
  unfold RnC
  rw [hb]
  refine ⟨(World.cell?_setCell_other _ _ _ _ hne).trans e0, ?_, World.cell?_setCell_same _ _ _ (u := v) e1, ?_⟩
  · rw [World.frozen?_setCell, World.frozen?_setCell]; exact fi
  · rw [World.frozen?_setCell, World.frozen?_setCell]; exact fj
theorem bl_sets5 {a w : World} (h : Below a.heap.size a w) (v0 v1 v2 v3 v4 : Value) : Below a.heap.size a (((((w.setCell ⟨a.heap.size, 0, none⟩ v0).setCell ⟨a.heap.size, 1, none⟩ v1).setCell ⟨a.heap.size, 2, none⟩ v2).setCell ⟨a.heap.size, 3, none⟩ v3).setCell ⟨a.heap.size, 4, none⟩ v4) :=
  bl_set (bl_set (bl_set (bl_set (bl_set h _ _ _ _ (Nat.le_refl _)) _ _ _ _ (Nat.le_refl _)) _ _ _ _ (Nat.le_refl _)) _ _ _ _ (Nat.le_refl _)) _ _ _ _ (Nat.le_refl _)
theorem blk_stored5 {w : World} {B : Nat} {u0 u1 u2 u3 u4 v0 v1 v2 v3 v4 : Value} {t : TypeId} (h : Blk w B #[u0, u1, u2, u3, u4] t) : Blk (((((w.setCell ⟨B, 0, none⟩ v0).setCell ⟨B, 1, none⟩ v1).setCell ⟨B, 2, none⟩ v2).setCell ⟨B, 3, none⟩ v3).setCell ⟨B, 4, none⟩ v4) B #[v0, v1, v2, v3, v4] t := by
  have := ((((h.set 0 v0).set 1 v1).set 2 v2).set 3 v3).set 4 v4
  simpa using this
theorem grown_keep {w10 w11 : World} {o : Obj} {r0 : Option Nat} (h : (w10.alloc o).grownBy w11 r0) {b : Nat} (hb : b < w10.heap.size) (hne : some b ≠ r0) : w11.heap[b]? = w10.heap[b]? :=
  (h.block b (by simp; omega) hne).trans (Below.heap_alloc w10 o b hb)
theorem ex_u {F : (Nat → Value) → Act} {a : Act} {p q r : Prop} (hp : p) (hq : q) (hr : r) (h : a = F (fun j => a.tmps.getD j undef)) : ∃ u, p ∧ q ∧ a = F u ∧ r := ⟨_, hp, hq, h, hr⟩
/-- w' is w, the blocks Ds turned. -/
structure Trn (Ds : List Nat) (w w' : World) : Prop where
  os : w'.os = w.os
  tape : w'.tape = w.tape
  output : w'.output = w.output
  size : w'.heap.size = w.heap.size
  block : ∀ k, k ∉ Ds → w'.heap[k]? = w.heap[k]?
theorem leaves_all {P : Program} {fn : Func} {tmps : Array Value} {R : Ending → World → Prop} : ∀ (Ds : List Nat) (w : World), Ds.Nodup → (∀ D ∈ Ds, w.heap[D]? = some (Obj.deferred (some []))) →
    (∀ w', Trn Ds w w' → ∃ v, (results fn tmps).run P w' = .ok v w' ∧ R (.returned v) w') → LeavesInM Fence.wide 10 P fn tmps R (dfs Ds) .returning w
  | [], w, _, _, h => h w ⟨rfl, rfl, rfl, rfl, fun _ _ => rfl⟩
  | D :: Ds, w, hn, hd, h => by
    have h0 := hd D List.mem_cons_self
    have hlt := (Array.getElem?_eq_some_iff.1 h0).1
    have hg := grownBy_putObj' w D (Obj.deferred none)
    have hD := (List.nodup_cons.1 hn).1
    refine ⟨by simp, .inl ⟨D, _, rfl, run_takeDeferred h0, leaves_all Ds _ (List.nodup_cons.1 hn).2 (fun D' hD' => ?_) fun w' ht => h w' ?_⟩⟩
    · have h1 := hd D' (List.mem_cons_of_mem _ hD')
      exact (hg.block D' (Array.getElem?_eq_some_iff.1 h1).1 (fun e => hD (by rw [← Option.some.inj e]; exact hD'))).trans h1
    · have hz : (w.putObj D (Obj.deferred none)).heap.size = w.heap.size := by simp [World.putObj]
      refine ⟨ht.os.trans hg.os, ht.tape.trans hg.tape, ht.output.trans hg.output, ht.size.trans hz, fun k hk => ?_⟩
      have hk1 : k ≠ D := fun e => hk (by rw [e]; exact List.mem_cons_self)
      have hk2 : k ∉ Ds := fun e => hk (List.mem_cons_of_mem _ e)
      rw [ht.block k hk2]
      by_cases hkl : k < w.heap.size
      · exact hg.block k hkl (fun e => hk1 (Option.some.inj e))
      · rw [Array.getElem?_eq_none (by rw [hz]; omega), Array.getElem?_eq_none (by omega)]
theorem Trn.below {Ds : List Nat} {a w w' : World} {B : Nat} (h : Trn Ds w w') (hb : Below B a w) (hd : ∀ D ∈ Ds, B ≤ D) : Below B a w' :=
  ⟨h.os.trans hb.os, h.tape.trans hb.tape, h.output.trans hb.output, by rw [h.size]; exact hb.size, fun k hk => (h.block k (fun e => by have := hd k e; omega)).trans (hb.block k hk)⟩
theorem Trn.owns {Ds : List Nat} {w w' : World} {base e k : Nat} {v : Value} {n : Nat} {cs : List Value} (h : Trn Ds w w') (hd : ∀ D ∈ Ds, w.heap[D]? = some (Obj.deferred (some []))) (ho : w.ownsRow base e k v n cs) : w'.ownsRow base e k v n cs := by
  refine ⟨ho.1, ?_⟩
  rcases ho.2 with h2 | ⟨g, cap, cur, hv, hg, hh, r⟩
  · exact .inl h2
  · exact .inr ⟨g, cap, cur, hv, hg, (h.block g (fun e => by have := hd g e; rw [hh] at this; cases this)).trans hh, r⟩
theorem rnC_own (H : Nat) (s f : Nat → Nat) : Own (RnC H s f) := fun _ _ _ _ hs hg hr =>
  ⟨cell_kept hs.1 hg hr, (frozen_kept hs.1 hg hr).trans hs.2.1, cell_kept hs.2.2.1 hg hr, (frozen_kept hs.2.2.1 hg hr).trans hs.2.2.2⟩
theorem kp3_b {w : World} {B1 B2 B3 : Nat} (h1 : B1 < w.heap.size) (h2 : B2 < w.heap.size) (h3 : B3 < w.heap.size) (W : World) (l : Nat) (o o' : Obj) (hl : w.heap.size ≤ l) (h : W.heap[l]? = some o) (_ : o.isCells = false) (_ : o.isWalk = false) : Kp3 B1 B2 B3 W (W.putObj l o') := by
  have hlt := (Array.getElem?_eq_some_iff.1 h).1
  have hg := grownBy_putObj' W l o'
  refine ⟨hg.block _ (by omega) ?_, hg.block _ (by omega) ?_, hg.block _ (by omega) ?_⟩ <;> (intro e; have := Option.some.inj e; omega)
def MgPost (w : World) (n : Int) (d : List Fr) (e : Ending) (w' : World) : Prop :=
  Below w.heap.size w w' ∧ ((∃ k, scaledS n d = .error k ∧ e = .returned (.tuple #[.slice none 0 0, .int .i64 k])) ∨
    ∃ (m c : Nat) (v : Value) (g : Nat → Nat), n = (m : Int) ∧ 1 ≤ m ∧ m ≤ 24 ∧ scaledS n d = .ok c ∧ e = .returned (.tuple #[v, .int .i64 0]) ∧ w'.ownsRow w.heap.size 42 5 v (m - 1) (fl encMg (mRun m c g (m - 1)).l) ∧ (∀ i j, i < m → j < m → g (i * 24 + j) = dist d c m i j) ∧ ∀ t, g t ≤ 1073741824)
set_option maxRecDepth 100000 in
set_option maxHeartbeats 4000000 in
theorem merges_any (a : Option Addr) (n : Int) (N c : Nat) (d : List Fr) (w : World) (hn1 : -9223372036854775808 ≤ n) (hn2 : n ≤ 9223372036854775807) (hd : d.length = N) (hN : N ≤ 1152921504606846976) (hA : Rd w a (fl encFr d)) (hok : FitFr d) :
    Calls Tryd.prog 23 #[.int .i64 n, .slice a N c] w (MgPost w n d) := by
  have HD := Lib.hid hd
  have HK := Lib.hid hok
  clear hd hok
  refine (callsIn_wide (n := 10)).1 ?_
  refine callsIn_of_wp_marks Tryd.func23 rfl trivial ?_ rfl
  simp only [Tryd.ntmps23, List.size_toArray, List.length_cons, List.length_nil, Nat.reduceAdd, Nat.reduceSub, Array.replicate_succ, Array.replicate_zero, List.push_toArray, List.append_toArray, List.nil_append, List.cons_append]
  refine wpIn_wide.2 ?_
  go_wp2_with fail
  refine (scaled_any2 a n N c d _ hn1 hn2 HD.out hN hA HK.out).mono ?_
  rintro e w1 ⟨hb1, ⟨k, hk, rfl⟩ | ⟨m, cm, Bd, g, rfl, hm1, hm2, hl, hs, rfl, hB, hblk, hg⟩⟩
  · have hs := Lib.hid hk
    have hk0 := scaled_err_ne hk
    clear hk
    go_wp2_with fail
    exact ⟨_, results_tmp2 rfl _ _ _, hb1, .inl ⟨k, hs.out, rfl⟩⟩
  · have HS := Lib.hid hs
    have HG := Lib.hid hg
    clear hs hg hl
    go_wp2_with fail
    refine (alone_any m _ hm2).mono ?_
    rintro e w2 ⟨rfl, hcl, hb2⟩
    have hbl2 := bl_trans hb1 hb2
    have hblk2 := hblk.below hb2
    obtain ⟨B, hBe⟩ : ∃ B, B = w1.heap.size := ⟨_, rfl⟩
    rw [← hBe] at hcl ⊢
    have hBw : w.heap.size ≤ B := by rw [hBe]; exact hb1.size
    have hBB : Bd < B := by rw [hBe]; exact hblk.lt
    have hl2 := hcl.lt
    clear hBe hblk
    go_upto_region 5 with fail
    have hbox := Blk.new w2 #[.pointer (some ⟨B, 0, none⟩)] 96
    have hcl3 := hcl.alloc (.cells #[.pointer (some ⟨B, 0, none⟩)] 96)
    have hblk3 := hblk2.alloc (.cells #[.pointer (some ⟨B, 0, none⟩)] 96)
    have hbl3 := bl_alloc hbl2 (.cells #[.pointer (some ⟨B, 0, none⟩)] 96)
    obtain ⟨w3, hw3⟩ : ∃ w3, w3 = w2.alloc (.cells #[.pointer (some ⟨B, 0, none⟩)] 96) := ⟨_, rfl⟩
    rw [← hw3] at hbox hcl3 hblk3 hbl3 ⊢
    have hz3 : w3.heap.size = w2.heap.size + 1 := by rw [hw3, World.size_alloc]
    obtain ⟨Bx, hBx⟩ : ∃ Bx, Bx = w2.heap.size := ⟨_, rfl⟩
    rw [← hBx] at hbox hz3 hl2 ⊢
    have hbx : w3.cell? ⟨Bx, 0, none⟩ = some (.pointer (some ⟨B, 0, none⟩)) := hbox.cell 0
    have HZ := Lib.hid hz3
    clear hcl hblk2 hbl2 hw3 hBx hz3
    have hL : ∀ q, (Instr.loadAt 87 (.pointer (some ⟨Bd, 2, none⟩))).run Tryd.prog (w3.drewN q) = .ok (.agg (tabL g).toArray) (w3.drewN q) := fun q =>
      run_loadAt_mid (w3.drewN q) Bd 2 87 (tabL g) _ (dg_range (hblk3.drewN q)) Tryd.underlying87 rfl (by rw [info87, tabL_len])
    obtain ⟨T, hT⟩ : ∃ T, T = tabL g := ⟨_, rfl⟩
    rw [← hT] at hL
    have HT := Lib.hid hT
    clear hT
    refine wp_quiet_tail_lit 5 (by kernel_rfl) (by kernel_rfl) ?_
    simp only [List.take_succ_cons, List.take_zero, List.drop_succ_cons, List.drop_zero]
    iterate 4 (go_big_quiet_step (fail))
    refine quiet_load 87 (.tmp 31) rfl rfl _ _ rfl (fun w hw => by obtain ⟨q, rfl⟩ := hw; exact hL q) ?_
    refine wpQuiet_nil ?_
    intro _ hw'
    obtain ⟨nq, hw''⟩ := hw'
    subst hw''
    clear hL
    go_upto_region 6 with (refine wpList_store_mid rfl 87 (.tmp 34) (.tmp 32) rfl B 24 T.toArray rfl rfl (by rw [HT.out, List.size_toArray, tabL_len]; exact Cl.there (hcl3.drewN nq)) (by rw [HT.out, List.size_toArray, tabL_len]; exact info87) (by rw [HT.out]; exact tabL_one g) ?_)
    go_simp
    have hcl4 : Cl ((w3.drewN nq).setCells B 24 T) B (aloneS m) g := by rw [HT.out]; exact Cl.setTab (hcl3.drewN nq)
    have hbut4 : But B w3 ((w3.drewN nq).setCells B 24 T) := But.setCells T 24 ((But.refl B w3).drewN nq)
    have hbl4 := hbl3.trans (hbut4.below (B := w.heap.size) hbl3.size hBw)
    have hbox4 := hbut4.blk hbox (show Bx ≠ B by omega)
    have hblk4 := hbut4.blk hblk3 (show Bd ≠ B by omega)
    have hsz4 : Bx + 1 ≤ ((w3.drewN nq).setCells B 24 T).heap.size := by have := hbut4.size; have := HZ.out; omega
    obtain ⟨w4, hw4⟩ : ∃ w4, w4 = (w3.drewN nq).setCells B 24 T := ⟨_, rfl⟩
    rw [← hw4] at hcl4 hbl4 hbox4 hblk4 hsz4 ⊢
    clear hw4 hbut4 hcl3 hbl3 hbox hblk3 hbx
    go_upto_region 8 with fail
    have hcl5 := (hcl4.alloc (.cells #[.func (.func 54) #[] #[.pointer (some ⟨Bx, 0, none⟩)]] 101)).alloc (.cells #[.func (.func 55) #[] #[.pointer (some ⟨Bx, 0, none⟩), .pointer (some ⟨w4.heap.size, 0, none⟩)]] 102)
    have hbl5 := bl_alloc (bl_alloc hbl4 (.cells #[.func (.func 54) #[] #[.pointer (some ⟨Bx, 0, none⟩)]] 101)) (.cells #[.func (.func 55) #[] #[.pointer (some ⟨Bx, 0, none⟩), .pointer (some ⟨w4.heap.size, 0, none⟩)]] 102)
    -- LOOPBEGIN
    go_wp2_with fail
    obtain ⟨C, hC⟩ : ∃ C, C = w4.heap.size := ⟨_, rfl⟩
    rw [← hC] at hcl5 hbl5 hsz4 ⊢
    have h9 : Blk ((w4.alloc (.cells #[.func (.func 54) #[] #[.pointer (some ⟨Bx, 0, none⟩)]] 101)).alloc (.cells #[.func (.func 55) #[] #[.pointer (some ⟨Bx, 0, none⟩), .pointer (some ⟨C, 0, none⟩)]] 102)) C #[.func (.func 54) #[] #[.pointer (some ⟨Bx, 0, none⟩)]] 101 := by rw [hC]; exact (Blk.new w4 _ _).alloc _
    have h10 : Blk ((w4.alloc (.cells #[.func (.func 54) #[] #[.pointer (some ⟨Bx, 0, none⟩)]] 101)).alloc (.cells #[.func (.func 55) #[] #[.pointer (some ⟨Bx, 0, none⟩), .pointer (some ⟨C, 0, none⟩)]] 102)) (C + 1) #[.func (.func 55) #[] #[.pointer (some ⟨Bx, 0, none⟩), .pointer (some ⟨C, 0, none⟩)]] 102 := by rw [hC]; exact Blk.new2 w4 _ _ _
    have hbox5 := (hbox4.alloc (.cells #[.func (.func 54) #[] #[.pointer (some ⟨Bx, 0, none⟩)]] 101)).alloc (.cells #[.func (.func 55) #[] #[.pointer (some ⟨Bx, 0, none⟩), .pointer (some ⟨C, 0, none⟩)]] 102)
    have hblk5 := (hblk4.alloc (.cells #[.func (.func 54) #[] #[.pointer (some ⟨Bx, 0, none⟩)]] 101)).alloc (.cells #[.func (.func 55) #[] #[.pointer (some ⟨Bx, 0, none⟩), .pointer (some ⟨C, 0, none⟩)]] 102)
    obtain ⟨w5, hw5⟩ : ∃ w5, w5 = (w4.alloc (.cells #[.func (.func 54) #[] #[.pointer (some ⟨Bx, 0, none⟩)]] 101)).alloc (.cells #[.func (.func 55) #[] #[.pointer (some ⟨Bx, 0, none⟩), .pointer (some ⟨C, 0, none⟩)]] 102) := ⟨_, rfl⟩
    rw [← hw5] at hcl5 hbl5 h9 h10 hbox5 hblk5 ⊢
    clear hw5 hC hcl4 hbl4 hbox4 hblk4
    have HI0 : MgI w m cm g B Bx C Bd 0 (.slice none 0 0) [] w5 := ⟨hcl5, World.ownsRow_nil _ _ _ _, hbox5, h9, h10, hblk5, hbl5, fun D h => (by cases h), List.nodup_nil⟩
    have HW0 : Hid (w.heap.size ≤ C) := by show _ ≤ _; omega
    have hord : Bd < B ∧ B < Bx ∧ Bx < C := ⟨by omega, by omega, by omega⟩
    clear hcl5 hbl5 h9 h10 hbox5 hblk5 hsz4 hb1 hA
    refine wp_loop_ghost_k (fun r act W => ∃ (k : Nat) (v : Value) (Ds : List Nat) (u : Nat → Value), r = m - 1 - k ∧ k ≤ m - 1 ∧ act = { tmps := #[.int .i64 m, .slice a N c, undef, undef, .slice none 0 0, .int .i64 0, .pointer (some ⟨Bd, 0, none⟩), .int .i64 0, .pointer (some ⟨Bx, 0, none⟩), .pointer (some ⟨C, 0, none⟩), .pointer (some ⟨C + 1, 0, none⟩), v, u 12, u 13, u 14, u 15, u 16, .tuple #[.pointer (some ⟨Bd, 0, none⟩), .int .i64 0], .int .i64 m, .slice a N c, .tuple #[.pointer (some ⟨Bd, 0, none⟩), .int .i64 0], .pointer (some ⟨Bd, 0, none⟩), .int .i64 0, .int .i64 0, .bool false, undef, .int .i64 m, .pointer (some ⟨B, 0, none⟩), .pointer (some ⟨B, 0, none⟩), .pointer (some ⟨Bd, 0, none⟩), .pointer (some ⟨Bd, 0, none⟩), .pointer (some ⟨Bd, 2, none⟩), .agg T.toArray, .pointer (some ⟨B, 0, none⟩), .pointer (some ⟨B, 24, none⟩), .func (.func 54) #[] #[.pointer (some ⟨Bx, 0, none⟩)], .func (.func 55) #[] #[.pointer (some ⟨Bx, 0, none⟩), .pointer (some ⟨C, 0, none⟩)], .int .i64 m, .int .i64 ((m : Int) - 1), .int .i64 k, u 40, u 41, u 42, u 43, u 44, u 45, u 46, u 47, u 48, u 49, u 50, u 51, u 52, u 53, u 54, u 55, u 56, u 57, u 58, u 59, u 60, u 61, u 62, u 63, u 64, u 65, u 66, u 67, u 68, u 69, u 70, u 71, u 72, u 73, u 74, u 75, u 76, u 77, u 78, u 79, u 80, u 81, u 82, u 83, u 84, u 85, u 86, u 87, u 88, u 89, u 90, u 91, u 92, u 93, u 94, u 95], defers := dfs Ds } ∧ MgI w m cm g B Bx C Bd k v Ds W) (m - 1) ?start ?round
    case start => exact ⟨0, _, [], fun _ => undef, rfl, by omega, rfl, HI0⟩
    case round =>
      rintro r act W ⟨k, v, Ds, u, rfl, hk, rfl, hI⟩ J K hJ hK
      by_cases hlt : k < m - 1
      · have hlt2 : (k : Int) < (m : Int) - 1 := by omega
        have hinv := mRun_inv (n := m) (c := cm) (g := g) hm2 HG.out.2 k (by omega)
        have hpick := mRun_pick hinv (by omega)
        obtain ⟨s, hs⟩ : ∃ s, s = (mRun m cm g k).s := ⟨_, rfl⟩
        obtain ⟨f, hf⟩ : ∃ f, f = (mRun m cm g k).f := ⟨_, rfl⟩
        obtain ⟨L, hL⟩ : ∃ L, L = (mRun m cm g k).l := ⟨_, rfl⟩
        obtain ⟨q, hq⟩ : ∃ q, q = mPick m (mRun m cm g k).s (mRun m cm g k).f := ⟨_, rfl⟩
        have HR : Hid (mRun m cm g (k + 1) = ⟨joinS s q.1 q.2, jw f q.1 q.2 24, L ++ [mgOf cm s f q]⟩) := by
          show _ = _
          rw [mRun, hs, hf, hL, hq]
        obtain ⟨icl, iown, ibox, i9, i10, idist, ibl, ids, ind⟩ := hI
        rw [← hs, ← hf] at icl hinv hpick hq
        rw [← hL] at iown
        rw [← hq] at hpick
        have HINV := Lib.hid hinv
        have HPICK := Lib.hid hpick
        have HIDS := Lib.hid ids
        have HIND := Lib.hid ind
        clear hs hf hL hq hinv hpick ids ind
        have hlB := ibox.lt
        have kbox : W.cell? ⟨Bx, 0, none⟩ = some (.pointer (some ⟨B, 0, none⟩)) := ibox.cell 0
        go_wp2_with fail
        refine (pairs_any m B _).mono ?_
        rintro e w6 ⟨rfl, rfl⟩
        have hcl6 := (((icl.alloc (.cells #[.int .i64 (-1)] 3)).alloc (.cells #[.int .i64 (-1)] 3)).alloc (.cells #[.pointer (some ⟨B, 0, none⟩)] 96)).alloc (.cells #[.int .i64 m] 3)
        have hbx6 := (((ibox.alloc (.cells #[.int .i64 (-1)] 3)).alloc (.cells #[.int .i64 (-1)] 3)).alloc (.cells #[.pointer (some ⟨B, 0, none⟩)] 96)).alloc (.cells #[.int .i64 m] 3)
        have h96 := (((i9.alloc (.cells #[.int .i64 (-1)] 3)).alloc (.cells #[.int .i64 (-1)] 3)).alloc (.cells #[.pointer (some ⟨B, 0, none⟩)] 96)).alloc (.cells #[.int .i64 m] 3)
        have h106 := (((i10.alloc (.cells #[.int .i64 (-1)] 3)).alloc (.cells #[.int .i64 (-1)] 3)).alloc (.cells #[.pointer (some ⟨B, 0, none⟩)] 96)).alloc (.cells #[.int .i64 m] 3)
        have hbi6 := (((Blk.new W #[.int .i64 (-1)] 3).alloc (.cells #[.int .i64 (-1)] 3)).alloc (.cells #[.pointer (some ⟨B, 0, none⟩)] 96)).alloc (.cells #[.int .i64 m] 3)
        have hbj6 := ((Blk.new2 W (.cells #[.int .i64 (-1)] 3) #[.int .i64 (-1)] 3).alloc (.cells #[.pointer (some ⟨B, 0, none⟩)] 96)).alloc (.cells #[.int .i64 m] 3)
        have hbc6 := (Blk.new ((W.alloc (.cells #[.int .i64 (-1)] 3)).alloc (.cells #[.int .i64 (-1)] 3)) #[.pointer (some ⟨B, 0, none⟩)] 96).alloc (.cells #[.int .i64 m] 3)
        have hbn6 := Blk.new (((W.alloc (.cells #[.int .i64 (-1)] 3)).alloc (.cells #[.int .i64 (-1)] 3)).alloc (.cells #[.pointer (some ⟨B, 0, none⟩)] 96)) #[.int .i64 m] 3
        have hbl6 : Below W.heap.size W ((((W.alloc (.cells #[.int .i64 (-1)] 3)).alloc (.cells #[.int .i64 (-1)] 3)).alloc (.cells #[.pointer (some ⟨B, 0, none⟩)] 96)).alloc (.cells #[.int .i64 m] 3)) := bl_alloc (bl_alloc (bl_alloc (bl_alloc (Below.refl _ _) _) _) _) _
        simp only [World.size_alloc] at hbc6 hbn6
        go_wp2_with fail
        obtain ⟨w6, hw6⟩ : ∃ w6, w6 = (((W.alloc (.cells #[.int .i64 (-1)] 3)).alloc (.cells #[.int .i64 (-1)] 3)).alloc (.cells #[.pointer (some ⟨B, 0, none⟩)] 96)).alloc (.cells #[.int .i64 m] 3) := ⟨_, rfl⟩
        have hz6 : w6.heap.size = W.heap.size + 1 + 1 + 1 + 1 := by rw [hw6]; simp only [World.size_alloc]
        rw [← hw6] at hcl6 hbx6 h96 h106 hbi6 hbj6 hbc6 hbn6 hbl6 ⊢
        clear hw6
        obtain ⟨H, hH⟩ : ∃ H, H = W.heap.size := ⟨_, rfl⟩
        have l9 := i10.lt
        rw [← hH] at hbi6 hbj6 hbc6 hbn6 hbl6 hz6 l9 hlB ⊢
        have HH := Lib.hid hH
        clear hH
        have HZ6 := Lib.hid hz6
        obtain ⟨o1, o2, o3⟩ := hord
        refine (wpIn_wide (n := 10)).1 ?_
        refine wpIn_rangeFunc_ownF rfl (by omega) (gf := 90) (lb := #[.pointer (some ⟨H + 1 + 1 + 1, 0, none⟩), .pointer (some ⟨H + 1 + 1, 0, none⟩)]) rfl trivial (enters_of Tryd.func90 (by kernel_rfl) rfl) (pairs_stops 9 m (H + 1 + 1 + 1) (H + 1 + 1) B s f w6 hm2 (by omega) (hbn6.cell 0) (hbc6.cell 0) hcl6 (by omega) (by omega))
          Kp3.trans (kp3_b (w := w6) (by omega) (by omega) (by omega)) (Below.refl _ _) (fun _ => rfl) (fun pre W' => RnC H s f pre W' ∧ Below H w6 W') (fun _ _ _ => False)
          (OwnFrom.and (Own.from (rnC_own H s f) _) (ownFrom_below (by omega) (by omega))) (fun _ _ _ _ _ hs _ _ => hs) ⟨⟨hbi6.cell 0, hbi6.free 0, hbj6.cell 0, hbj6.free 0⟩, Below.refl _ _⟩
          (fun x => { tmps := #[.int .i64 m, .slice a N c, undef, undef, .slice none 0 0, .int .i64 0, .pointer (some ⟨Bd, 0, none⟩), .int .i64 0, .pointer (some ⟨Bx, 0, none⟩), .pointer (some ⟨C, 0, none⟩), .pointer (some ⟨C + 1, 0, none⟩), v, .pointer (some ⟨H, 0, none⟩), .pointer (some ⟨H + 1, 0, none⟩), .int .i64 x.1.val, .int .i64 x.2.val, u 16, .tuple #[.pointer (some ⟨Bd, 0, none⟩), .int .i64 0], .int .i64 m, .slice a N c, .tuple #[.pointer (some ⟨Bd, 0, none⟩), .int .i64 0], .pointer (some ⟨Bd, 0, none⟩), .int .i64 0, .int .i64 0, .bool false, undef, .int .i64 m, .pointer (some ⟨B, 0, none⟩), .pointer (some ⟨B, 0, none⟩), .pointer (some ⟨Bd, 0, none⟩), .pointer (some ⟨Bd, 0, none⟩), .pointer (some ⟨Bd, 2, none⟩), .agg T.toArray, .pointer (some ⟨B, 0, none⟩), .pointer (some ⟨B, 24, none⟩), .func (.func 54) #[] #[.pointer (some ⟨Bx, 0, none⟩)], .func (.func 55) #[] #[.pointer (some ⟨Bx, 0, none⟩), .pointer (some ⟨C, 0, none⟩)], .int .i64 m, .int .i64 ((m : Int) - 1), .int .i64 k, .bool true, .pointer (some ⟨B, 0, none⟩), .int .i64 m, .func (.func 90) #[] #[.pointer (some ⟨H + 1 + 1 + 1, 0, none⟩), .pointer (some ⟨H + 1 + 1, 0, none⟩)], .int .i64 x.1.val, .int .i64 x.2.val, u 46, u 47, u 48, u 49, u 50, u 51, u 52, u 53, u 54, u 55, u 56, u 57, u 58, u 59, u 60, u 61, u 62, u 63, u 64, u 65, u 66, u 67, u 68, u 69, u 70, u 71, u 72, u 73, u 74, u 75, u 76, u 77, u 78, u 79, u 80, u 81, u 82, u 83, u 84, u 85, u 86, u 87, u 88, u 89, u 90, u 91, u 92, u 93, u 94, u 95], defers := [] }) ?assign ?body ?done ?stop
        case assign =>
          intro l x W' K hK
          dsimp only [encP, toN]
          gi_wp2
          exact hK
        case body =>
          rintro l pre x W' ⟨⟨ci, fi, cj, fj⟩, hbl⟩ hlen
          have kB := Blk.below hcl6 (w' := W')
          have kcl : Cl W' B s f := (hbl.block B (by omega)).trans hcl6
          have kx : W'.cell? ⟨Bx, 0, none⟩ = some (.pointer (some ⟨B, 0, none⟩)) := (hbl.cell (p := ⟨Bx, 0, none⟩) (show Bx < H by omega)).trans (hbx6.cell 0)
          have k9 : W'.cell? ⟨C, 0, none⟩ = some (.func (.func 54) #[] #[.pointer (some ⟨Bx, 0, none⟩)]) := (hbl.cell (p := ⟨C, 0, none⟩) (show C < H by omega)).trans (h96.cell 0)
          have k10 : W'.cell? ⟨C + 1, 0, none⟩ = some (.func (.func 55) #[] #[.pointer (some ⟨Bx, 0, none⟩), .pointer (some ⟨C, 0, none⟩)]) := (hbl.cell (p := ⟨C + 1, 0, none⟩) (show C + 1 < H by omega)).trans (h106.cell 0)
          have hsz := hbl.size
          have hkp : ∀ (nq : Nat) (v1 v2 : Value), Kp3 B (H + 1 + 1 + 1) (H + 1 + 1) W' (((W'.drewN nq).setCell ⟨H, 0, none⟩ v1).setCell ⟨H + 1, 0, none⟩ v2) := fun nq v1 v2 =>
            ⟨(Below.heap_setCell _ _ _ _ (show B ≠ H + 1 by omega)).trans (Below.heap_setCell _ _ _ _ (show B ≠ H by omega)), (Below.heap_setCell _ _ _ _ (show H + 1 + 1 + 1 ≠ H + 1 by omega)).trans (Below.heap_setCell _ _ _ _ (show H + 1 + 1 + 1 ≠ H by omega)), (Below.heap_setCell _ _ _ _ (show H + 1 + 1 ≠ H + 1 by omega)).trans (Below.heap_setCell _ _ _ _ (show H + 1 + 1 ≠ H by omega))⟩
          have hbl2 : ∀ (nq : Nat) (v1 v2 : Value), Below H w6 (((W'.drewN nq).setCell ⟨H, 0, none⟩ v1).setCell ⟨H + 1, 0, none⟩ v2) := fun nq v1 v2 =>
            ((bl_drewN hbl nq).setCell (p := ⟨H, 0, none⟩) (Nat.le_refl _) v1).setCell (p := ⟨H + 1, 0, none⟩) (Nat.le_succ _) v2
          have hko : ∀ (nq : Nat) (v1 v2 : Value), KeepsOthers W' (((W'.drewN nq).setCell ⟨H, 0, none⟩ v1).setCell ⟨H + 1, 0, none⟩ v2) := fun nq v1 v2 => ((keeps_drewN W' nq).trans (KeepsOthers.setCell _ _ _)).trans (KeepsOthers.setCell _ _ _)
          have hcells : ∀ (nq : Nat), RnC H s f (pre ++ [x]) (((W'.drewN nq).setCell ⟨H, 0, none⟩ (.int .i64 x.1.val)).setCell ⟨H + 1, 0, none⟩ (.int .i64 x.2.val)) ∨ True := fun _ => .inr trivial
          have hsn := bestP_snoc s f (pre.map toN) (toN x)
          have hmp : (pre ++ [x]).map toN = pre.map toN ++ [toN x] := by rw [List.map_append]; rfl
          have HKP := Lib.hid hkp
          have HBL2 := Lib.hid hbl2
          have HKO := Lib.hid hko
          have HSN := Lib.hid (hmp ▸ hsn : bestP s f ((pre ++ [x]).map toN) = stepB s f (bestP s f (pre.map toN)) (toN x))
          clear hkp hbl2 hko hsn hmp hcells kB
          obtain ⟨bp, hbp⟩ : ∃ bp, bp = bestP s f (pre.map toN) := ⟨_, rfl⟩
          have HBP := Lib.hid hbp
          rw [← hbp] at ci cj
          clear hbp
          cases bp with
          | none =>
            have ci' : W'.cell? ⟨H, 0, none⟩ = some (.int .i64 (-1)) := ci
            have cj' : W'.cell? ⟨H + 1, 0, none⟩ = some (.int .i64 (-1)) := cj
            clear ci cj
            gi_wp2
            refine ⟨fun _ h => (by cases h), ?_⟩
            gi_wp2
            exact ⟨HKO.out 0 _ _, HKP.out 0 _ _, rnC_mk 0 (p := toN x) (by rw [HSN.out, ← HBP.out]; rfl) ci' cj' fi fj, HBL2.out 0 _ _⟩
          | some p =>
            have ci' : W'.cell? ⟨H, 0, none⟩ = some (.int .i64 p.1) := ci
            have cj' : W'.cell? ⟨H + 1, 0, none⟩ = some (.int .i64 p.2) := cj
            obtain ⟨hp1, hp2⟩ : p.1 < 24 ∧ p.2 < 24 := by
              rcases bestP_some s f (pre.map toN) none with ⟨p', h1, h2 | h2⟩ | ⟨h1, _⟩
              · have e : bestP s f (pre.map toN) = some p' := h1
                rw [← HBP.out] at e
                rw [Option.some.inj e]
                obtain ⟨y, _, rfl⟩ := List.mem_map.1 h2
                exact ⟨y.1.isLt, y.2.isLt⟩
              · cases h2
              · have e := HBP.out
                rw [h1] at e
                cases e
            obtain ⟨pi, pj⟩ := p
            simp only at hp1 hp2 ci' cj'
            have hneg : decide ((pi : Int) < 0) = false := by simp
            have hx1 := x.1.isLt
            have hx2 := x.2.isLt
            have HN : Hid (∀ W3, W3 = W' → Calls Tryd.prog 55 #[.int .i64 x.1.val, .int .i64 x.2.val, .int .i64 pi, .int .i64 pj, .pointer (some ⟨Bx, 0, none⟩), .pointer (some ⟨C, 0, none⟩)] W3 fun e w' => e = .returned (.bool (nearB s f x.1.val x.2.val pi pj)) ∧ ∃ n, w' = W3.drewN n) := fun W3 hW3 => by
              subst hW3
              exact nearer_any x.1.val x.2.val pi pj B Bx C 9007199254740992 s f _ hx1 hx2 hp1 hp2 (fun a => Nat.le_trans (HINV.out.le a) hm2) (HINV.out.bound (by omega)) (Nat.le_refl _) kcl kx k9
            clear ci cj
            have hstep : Hid (bestP s f ((pre ++ [x]).map toN) = if nearB s f x.1.val x.2.val pi pj = true then some (toN x) else some (pi, pj)) := by
              show _ = _
              rw [HSN.out, ← HBP.out]; rfl
            obtain ⟨b, hb⟩ : ∃ b, b = nearB s f x.1.val x.2.val pi pj := ⟨_, rfl⟩
            have hN2 := HN.out W' rfl
            rw [← hb] at hN2 hstep
            have HN2 := Lib.hid hN2
            clear hN2 HN hb
            have hd2 : 1 ≤ 9 := by omega
            cases b with
            | true =>
              gi_wp2_with (refine ⟨trivial, ?_⟩; gi_at_call 55; refine (CallsIn.inRound l (callsIn_wide.2 HN2.out)).mono ?_; rintro e w' ⟨rfl, nq, rfl⟩)
              exact ⟨HKO.out nq _ _, HKP.out nq _ _, rnC_mk nq (p := toN x) (by rw [hstep.out]; rfl) ci' cj' fi fj, HBL2.out nq _ _⟩
            | false =>
              gi_wp2_with (refine ⟨trivial, ?_⟩; gi_at_call 55; refine (CallsIn.inRound l (callsIn_wide.2 HN2.out)).mono ?_; rintro e w' ⟨rfl, nq, rfl⟩)
              exact ⟨keeps_drewN _ nq, ⟨rfl, rfl, rfl⟩, ⟨by rw [hstep.out]; exact ci', fi, by rw [hstep.out]; exact cj', fj⟩, bl_drewN hbl nq⟩
        case done =>
          rintro D ys W' hD hys ⟨⟨ci, fi, cj, fj⟩, hbl⟩ hKD
          rw [hys, HPICK.out.1] at ci cj
          have hq := mem_prs.1 HPICK.out.2
          obtain ⟨qi, qj⟩ := q
          have HNX := Lib.hid (HINV.out.next hm2 HPICK.out.2)
          obtain ⟨q1, q2, q3, q4, q5⟩ := hq
          simp only at q1 q2 q3 q4 q5
          have kcl : Cl W' B s f := (hbl.block B (by omega)).trans hcl6
          have ci' : W'.cell? ⟨H, 0, none⟩ = some (.int .i64 qi) := ci
          have cj' : W'.cell? ⟨H + 1, 0, none⟩ = some (.int .i64 qj) := cj
          have kx : W'.cell? ⟨Bx, 0, none⟩ = some (.pointer (some ⟨B, 0, none⟩)) := (hbl.cell (p := ⟨Bx, 0, none⟩) (show Bx < H by omega)).trans (hbx6.cell 0)
          have k9 : W'.cell? ⟨C, 0, none⟩ = some (.func (.func 54) #[] #[.pointer (some ⟨Bx, 0, none⟩)]) := (hbl.cell (p := ⟨C, 0, none⟩) (show C < H by omega)).trans (h96.cell 0)
          have kd : W'.cell? ⟨Bd, 1, none⟩ = some (.int .i64 cm) := (hbl.cell (p := ⟨Bd, 1, none⟩) (show Bd < H by omega)).trans ((hbl6.cell (p := ⟨Bd, 1, none⟩) (show Bd < H by omega)).trans (by rw [idist.getF 1 (by omega)]; rfl))
          have kw := kcl.with qi qj (by omega) (by omega)
          have hsz := hbl.size
          have hbW : Below W.heap.size W W' := by rw [← HH.out]; exact hbl6.trans hbl
          have hown1 := owns_below iown hbW
          have hcm : cm ≤ 1073741824 ∧ 0 < cm := by
            obtain ⟨a1, a2, a3, a4, a5, a6, a7⟩ := scaled_ok_parts HS.out
            obtain ⟨b1, b2, _⟩ := cmA_some (fun i hi => (q_bounds a4 HK.out i hi).2.1) (Nat.le_refl _) a6
            exact ⟨b2, b1⟩
          obtain ⟨cm1, cm2⟩ := hcm
          have hs24 : ∀ a, s a ≤ 24 := fun a => Nat.le_trans (HINV.out.le a) hm2
          have hct := cnt_le hs24 qi qj
          have hct1 : 0 < cnt s qi qj := Nat.mul_pos q2 q5
          have hsum : s qi + s qj ≤ 24 := Nat.le_trans (sumN_two s q3 q4) (by rw [HINV.out.sum]; exact hm2)
          have hfM := HINV.out.bound (show k ≤ 23 by omega)
          obtain ⟨ct, hcte⟩ : ∃ ct, ct = cnt s qi qj := ⟨_, rfl⟩
          obtain ⟨fv, hfv⟩ : ∃ fv, fv = f (qi * 24 + qj) := ⟨_, rfl⟩
          obtain ⟨P, hP⟩ : ∃ P, P = ct * cm := ⟨_, rfl⟩
          have hP1 : P ≤ 576 * 1073741824 := by rw [hP, hcte]; exact Nat.mul_le_mul hct cm1
          have hP0 : 0 < P := by rw [hP, hcte]; exact Nat.mul_pos hct1 cm2
          have hfv1 : fv ≤ 9007199254740992 := by rw [hfv]; exact hfM _
          rw [← hfv] at kw
          have w1 := wrap_nat ((ct : Int) * (cm : Int)) P (by rw [hP]; simp) (by omega)
          obtain ⟨ln, hln⟩ : ∃ x, x = fv / Nat.gcd fv P := ⟨_, rfl⟩
          obtain ⟨ld, hld⟩ : ∃ x, x = P / Nat.gcd fv P := ⟨_, rfl⟩
          have HMG : Hid (mgOf cm s f (qi, qj) = (((qi : Int), (qj : Int)), ((ln : Int), (ld : Int)), ((s qi + s qj : Nat) : Int))) := by
            show _ = _
            unfold mgOf
            rw [← hcte, ← hP, ← hfv, hln, hld]
            simp [lowF, lowN, lowD]
          have H54 : Hid (∀ W3, Below W'.heap.size W' W3 → Calls Tryd.prog 54 #[.int .i64 qi, .int .i64 qj, .pointer (some ⟨Bx, 0, none⟩)] W3 fun e w' => e = .returned (.int .i64 ct) ∧ ∃ n, w' = W3.drewN n) := fun W3 h => by
            rw [hcte]; exact count_any qi qj B Bx s f W3 (by omega) (by omega) hs24 (Blk.below kcl h) ((h.cell (p := ⟨Bx, 0, none⟩) (show Bx < W'.heap.size by omega)).trans kx)
          have H57 : Hid (∀ W3, Calls Tryd.prog 57 #[.int .i64 fv, .int .i64 P] W3 fun e w' => e = .returned (.agg #[.int .i64 ln, .int .i64 ld]) ∧ Below W3.heap.size W3 w') := fun W3 => by
            rw [hln, hld]; exact low_any fv P W3 (by omega) (by omega) hP0
          have hBW' : B < W'.heap.size := kcl.lt
          have hcl : Hid (∀ W3, Below W'.heap.size W' W3 → W3.cell? ⟨H, 0, none⟩ = some (.int .i64 qi) ∧ W3.cell? ⟨H + 1, 0, none⟩ = some (.int .i64 qj) ∧ W3.cell? ⟨Bx, 0, none⟩ = some (.pointer (some ⟨B, 0, none⟩)) ∧ W3.cell? ⟨C, 0, none⟩ = some (.func (.func 54) #[] #[.pointer (some ⟨Bx, 0, none⟩)]) ∧ W3.cell? ⟨Bd, 1, none⟩ = some (.int .i64 cm) ∧ W3.cell? ⟨B, 24 + qi * 24 + qj, none⟩ = some (.int .i64 fv)) := fun W3 h =>
            ⟨(h.cell (p := ⟨H, 0, none⟩) (show H < W'.heap.size by omega)).trans ci', (h.cell (p := ⟨H + 1, 0, none⟩) (show H + 1 < W'.heap.size by omega)).trans cj', (h.cell (p := ⟨Bx, 0, none⟩) (show Bx < W'.heap.size by omega)).trans kx, (h.cell (p := ⟨C, 0, none⟩) (show C < W'.heap.size by omega)).trans k9, (h.cell (p := ⟨Bd, 1, none⟩) (show Bd < W'.heap.size by omega)).trans kd, (h.cell (p := ⟨B, 24 + qi * 24 + qj, none⟩) hBW').trans kw⟩
          have HICL : Hid (Cl W B s f) := icl
          have HIB : Hid (Blk W Bx #[.pointer (some ⟨B, 0, none⟩)] 96 ∧ Blk W C #[.func (.func 54) #[] #[.pointer (some ⟨Bx, 0, none⟩)]] 101 ∧ Blk W (C + 1) #[.func (.func 55) #[] #[.pointer (some ⟨Bx, 0, none⟩), .pointer (some ⟨C, 0, none⟩)]] 102 ∧ Blk W Bd (ofF 578 (dg m cm g)) 89) := ⟨ibox, i9, i10, idist⟩
          have HKC := Lib.hid (fun W3 (h : Below W'.heap.size W' W3) => Blk.below kcl h)
          have HSUM := Lib.hid hsum
          have HLK : Hid (k = L.length) := by
            have h1 := hown1.1
            rw [fl_length encMg_len] at h1
            show k = _
            omega
          have HFM := Lib.hid hfM
          clear hcl6 hbx6 h96 h106 hbi6 hbj6 hbc6 hbn6 icl iown ibox i9 i10 kbox ci cj hys hcte hfv hP hln hld hs24 hct hct1 hsum hfM fi fj
          simp only [Exit.inBlock, Exit.then]
          go_upto_region 17 with fail
          go_cut [16] from 58 to 79 (fun sx wx => ∃ x, sx = .pointer (some ⟨x, 0, none⟩) ∧ W'.heap.size ≤ x ∧ Blk wx x #[.int .i64 qi, .int .i64 qj, .int .i64 ln, .int .i64 ld, .int .i64 0] 42 ∧ Below W'.heap.size W' wx)
          case first =>
            have i1 : (0 : Int) ≤ qi := by omega
            have i2 : (qi : Int) < 24 := by omega
            have i3 : (0 : Int) ≤ qj := by omega
            have i4 : (qj : Int) < 24 := by omega
            go_region_held3 (fun w' => w'.cell? ⟨H, 0, none⟩ = some (.int .i64 qi) ∧ w'.cell? ⟨H + 1, 0, none⟩ = some (.int .i64 qj) ∧ w'.cell? ⟨Bx, 0, none⟩ = some (.pointer (some ⟨B, 0, none⟩)) ∧ w'.cell? ⟨C, 0, none⟩ = some (.func (.func 54) #[] #[.pointer (some ⟨Bx, 0, none⟩)]) ∧ w'.cell? ⟨Bd, 1, none⟩ = some (.int .i64 cm) ∧ w'.cell? ⟨B, 24 + qi * 24 + qj, none⟩ = some (.int .i64 fv)) (first | go_keep | exact hcl.out _ (bl_sets5 (by assumption) _ _ _ _ _)) ((first | (go_at_call 54; refine (H54.out _ (by first | exact bl_drewN (Below.refl _ _) _ | exact bl_drewN (bl_alloc (Below.refl _ _) _) _ | exact Below.refl _ _ | exact bl_alloc (Below.refl _ _) _)).mono ?_; rintro e w7 ⟨rfl, nq, rfl⟩) | (go_at_call 57; refine (H57.out _).mono ?_; rintro e w8 ⟨rfl, hb8⟩; have hB8 := bl_trans (a := W') (by first | exact bl_drewN (Below.refl _ _) _ | exact bl_drewN (bl_alloc (Below.refl _ _) _) _ | exact Below.refl _ _ | exact bl_alloc (Below.refl _ _) _) hb8; obtain ⟨j0, j1, j2, j3, j4, j5⟩ := hcl.out _ hB8; (first | (have hN8 := Blk.below (Blk.drewN (Blk.new W' #[.int .i64 0, .int .i64 0, .int .i64 0, .int .i64 0, .int .i64 0] 42) _) hb8; have n0 : w8.cell? ⟨W'.heap.size, 0, none⟩ = some (.int .i64 0) := hN8.cell 0; have f0 := hN8.free 0; have n1 : w8.cell? ⟨W'.heap.size, 1, none⟩ = some (.int .i64 0) := hN8.cell 1; have f1 := hN8.free 1; have n2 : w8.cell? ⟨W'.heap.size, 2, none⟩ = some (.int .i64 0) := hN8.cell 2; have f2 := hN8.free 2; have n3 : w8.cell? ⟨W'.heap.size, 3, none⟩ = some (.int .i64 0) := hN8.cell 3; have f3 := hN8.free 3; have n4 : w8.cell? ⟨W'.heap.size, 4, none⟩ = some (.int .i64 0) := hN8.cell 4; have f4 := hN8.free 4; have l8 := hN8.lt) | skip))))
            all_goals go_wp2_with fail
            all_goals go_meet
            all_goals first
              | (have h8 := hN8; exact ⟨W'.heap.size, rfl, Nat.le_refl _, blk_stored5 h8, bl_sets5 (a := W') (w := w8) hB8 _ _ _ _ _⟩)
              | exact ⟨_, rfl, hB8.size, Blk.new w8 _ _, bl_alloc hB8 _⟩
          case rest =>
            obtain ⟨x, rfl, hxw, hx, hbx⟩ := hcut
            have kcl2 := HKC.out wc hbx
            have HXO : Hid (v.ownBlock = some x → False) := fun e => by have := (hown1.lt x e).2; omega
            obtain ⟨j0, j1, j2, j3, j4, j5⟩ := hcl.out wc hbx
            have HCB : Hid (Cl wc B s f) := kcl2
            have own2 := owns_below hown1 hbx
            have hbWc : Below W.heap.size W wc := bl_trans hbW hbx
            have hKD2 := (hbx.block D (Array.getElem?_eq_some_iff.1 hKD).1).trans hKD
            have hDlt := (Array.getElem?_eq_some_iff.1 hKD).1
            have hxlt := hx.lt
            have HKD := Lib.hid hKD2
            have hszc := hbx.size
            clear hcl hKD hKD2 j3 j4 j5 kcl ci' cj' kx k9 kd kw hown1 w1
            go_wp2_with fail
            refine (join_any qi qj B 9007199254740992 s f _ q3 (by omega) HSUM.out HFM.out (Nat.le_refl _) kcl2).mono ?_
            rintro e w9 ⟨rfl, kcl9, hbt9⟩
            have hxB : x ≠ B := by omega
            have hx9 := hbt9.blk hx hxB
            have own9 : w9.ownsRow (C + 2) 42 5 v k (fl encMg L) := own2.kept ⟨hbt9.os, hbt9.tape, hbt9.output, hbt9.size, fun i hi hne => hbt9.block i hi (fun e => hne (by rw [e]))⟩ (row := some B) (by
              cases ho : v.ownBlock with
              | none => exact .inl rfl
              | some r => right; intro e; have := (own2.lt r ho).1; have := Option.some.inj e; omega)
            have k0 := (hbt9.cell (o := 0) (show H < wc.heap.size by omega) (show H ≠ B by omega)).trans j0
            have k2 := (hbt9.cell (o := 0) (show Bx < wc.heap.size by omega) (show Bx ≠ B by omega)).trans j2
            have ks := kcl9.size qi (by omega)
            obtain ⟨z, hz⟩ : ∃ z, z = s qi + s qj := ⟨_, rfl⟩
            rw [show joinS s qi qj qi = z by rw [hz]; unfold joinS; rw [updN_other _ _ (by omega), updN_same]] at ks
            have HZ := Lib.hid hz
            have hx4 : w9.cell? ⟨x, 4, none⟩ = some (.int .i64 0) := hx9.cell 4
            have fx4 := hx9.free 4
            have hsz9 := hbt9.size
            clear hz j0 j1 j2 own2 hx kcl2
            go_upto_region 19 with fail
            refine wp_quiet_tail_lit 7 (by kernel_rfl) (by kernel_rfl) ?_
            simp only [List.take_succ_cons, List.take_zero, List.drop_succ_cons, List.drop_zero]
            repeat (go_big_quiet_step (fail))
            refine wpQuiet_nil ?_
            intro _ hw'
            obtain ⟨nq2, hw''⟩ := hw'
            subst hw''
            have hx10 := (hx9.drewN nq2).set 4 (.int .i64 z)
            have kcl10 : Cl ((w9.drewN nq2).setCell ⟨x, 4, none⟩ (.int .i64 z)) B (joinS s qi qj) (jw f qi qj 24) := Blk.other (Blk.drewN kcl9 nq2) (Ne.symm hxB) _ _
            have own10 := ownsRow_setCell_other (a := ⟨x, 4, none⟩) (show (w9.drewN nq2).ownsRow (C + 2) 42 5 v k (fl encMg L) from own9) (fun e => by have := (own9.lt x e).2; have := HXO.out e; exact this) (.int .i64 z)
            have hx10' : Blk ((w9.drewN nq2).setCell ⟨x, 4, none⟩ (.int .i64 z)) x #[.int .i64 qi, .int .i64 qj, .int .i64 ln, .int .i64 ld, .int .i64 z] 42 := by simpa using hx10
            go_upto_region 20 with fail
            have hown11 : ((w9.drewN nq2).setCell ⟨x, 4, none⟩ (.int .i64 z)).ownsRow (C + 2) 42 5 v k (fl encMg L) := own10
            obtain ⟨w10, hw10⟩ : ∃ w10, w10 = (w9.drewN nq2).setCell ⟨x, 4, none⟩ (.int .i64 z) := ⟨_, rfl⟩
            have hsame10 : Hid (∀ b, b < W.heap.size → b ≠ B → w10.heap[b]? = W.heap[b]?) := fun b hb hne => by
              rw [hw10, Below.heap_setCell _ _ _ _ (show b ≠ x by rw [← HH.out] at hb; omega)]
              exact (hbt9.block b (Nat.lt_of_lt_of_le hb hbWc.size) hne).trans (hbWc.block b hb)
            have hD10 : Hid (w10.heap[D]? = some (.deferred (some []))) := by
              show _ = _
              rw [hw10, Below.heap_setCell _ _ _ _ (show D ≠ x by omega)]
              exact (hbt9.block D (by omega) (fun e => by have h1 := HKD.out; rw [e] at h1; unfold Cl Blk at kcl9; have h2 := HCB.out; unfold Cl Blk at h2; rw [h1] at h2; cases h2)).trans HKD.out
            have hbl10 : Below W.heap.size W w10 → True := fun _ => trivial
            have hbB10 : Below w.heap.size w w10 := by
              have e1 : Below w.heap.size w w9 := (ibl.trans (hbWc.mono ibl.size)).trans (hbt9.below (B := w.heap.size) (Nat.le_trans ibl.size hbWc.size) hBw)
              rw [hw10]
              exact (bl_drewN e1 nq2).setCell (p := ⟨x, 4, none⟩) (show w.heap.size ≤ x by have := ibl.size; have := hbWc.size; omega) _
            have hsz10 : w9.heap.size = w10.heap.size := by rw [hw10]; simp [World.setCell]
            rw [← hw10] at hx10' kcl10 hown11 ⊢
            clear hw10 hx10 own10 own9 hx9 kcl9 hbt9 hbl10 k0 k2 ks hx4 fx4
            have y0 : w10.cell? ⟨x, 0, none⟩ = some (.int .i64 qi) := hx10'.cell 0
            have y1 : w10.cell? ⟨x, 1, none⟩ = some (.int .i64 qj) := hx10'.cell 1
            have y2 : w10.cell? ⟨x, 2, none⟩ = some (.int .i64 ln) := hx10'.cell 2
            have y3 : w10.cell? ⟨x, 3, none⟩ = some (.int .i64 ld) := hx10'.cell 3
            have y4 : w10.cell? ⟨x, 4, none⟩ = some (.int .i64 z) := hx10'.cell 4
            go_wp2_with (at_builtin; refine push_Mg rfl (.tmp 90) (.tmp 92) rfl (C + 2) v L k HLK.out rfl (hown11.alloc _) w10.heap.size 1 (((qi : Int), (qj : Int)), ((ln : Int), (ld : Int)), (z : Int)) rfl (Blk.new w10 _ _) (by omega) (by simp; omega) ?_; intro g5 cap5 w11 hw4 hw5 hw6 hw7)
            have hvr : ∀ r, v.ownBlock = some r → C + 2 ≤ r ∧ ∃ cs t fr, w10.heap[r]? = some (.cells cs t fr) := fun r hr => by
              refine ⟨(hown11.lt r hr).1, ?_⟩
              rcases hown11.2 with ⟨hv, _⟩ | ⟨g0, cap0, cur, hv, _, hh, _⟩
              · rw [hv] at hr; cases hr
              · rw [hv] at hr; cases hr; exact ⟨_, _, _, hh⟩
            have hkeep : ∀ b, b < C + 2 → w11.heap[b]? = w10.heap[b]? := fun b hb => grown_keep hw5 (by omega) (fun e => by have := (hvr b e.symm).1; omega)
            have hkW : ∀ b, b < C + 2 → b ≠ B → w11.heap[b]? = W.heap[b]? := fun b hb hne => (hkeep b hb).trans (hsame10.out b (by rw [← HH.out]; omega) hne)
            have hdK : ∀ D', w10.heap[D']? = some (Obj.deferred (some [])) → w11.heap[D']? = some (Obj.deferred (some [])) := fun D' h => (grown_keep hw5 (Array.getElem?_eq_some_iff.1 h).1 (fun e => by
              obtain ⟨_, cs, t, fr, h2⟩ := hvr D' e.symm
              rw [h] at h2; cases h2)).trans h
            have hWD : ∀ D' ∈ Ds, D' < W.heap.size ∧ D' ≠ B := fun D' hD' => by
              have h1 := (HIDS.out D' hD').2.2
              refine ⟨(Array.getElem?_eq_some_iff.1 h1).1, fun e => ?_⟩
              have h2 := HICL.out
              unfold Cl Blk at h2
              rw [← e, h1] at h2
              cases h2
            have hMg : MgI w m cm g B Bx C Bd (k + 1) (.slice (some ⟨g5, 0, none⟩) (k + 1) cap5) (D :: Ds) w11 := by
              refine ⟨?_, ?_, ?_, ?_, ?_, ?_, ?_, ?_, ?_⟩
              · rw [HR.out]; exact (hkeep B (by omega)).trans kcl10
              · rw [HR.out]; show w11.ownsRow (C + 2) 42 5 _ (k + 1) (fl encMg (L ++ [mgOf cm s f (qi, qj)])); rw [HMG.out, ← HZ.out]; exact hw4
              · exact (hkW Bx (by omega) (by omega)).trans HIB.out.1
              · exact (hkW C (by omega) (by omega)).trans HIB.out.2.1
              · exact (hkW (C + 1) (by omega) (by omega)).trans HIB.out.2.2.1
              · exact (hkW Bd (by omega) (by omega)).trans HIB.out.2.2.2
              · exact Below.grown (bl_alloc hbB10 _) hw5 (by have := hbB10.size; simp; omega) (fun r hr => by have := (hvr r hr).1; have := HW0.out; omega)
              · intro D' hD'
                rcases List.mem_cons.1 hD' with rfl | hD'
                · exact ⟨by have := ibl.size; rw [← HH.out] at this; omega, by omega, hdK _ hD10.out⟩
                · obtain ⟨d1, d2, d3⟩ := HIDS.out D' hD'
                  exact ⟨d1, d2, hdK D' ((hsame10.out D' (hWD D' hD').1 (hWD D' hD').2).trans d3)⟩
              · refine List.nodup_cons.2 ⟨fun h => ?_, HIND.out⟩
                have := (hWD D h).1
                rw [← HH.out] at this
                omega
            exact Handed.intro (m - 1 - (k + 1)) (by omega) (hJ _ _ _ ⟨k + 1, _, D :: Ds, ex_u rfl (by omega) hMg rfl⟩)
        case stop =>
          rintro D c pre W' _ _ h _
          exact h.elim
      · have e : k = m - 1 := by omega
        have hlt2 : (m : Int) - 1 ≤ (k : Int) := by omega
        obtain ⟨icl, iown, ibox, i9, i10, idist, ibl, ids, ind⟩ := hI
        have HE := Lib.hid e
        clear e hlt icl ibox i9 i10 idist
        go_wp2_with fail
        refine leaves_all Ds _ ind (fun D hD => (ids D hD).2.2) fun w' ht => ⟨_, results_tmp2 rfl _ _ _, ?_⟩
        have hC := HW0.out
        rw [HE.out] at iown
        exact ⟨ht.below ibl fun D hD => (ids D hD).1, .inr ⟨m, cm, v, g, rfl, hm1, hm2, HS.out, rfl, ht.owns (fun D hD => (ids D hD).2.2) (owns_mono iown (by omega)), HG.out.1, HG.out.2⟩⟩
end Go.Proofs.YtahgffjkkdbjeaaDoor
