/- phylo.On at every table and tree. The document's On at every table and tree. The statement PhyloOn: the walk. -/
import Derived.Test.YtnabbmdhhddfbaaDoorU5
import Derived.Test.YtnabbmdhhddfbaaDoorU7
import Derived.Test.YtnabbmdhhddfbaaDoorU6
namespace Go.Proofs.YtnabbmdhhddfbaaDoor
open Go Go.RowKit Go.Shelf
attribute [local go_sem] Oper.semAt_some
/-- The first of the first k nodes whose set is x, or -1. -/
def onN (f : Nat → Nat) (x : Nat) : Nat → Int
  | 0 => -1
  | k + 1 => if 0 ≤ onN f x k then onN f x k else if f k = x then (k : Int) else -1
theorem onN_none {f : Nat → Nat} {x : Nat} : ∀ k, (∀ v, v < k → f v ≠ x) → onN f x k = -1 := by
  intro k
  induction k with
  | zero => intro _; rfl
  | succ k ih =>
    intro h
    have e := ih fun v hv => h v (by omega)
    unfold onN
    rw [e, if_neg (by omega), if_neg (h k (by omega))]
theorem onN_some {f : Nat → Nat} {x v : Nat} (hv : f v = x) (hb : ∀ u, u < v → f u ≠ x) : ∀ k, v < k → onN f x k = v := by
  intro k
  induction k with
  | zero => intro h; omega
  | succ k ih =>
    intro h
    unfold onN
    by_cases e : v < k
    · rw [ih e, if_pos (by omega)]
    · obtain rfl : v = k := by omega
      rw [onN_none v hb, if_neg (by omega), if_pos hv]
theorem onN_bd (f : Nat → Nat) (x : Nat) : ∀ k, -1 ≤ onN f x k ∧ onN f x k < k := by
  intro k
  induction k with
  | zero => exact ⟨Int.le_refl _, by show (-1 : Int) < 0; decide⟩
  | succ k ih =>
    unfold onN
    split
    · omega
    · split <;> omega
/-- What On answers. -/
def onL (L : Int) (l : List Nat) (t : List Nd) : List Int := if chkP L l t = 0 then l.map (fun x => onN (cl t) x t.length) else []
def OnPost (w : World) (L : Int) (l : List Nat) (t : List Nd) (e : Ending) (w' : World) : Prop :=
  ∃ v, e = .returned (.tuple #[v, .int .i64 (chkP L l t)]) ∧ w'.ownsRow w.heap.size 3 1 v (onL L l t).length (fl encI (onL L l t)) ∧ Below w.heap.size w w'
theorem grown_keep {w10 w11 : World} {o : Obj} {r0 : Option Nat} (h : (w10.alloc o).grownBy w11 r0) {b : Nat} (hb : b < w10.heap.size) (hne : some b ≠ r0) : w11.heap[b]? = w10.heap[b]? :=
  (h.block b (by simp; omega) hne).trans (Below.heap_alloc w10 o b hb)
/-- On's loop: the answers so far, the deferred blocks of the ranges. -/
structure OnI (w2 : World) (os : List Int) (k : Nat) (v : Value) (Ds : List Nat) (W : World) : Prop where
  own : W.ownsRow w2.heap.size 3 1 v k (fl encI os)
  bl : Below w2.heap.size w2 W
  ds : ∀ D ∈ Ds, w2.heap.size ≤ D ∧ W.heap[D]? = some (.deferred (some []))
  nd : Ds.Nodup
/-- A round's end. -/
theorem OnI.next {w2 W W' w8 : World} {os : List Int} {k g cap D : Nat} {v : Value} {Ds : List Nat} {z : Int} (h : OnI w2 os k v Ds W) (hb : Below W.heap.size W W') (hD : W.heap.size ≤ D) (hDD : W'.heap[D]? = some (.deferred (some [])))
    (h1 : w8.ownsRow w2.heap.size 3 1 (.slice (some ⟨g, 0, none⟩) (k + 1) cap) (k + 1) (fl encI (os ++ [z]))) (h2 : (W'.alloc (.cells #[.int .i64 z] 3)).grownBy w8 v.ownBlock) : OnI w2 (os ++ [z]) (k + 1) (.slice (some ⟨g, 0, none⟩) (k + 1) cap) (D :: Ds) w8 := by
  have ho := owns_below h.own hb
  have hvr : ∀ r, v.ownBlock = some r → w2.heap.size ≤ r ∧ ∃ cs t fr, W'.heap[r]? = some (.cells cs t fr) := fun r hr => by
    refine ⟨(ho.lt r hr).1, ?_⟩
    rcases ho.2 with ⟨hv, _⟩ | ⟨g0, cap0, cur, hv, _, hh, _⟩
    · rw [hv] at hr; cases hr
    · rw [hv] at hr; cases hr; exact ⟨_, _, _, hh⟩
  have hdK : ∀ D', W'.heap[D']? = some (Obj.deferred (some [])) → w8.heap[D']? = some (Obj.deferred (some [])) := fun D' hx => (grown_keep h2 (Array.getElem?_eq_some_iff.1 hx).1 (fun e => by
    obtain ⟨_, cs, t, fr, h3⟩ := hvr D' e.symm
    rw [hx] at h3; cases h3)).trans hx
  refine ⟨h1, ?_, ?_, ?_⟩
  · exact bl_grown (bl_alloc (bl_trans h.bl hb) _) h2 (fun r hr => (hvr r hr).1)
  · intro D' hD'
    rcases List.mem_cons.1 hD' with rfl | hD'
    · exact ⟨Nat.le_trans h.bl.size hD, hdK _ hDD⟩
    · obtain ⟨d1, d2⟩ := h.ds D' hD'
      exact ⟨d1, hdK D' ((hb.block D' (Array.getElem?_eq_some_iff.1 d2).1).trans d2)⟩
  · refine List.nodup_cons.2 ⟨fun hx => ?_, h.nd⟩
    have := (Array.getElem?_eq_some_iff.1 (h.ds D hx).2).1
    omega
/-- A range of On: the innovation's cell, the answer's cell. -/
structure OnR (H q : Nat) (w6 : World) (z : Int) (W : World) : Prop where
  bq : Blk W H #[.int .u64 q] 44
  ba : Blk W (H + 1) #[.int .i64 z] 3
  bl : Below H w6 W
theorem OnR.grown {H q : Nat} {w6 W W' : World} {z : Int} {row : Option Nat} (h : OnR H q w6 z W) (hz : H + 1 < w6.heap.size) (hg : W.grownBy W' row) (hr : ∀ r, row = some r → w6.heap.size ≤ r) : OnR H q w6 z W' :=
  ⟨h.bq.grown hg (fun e => by have := hr H e.symm; omega), h.ba.grown hg (fun e => by have := hr (H + 1) e.symm; omega), h.bl.grown hg (Nat.le_trans (by omega) h.bl.size) (fun r e => by have := hr r e; omega)⟩
theorem OnR.put {H q : Nat} {w6 W : World} {z : Int} (h : OnR H q w6 z W) (y : Int) : OnR H q w6 y (W.setCell ⟨H + 1, 0, none⟩ (.int .i64 y)) :=
  ⟨h.bq.other (by omega) _ _, by have := h.ba.set 0 (.int .i64 y); simpa using this, h.bl.setCell (p := ⟨H + 1, 0, none⟩) (by show H ≤ H + 1; omega) _⟩
theorem OnR.keep {H q n₀ : Nat} {W : World} (hn : H + 1 < n₀) (v : Value) : KpN n₀ W (W.setCell ⟨H + 1, 0, none⟩ v) := fun B cs t fr hB hx =>
  (Below.heap_setCell W ⟨H + 1, 0, none⟩ v B (show B ≠ H + 1 by omega)).trans hx
set_option maxRecDepth 100000 in
set_option maxHeartbeats 4000000 in
theorem on_any (L : Int) (a : Option Addr) (N c : Nat) (l : List Nat) (b : Option Addr) (n d : Nat) (t : List Nd) (w : World) (hl : l.length = N) (hN : N ≤ 1152921504606846976) (hA : Rd w a (fl encV l)) (hF : FitV l)
    (ht : t.length = n) (hn60 : n ≤ 1152921504606846976) (hnd : n ≤ d) (hd : d ≤ 9223372036854775807) (hB : Rd w b (fl encNd t)) (hS : ∀ v, v < n → (nS t v).size ≤ 9223372036854775807) :
    Calls Tryd.prog 30 #[.agg #[.int .i64 L, .slice a N c], .slice b n d] w (OnPost w L l t) := by
  have hb0 := bl_alloc (Below.refl _ w) (.cells #[.int .i64 L, .slice a N c] 24)
  have hX := Blk.new w #[.int .i64 L, .slice a N c] 24
  have HC := Lib.hid (pcheck_any L a N c l b n d t (w.alloc (.cells #[.int .i64 L, .slice a N c] 24)) hl hN (hA.bl hb0) hF ht (by omega) (hB.bl hb0) hS)
  have HL := Lib.hid hl
  have HF := Lib.hid hF
  have HT := Lib.hid ht
  have HA := Lib.hid (hA.bl hb0)
  have HB := Lib.hid (hB.bl hb0)
  clear hl hA hF ht hB hS
  refine (callsIn_wide (n := 10)).1 ?_
  refine callsIn_of_wp_marks Tryd.func30 rfl trivial ?_ rfl
  simp only [Tryd.ntmps30, List.size_toArray, List.length_cons, List.length_nil, Nat.reduceAdd, Nat.reduceSub, Array.replicate_succ, Array.replicate_zero, List.push_toArray, List.append_toArray, List.nil_append, List.cons_append]
  refine wpIn_wide.2 ?_
  go_wp2_with fail
  refine HC.out.mono ?_
  rintro e w2 ⟨rfl, hb2⟩
  have HB2 := Lib.hid (bl_trans hb0 hb2)
  have HX2 := Lib.hid (hX.below hb2)
  have HRA := Lib.hid (HA.out.bl hb2)
  have HRB := Lib.hid (HB.out.bl hb2)
  obtain ⟨X, hXe⟩ : ∃ x, x = w.heap.size := ⟨_, rfl⟩
  rw [← hXe] at HX2 ⊢
  have HXE := Lib.hid hXe
  clear hb0 hb2 hX HC HA HB hXe
  by_cases h0 : chkP L l t = 0
  · have hLL : Hid (onL L l t = l.map (fun x => onN (cl t) x n)) := by show _ = _; unfold onL; rw [if_pos h0, HT.out]
    have HE := Lib.hid h0
    obtain ⟨k0, k1, k2⟩ := chkP_ok h0
    rw [h0]
    clear h0
    obtain ⟨M, rfl⟩ : ∃ M : Nat, L = M := ⟨(lvT t).length, k2.symm⟩
    obtain ⟨hM, hl64, hlt⟩ := chk_lt k0
    have hok := k1
    have HP : Hid (∀ v, 0 < v → v < n → 0 ≤ nP t v ∧ nP t v < v) := fun v h1 h2 => tree_par hok v h1 (by rw [HT.out]; exact h2)
    have hn1 : 1 ≤ n := by have := hok.1; have := HT.out; omega
    have hn63 : n ≤ 63 := by have := hok.2.1; have := HT.out; omega
    have hN64 : N ≤ 64 := by have := HL.out; omega
    have HLV : Hid ((lvsL t n).length ≤ 32) := by
      show _ ≤ _
      have e : lvT t = lvsL t n := by unfold lvT chkE; rw [if_pos hok, if_pos rfl, HT.out]
      rw [← e]; omega
    have e1 : w2.cell? ⟨X, 1, none⟩ = some (.slice a N c) := HX2.out.cell 1
    clear k0 k1 k2 hl64 hlt hok
    go_wp2_with fail
    clear e1
    have HI0 : OnI w2 [] 0 (.slice none 0 0) [] w2 := ⟨World.ownsRow_nil _ _ _ _, Below.refl _ _, fun D h => (by cases h), List.nodup_nil⟩
    obtain ⟨F, hFe⟩ : ∃ F, F = fun x => onN (cl t) x n := ⟨_, rfl⟩
    have HFE := Lib.hid hFe
    rw [← hFe] at hLL
    clear hFe
    refine wp_loop_ghost_k (fun r act W => ∃ (k : Nat) (v : Value) (Ds : List Nat) (u : Nat → Value), r = N - k ∧ k ≤ N ∧ act = { tmps := #[.agg #[.int .i64 M, .slice a N c], .slice b n d, .pointer (some ⟨X, 0, none⟩), undef, .slice none 0 0, .int .i64 0, .int .i64 0, v, undef, u 9, u 10, u 11, u 12, .agg #[.int .i64 M, .slice a N c], .slice b n d, .int .i64 0, .int .i64 0, .bool false, undef, .pointer (some ⟨X, 1, none⟩), .slice a N c, .int .i64 N, .int .i64 k, u 23, u 24, u 25, u 26, u 27, u 28, u 29, u 30, u 31, u 32, u 33, u 34, u 35, u 36, u 37, u 38, u 39], defers := dfs Ds } ∧ OnI w2 ((l.take k).map F) k v Ds W) N ?start ?round
    case start => exact ⟨0, _, [], fun _ => undef, rfl, by omega, rfl, HI0⟩
    case round =>
      rintro r act W ⟨k, v, Ds, u, rfl, hk, rfl, hI⟩ J K hJ hK
      by_cases hlt : k < N
      · obtain ⟨ba, oa, rfl, hba, hca⟩ := rdV (HRA.out.bl hI.bl) (by rw [HL.out]; omega)
        have G := hca k (by rw [HL.out]; exact hlt)
        have hx : vA l k < 18446744073709551616 := HF.out k (by rw [HL.out]; exact hlt)
        have HTK : Hid ((l.take (k + 1)).map F = (l.take k).map F ++ [F (vA l k)]) := by
          show _ = _
          rw [List.take_succ_eq_append_getElem (by rw [HL.out]; exact hlt), List.map_append, vA_get (by rw [HL.out]; exact hlt)]; rfl
        clear hca
        generalize vA l k = q at *
        have HI := Lib.hid hI
        clear hI
        go_wp2_with fail
        refine (nodes_any b n d _).mono ?_
        rintro e w6 ⟨rfl, rfl⟩
        obtain ⟨H, hH⟩ : ∃ H, H = W.heap.size := ⟨_, rfl⟩
        have hz5 : ((W.alloc (.cells #[.int .u64 q] 44)).alloc (.cells #[.int .i64 (-1)] 3)).heap.size = H + 1 + 1 := by simp only [World.size_alloc, hH]
        have hbq := ((Blk.new W #[.int .u64 q] 44).alloc (.cells #[.int .i64 (-1)] 3)).alloc (.cells #[.slice b n d] 27)
        have hba6 := (Blk.new2 W (.cells #[.int .u64 q] 44) #[.int .i64 (-1)] 3).alloc (.cells #[.slice b n d] 27)
        have hbN := Blk.new ((W.alloc (.cells #[.int .u64 q] 44)).alloc (.cells #[.int .i64 (-1)] 3)) #[.slice b n d] 27
        have hbl6 : Below W.heap.size W (((W.alloc (.cells #[.int .u64 q] 44)).alloc (.cells #[.int .i64 (-1)] 3)).alloc (.cells #[.slice b n d] 27)) := bl_alloc (bl_alloc (bl_alloc (Below.refl _ _) _) _) _
        have hz6 : (((W.alloc (.cells #[.int .u64 q] 44)).alloc (.cells #[.int .i64 (-1)] 3)).alloc (.cells #[.slice b n d] 27)).heap.size = H + 1 + 1 + 1 := by simp only [World.size_alloc, hH]
        rw [hz5] at hbN ⊢
        obtain ⟨w6, hw6⟩ : ∃ x, x = (((W.alloc (.cells #[.int .u64 q] 44)).alloc (.cells #[.int .i64 (-1)] 3)).alloc (.cells #[.slice b n d] 27)) := ⟨_, rfl⟩
        rw [← hw6] at hbq hba6 hbN hbl6 hz6 ⊢
        rw [← hH] at hbq hba6 ⊢
        have HH := Lib.hid hH
        have HBQ := Lib.hid hbq
        have HBA := Lib.hid hba6
        have HBN := Lib.hid hbN
        have HBL6 := Lib.hid hbl6
        have HZ6 := Lib.hid hz6
        clear hw6 hbq hba6 hbN hbl6 hz6 hz5 hH G
        go_wp2_with fail
        refine (wpIn_wide (n := 10)).1 ?_
        refine wpIn_rangeFunc_ownF rfl (by omega) (gf := 71) (lb := #[.pointer (some ⟨H + 1 + 1, 0, none⟩)]) rfl trivial (enters_of Tryd.func71 (by kernel_rfl) rfl)
          (nodes_stops 9 n (H + 1 + 1) w6.heap.size d b t w6 HT.out hn1 hn63 hnd hd HP.out HLV.out (by omega) (HBN.out.cell 0) (by have := HZ6.out; omega) (HRB.out.bl (bl_trans HI.out.bl HBL6.out)) (Nat.le_refl _))
          KpN.trans (fun W l o o' _ h hc _ => kpN_put W l o o' h hc) (Below.refl _ _) (fun _ => rfl) (fun ys W' => (∀ y ∈ ys, y.2.val ≠ q) ∧ OnR H q w6 (-1) W') (fun c ys W' => c = .exit 2 ∧ ∃ ys' y, ys = ys' ++ [y] ∧ (∀ z ∈ ys', z.2.val ≠ q) ∧ y.2.val = q ∧ OnR H q w6 y.1.val W')
          (fun ys W W' row h hg hr => ⟨h.1, h.2.grown (by have := HZ6.out; omega) hg (fun r e => (hr r e).1)⟩) (fun c ys W W' row h hg hr => by
            obtain ⟨h0, ys', y, h1, h2, h3, h4⟩ := h
            exact ⟨h0, ys', y, h1, h2, h3, h4.grown (by have := HZ6.out; omega) hg (fun r e => (hr r e).1)⟩) ⟨by simp, HBQ.out, HBA.out, Below.refl _ _⟩
          (fun x => { tmps := #[.agg #[.int .i64 M, .slice (some ⟨ba, oa, none⟩) N c], .slice b n d, .pointer (some ⟨X, 0, none⟩), undef, .slice none 0 0, .int .i64 0, .int .i64 0, v, undef, .pointer (some ⟨H, 0, none⟩), .pointer (some ⟨H + 1, 0, none⟩), .int .i64 (x.1.val : Int), .int .u64 (x.2.val : Int), .agg #[.int .i64 M, .slice (some ⟨ba, oa, none⟩) N c], .slice b n d, .int .i64 0, .int .i64 0, .bool false, undef, .pointer (some ⟨X, 1, none⟩), .slice (some ⟨ba, oa, none⟩) N c, .int .i64 N, .int .i64 k, .bool true, .pointer (some ⟨ba, oa + k, none⟩), .int .u64 q, .slice b n d, .func (.func 71) #[] #[.pointer (some ⟨H + 1 + 1, 0, none⟩)], .int .i64 (x.1.val : Int), .int .u64 (x.2.val : Int), u 30, u 31, u 32, u 33, u 34, u 35, u 36, u 37, u 38, u 39], defers := [] }) ?assign ?body ?done ?stop
        case assign =>
          intro l x W' K hK
          dsimp only [encQ, qN]
          gi_wp2
          exact hK
        case body =>
          rintro l pre ⟨⟨v, hv⟩, ⟨y, hy⟩⟩ W' ⟨h1, h2⟩ hlen
          have cq : W'.cell? ⟨H, 0, none⟩ = some (.int .u64 q) := h2.bq.cell 0
          have ca : W'.cell? ⟨H + 1, 0, none⟩ = some (.int .i64 (-1)) := h2.ba.cell 0
          have fa : W'.frozen? ⟨H + 1, 0, none⟩ = false := h2.ba.free 0
          have HR := Lib.hid h2
          have H1 := Lib.hid h1
          have HKP := Lib.hid (OnR.keep (H := H) (q := q) (n₀ := w6.heap.size) (W := W') (by have := HZ6.out; omega) (.int .i64 (v : Int)))
          clear h1 h2
          dsimp only
          by_cases e : y = q
          · have t1 : ((y : Int) == (q : Int)) = true := by simp [e]
            have t2 : decide ((y : Int) = (q : Int)) = true := by simp [e]
            have HE2 := Lib.hid e
            clear e
            gi_wp2
            exact ⟨KeepsOthers.setCell _ _ _, rfl, pre, (⟨v, hv⟩, ⟨y, hy⟩), rfl, H1.out, HE2.out, HR.out.put v⟩
          · have t1 : ((y : Int) == (q : Int)) = false := by simp; omega
            have t2 : decide ((y : Int) = (q : Int)) = false := by simp; omega
            have HE2 := Lib.hid e
            clear e
            gi_wp2
            refine ⟨KeepsOthers.refl _, KpN.refl _ _, fun z hz => ?_, HR.out⟩
            rcases List.mem_append.1 hz with hz | hz
            · exact H1.out z hz
            · rw [List.mem_singleton] at hz; subst hz; exact HE2.out
        case done =>
          rintro D ys W' hD hys ⟨hno, hor⟩ hKD
          have hfq : F q = -1 := by
            rw [HFE.out]
            refine onN_none n fun v hv e => ?_
            have hm : (v, cl t v) ∈ ys.map qN := by rw [hys]; exact List.mem_map.2 ⟨v, List.mem_range.2 hv, rfl⟩
            obtain ⟨y, hy, e2⟩ := List.mem_map.1 hm
            exact hno y hy (by have := congrArg Prod.snd e2; rw [← e]; exact this)
          have hD1 := hD
          have hDW : Hid (W.heap.size ≤ D) := by show _ ≤ _; have := HZ6.out; have := HH.out; omega
          have HKD := Lib.hid hKD
          have HOR := Lib.hid hor
          have HBW : Hid (Below W.heap.size W W') := by have h := HOR.out.bl; rw [HH.out] at h; exact HBL6.out.trans h
          have hc10 : W'.cell? ⟨H + 1, 0, none⟩ = some (.int .i64 (-1)) := HOR.out.ba.cell 0
          have HFQ : Hid (F q = (-1)) := hfq
          have how := owns_below HI.out.own HBW.out
          obtain ⟨A7, c7, rfl, _⟩ := owns_slice how
          have HOW := Lib.hid how
          have hbase : w2.heap.size ≤ (W'.alloc (.cells #[.int .i64 (-1)] 3)).heap.size := (bl_alloc (bl_trans HI.out.bl HBW.out) _).size
          have hl1 : Hid (k = ((l.take k).map F).length) := by
            show _ = _
            rw [List.length_map, List.length_take, HL.out]; omega
          clear hor hfq hKD hD hD1 how
          simp only [Exit.inBlock, Exit.then]
          go_wp2_with (at_builtin; refine push_I rfl (.tmp 34) (.tmp 36) rfl w2.heap.size (.slice A7 k c7) ((l.take k).map F) k hl1.out rfl (HOW.out.alloc _) _ _ (-1) rfl (Blk.new _ _ _) (by omega) hbase ?_; intro g2 cap w8 h81 h82 h83 h84; have H81 := Lib.hid h81; have H82 := Lib.hid h82; clear h81 h82 h83)
          have hNX := HI.out.next HBW.out hDW.out HKD.out H81.out H82.out
          have hNX2 : OnI w2 ((l.take (k + 1)).map F) (k + 1) (.slice (some ⟨g2, 0, none⟩) (k + 1) cap) (D :: Ds) w8 := by
            rw [HTK.out, HFQ.out]; exact hNX
          exact Handed.intro (N - (k + 1)) (by omega) (hJ _ _ _ ⟨k + 1, _, D :: Ds, ex_u rfl (by omega) hNX2 rfl⟩)
        case stop =>
          rintro D c pre W' hD ⟨k', hk', hpre⟩ ⟨rfl, ys', y, rfl, hno, hyq, hor⟩ hKD
          have h1 : ys'.map qN ++ [qN y] = ndsL t k' ++ [(k', cl t k')] := by rw [← ndsL_snoc, ← hpre, List.map_append]; rfl
          obtain ⟨h2, h3⟩ := List.append_inj' h1 rfl
          have h4 : qN y = (k', cl t k') := by simpa using h3
          have h5 : y.1.val = k' := congrArg Prod.fst h4
          have h6 : y.2.val = cl t k' := congrArg Prod.snd h4
          have hfq : F q = (k' : Int) := by
            rw [HFE.out]
            refine onN_some (by rw [← h6]; exact hyq) (fun u hu e => ?_) n hk'
            have hm : (u, cl t u) ∈ ys'.map qN := by rw [h2]; exact List.mem_map.2 ⟨u, List.mem_range.2 hu, rfl⟩
            obtain ⟨z, hz, e2⟩ := List.mem_map.1 hm
            exact hno z hz (by have := congrArg Prod.snd e2; rw [← e]; exact this)
          rw [h5] at hor
          clear h1 h2 h3 h4 h5 h6 hpre hno hyq
          obtain ⟨κ, hκ⟩ : ∃ κ : Int, κ = (k' : Int) := ⟨_, rfl⟩
          rw [← hκ] at hor hfq
          clear hκ
          have hD1 := hD
          have hDW : Hid (W.heap.size ≤ D) := by show _ ≤ _; have := HZ6.out; have := HH.out; omega
          have HKD := Lib.hid hKD
          have HOR := Lib.hid hor
          have HBW : Hid (Below W.heap.size W W') := by have h := HOR.out.bl; rw [HH.out] at h; exact HBL6.out.trans h
          have hc10 : W'.cell? ⟨H + 1, 0, none⟩ = some (.int .i64 κ) := HOR.out.ba.cell 0
          have HFQ : Hid (F q = κ) := hfq
          have how := owns_below HI.out.own HBW.out
          obtain ⟨A7, c7, rfl, _⟩ := owns_slice how
          have HOW := Lib.hid how
          have hbase : w2.heap.size ≤ (W'.alloc (.cells #[.int .i64 κ] 3)).heap.size := (bl_alloc (bl_trans HI.out.bl HBW.out) _).size
          have hl1 : Hid (k = ((l.take k).map F).length) := by
            show _ = _
            rw [List.length_map, List.length_take, HL.out]; omega
          clear hor hfq hKD hD hD1 how
          refine wpIn_wide.2 ?_
          go_wp2_with (at_builtin; refine push_I rfl (.tmp 34) (.tmp 36) rfl w2.heap.size (.slice A7 k c7) ((l.take k).map F) k hl1.out rfl (HOW.out.alloc _) _ _ κ rfl (Blk.new _ _ _) (by omega) hbase ?_; intro g2 cap w8 h81 h82 h83 h84; have H81 := Lib.hid h81; have H82 := Lib.hid h82; clear h81 h82 h83)
          have hNX := HI.out.next HBW.out hDW.out HKD.out H81.out H82.out
          have hNX2 : OnI w2 ((l.take (k + 1)).map F) (k + 1) (.slice (some ⟨g2, 0, none⟩) (k + 1) cap) (D :: Ds) w8 := by
            rw [HTK.out, HFQ.out]; exact hNX
          exact Handed.intro (N - (k + 1)) (by omega) (hJ _ _ _ ⟨k + 1, _, D :: Ds, ex_u rfl (by omega) hNX2 rfl⟩)
      · obtain rfl : k = N := by omega
        have HI := Lib.hid hI
        obtain ⟨A7, c7, rfl, _⟩ := owns_slice hI.own
        clear hI
        go_wp2_with fail
        refine leaves_all Ds _ HI.out.nd (fun D hD => (HI.out.ds D hD).2) fun w' ht => ⟨_, results_tmp2 rfl _ _ _, ?_⟩
        refine ⟨_, by rw [HE.out]; rfl, ?_, ht.below (bl_trans HB2.out HI.out.bl) fun D hD => Nat.le_trans HB2.out.size (HI.out.ds D hD).1⟩
        have h9 := ht.owns (fun D hD => (HI.out.ds D hD).2) HI.out.own
        rw [List.take_of_length_le (by rw [HL.out]; exact Nat.le_refl _)] at h9
        rw [hLL.out]
        have e : (l.map F).length = k := by rw [List.length_map, HL.out]
        rw [e]
        exact owns_mono h9 HB2.out.size
  · have hE : Hid (onL L l t = []) := if_neg h0
    obtain ⟨E, hEE⟩ : ∃ E, chkP L l t = E := ⟨_, rfl⟩
    have HEE := Lib.hid hEE
    rw [hEE] at h0 ⊢
    have d0 : (E == 0) = false := by simp [h0]
    have d1 : (E != 0) = true := by simp [h0]
    clear hEE h0
    go_wp2_with fail
    exact ⟨_, results_tmp2 rfl _ _ _, _, by rw [HEE.out]; rfl, by rw [hE.out]; exact World.ownsRow_nil _ _ _ _, HB2.out⟩
end Go.Proofs.YtnabbmdhhddfbaaDoor
namespace Go.Proofs.YtnabbmdhhddfbaaDoor
open Go Go.RowKit Go.Shelf
/-- z is the first node from j on whose set is x, or -1. -/
def FromJ (f : Nat → Nat) (x n j : Nat) (z : Int) : Prop := (z = -1 ∧ ∀ v, j ≤ v → v < n → f v ≠ x) ∨ ∃ v : Nat, z = v ∧ j ≤ v ∧ v < n ∧ f v = x ∧ ∀ u, j ≤ u → u < v → f u ≠ x
theorem FromJ.end {f : Nat → Nat} {x n : Nat} {z : Int} (h : FromJ f x n 0 z) : z = onN f x n := by
  rcases h with ⟨rfl, h⟩ | ⟨v, rfl, _, hv, h1, h2⟩
  · exact (onN_none n fun v hv => h v (by omega) hv).symm
  · exact (onN_some h1 (fun u hu => h2 u (by omega) hu) n hv).symm
theorem FromJ.yes {f : Nat → Nat} {x n j : Nat} (hj : j < n) (h : f j = x) : FromJ f x n j j := .inr ⟨j, rfl, Nat.le_refl _, hj, h, fun u h1 h2 => by omega⟩
theorem FromJ.no {f : Nat → Nat} {x n j : Nat} {z : Int} (hz : FromJ f x n (j + 1) z) (h : f j ≠ x) : FromJ f x n j z := by
  rcases hz with ⟨rfl, h2⟩ | ⟨v, rfl, h1, hv, h3, h4⟩
  · refine .inl ⟨rfl, fun v h1 hv => ?_⟩
    by_cases e : v = j
    · subst e; exact h
    · exact h2 v (by omega) hv
  · refine .inr ⟨v, rfl, by omega, hv, h3, fun u h5 h6 => ?_⟩
    by_cases e : u = j
    · subst e; exact h
    · exact h4 u (by omega) h6
set_option maxRecDepth 100000 in
set_option maxHeartbeats 4000000 in
theorem ron_any (L : Int) (a : Option Addr) (N c : Nat) (l : List Nat) (b : Option Addr) (n d : Nat) (t : List Nd) (w : World) (hl : l.length = N) (hN : N ≤ 1152921504606846976) (hA : Rd w a (fl encV l)) (hF : FitV l)
    (ht : t.length = n) (hn60 : n ≤ 1152921504606846976) (hB : Rd w b (fl encNd t)) (hS : ∀ v, v < n → (nS t v).size ≤ 9223372036854775807) :
    Calls Tryd.prog 31 #[.agg #[.int .i64 L, .slice a N c], .slice b n d] w (OnPost w L l t) := by
  have hb0 := bl_alloc (Below.refl _ w) (.cells #[.int .i64 L, .slice a N c] 32)
  have hX := Blk.new w #[.int .i64 L, .slice a N c] 32
  have HC := Lib.hid (rpcheck_any L a N c l b n d t (w.alloc (.cells #[.int .i64 L, .slice a N c] 32)) hl hN (hA.bl hb0) hF ht hn60 (hB.bl hb0) hS)
  have HL := Lib.hid hl
  have HF := Lib.hid hF
  have HT := Lib.hid ht
  have HS := Lib.hid hS
  have HA := Lib.hid (hA.bl hb0)
  have HB := Lib.hid (hB.bl hb0)
  clear hl hA hF ht hB hS
  go_enter Tryd.func31, Tryd.ntmps31
  go_wp2_with fail
  refine HC.out.mono ?_
  rintro e w2 ⟨rfl, hb2⟩
  have HB2 := Lib.hid (bl_trans hb0 hb2)
  have HX2 := Lib.hid (hX.below hb2)
  have HRA := Lib.hid (HA.out.bl hb2)
  have HRB := Lib.hid (HB.out.bl hb2)
  obtain ⟨X, hXe⟩ : ∃ x, x = w.heap.size := ⟨_, rfl⟩
  rw [← hXe] at HX2 ⊢
  have HXE := Lib.hid hXe
  clear hb0 hb2 hX HC HA HB hXe
  by_cases h0 : chkP L l t = 0
  · have hLL : Hid (onL L l t = l.map (fun x => onN (cl t) x n)) := by show _ = _; unfold onL; rw [if_pos h0, HT.out]
    have HE := Lib.hid h0
    obtain ⟨k0, hok, k2⟩ := chkP_ok h0
    rw [h0]
    clear h0
    obtain ⟨M, rfl⟩ : ∃ M : Nat, L = M := ⟨(lvT t).length, k2.symm⟩
    obtain ⟨hM, hl64, hlt⟩ := chk_lt k0
    have hn1 : 1 ≤ n := by have := hok.1; have := HT.out; omega
    have hn63 : n ≤ 63 := by have := hok.2.1; have := HT.out; omega
    have hN64 : N ≤ 64 := by have := HL.out; omega
    have HLV : Hid ((lvsL t n).length ≤ 32) := by
      show _ ≤ _
      have e : lvT t = lvsL t n := by unfold lvT chkE; rw [if_pos hok, if_pos rfl, HT.out]
      rw [← e]; omega
    have HCL : Hid (∀ v, v < n → cl t v < 18446744073709551616) := fun v hv => Nat.lt_of_lt_of_le (cl_lt (n := 32) (by rw [HT.out]; exact HLV.out) v (by rw [HT.out]; exact hv)) (by decide)
    have HCC := Lib.hid (fun (v : Nat) (hv : v < n) W (h : Below w2.heap.size w2 W) => rcl_any b n d v t W HT.out hok hv (HRB.out.bl h) HS.out)
    obtain ⟨F, hFe⟩ : ∃ F, F = fun x => onN (cl t) x n := ⟨_, rfl⟩
    have HFE : Hid (∀ x, F x = onN (cl t) x n) := fun x => by rw [hFe]
    rw [← hFe] at hLL
    clear hFe k0 k2 hl64 hlt hok
    obtain ⟨n', rfl⟩ : ∃ n', n = n' + 1 := ⟨n - 1, by omega⟩
    go_wp2_with fail
    go_loopw [8, 7] (fun x v wr => ∃ k : Nat, k ≤ N ∧ x = .int .i64 k ∧ Hid (wr.ownsRow w2.heap.size 3 1 v k (fl encI ((l.take k).map F))) ∧ Hid (Below w2.heap.size w2 wr)) (fun x _ _ => N - (intOf x).toNat)
    case atStart => exact ⟨0, by omega, rfl, World.ownsRow_nil _ _ _ _, Below.refl _ _⟩
    case round =>
      obtain ⟨k, hk, rfl, how, hbl⟩ := hrel
      have x1 : wr.cell? ⟨X, 1, none⟩ = some (.slice a N c) := (HX2.out.below hbl.out).cell 1
      by_cases hlt : k < N
      · have HTK : Hid ((l.take (k + 1)).map F = (l.take k).map F ++ [F (vA l k)]) := by
          show _ = _
          rw [List.take_succ_eq_append_getElem (by rw [HL.out]; exact hlt), List.map_append, vA_get (by rw [HL.out]; exact hlt)]; rfl
        obtain ⟨wo, rfl⟩ : ∃ x : World, x = wr := ⟨_, rfl⟩
        go_wp2_with fail
        go_loopw [10, 9] (fun x y wx => ∃ (j : Nat) (z : Int), j ≤ n' + 1 ∧ x = .int .i64 ((j : Int) - 1) ∧ y = .int .i64 z ∧ FromJ (cl t) (vA l k) (n' + 1) j z ∧ Hid (Below wo.heap.size wo wx)) (fun x _ _ => (intOf x + 1).toNat)
        case atStart => exact ⟨n' + 1, -1, by omega, by simp, rfl, .inl ⟨rfl, fun v h1 h2 => by omega⟩, Below.refl _ _⟩
        case round =>
          obtain ⟨j, z, hj, rfl, rfl, hz, hbx⟩ := hrel
          by_cases hj0 : j = 0
          · subst hj0
            have hz' := hz.end
            have HFQ : Hid (F (vA l k) = z) := by show _ = _; rw [HFE.out, hz']
            have hbase : w2.heap.size ≤ (wr.alloc (.cells #[.int .i64 z] 3)).heap.size := (bl_alloc (bl_trans hbl.out hbx.out) _).size
            have HOW := Lib.hid (owns_below how.out hbx.out)
            have HB9 := Lib.hid (bl_trans hbl.out hbx.out)
            have hl1 : Hid (k = ((l.take k).map F).length) := by
              show _ = _
              rw [List.length_map, List.length_take, HL.out]; omega
            obtain ⟨A7, c7, rfl, _⟩ := owns_slice how.out
            rw [HFQ.out] at HTK
            clear how hbl hbx hz hz' x1
            go_wp2_with (at_builtin; refine push_I rfl (.tmp 47) (.tmp 49) rfl w2.heap.size (.slice A7 k c7) ((l.take k).map F) k hl1.out rfl (HOW.out.alloc _) _ _ z rfl (Blk.new _ _ _) (by omega) hbase ?_; intro g2 cap w8 h81 h82 h83 h84; rw [← HTK.out] at h81; have H81 := Lib.hid h81; have H82 := Lib.hid h82; clear h81 h82 h83)
            have HB8 := Lib.hid (bl_grown (bl_alloc HB9.out (.cells #[.int .i64 z] 3)) H82.out (fun x e => (HOW.out.lt x e).1))
            go_roundw
            case rel => exact ⟨k + 1, by omega, by go_num, H81, HB8⟩
            case measure => simp [intOf]; omega
          · obtain ⟨i, rfl⟩ : ∃ i, j = i + 1 := ⟨j - 1, by omega⟩
            have e9 : (((i + 1 : Nat) : Int) - 1) = (i : Int) := by omega
            rw [e9]
            have hi : i < n' + 1 := by omega
            have HK := Lib.hid (HCC.out i hi wr (bl_trans hbl.out hbx.out))
            have hba2 := rdV (HRA.out.bl (bl_trans hbl.out hbx.out)) (by rw [HL.out]; omega)
            obtain ⟨ba, oa, rfl, hba, hca⟩ := hba2
            have HG := Lib.hid (hca k (by rw [HL.out]; exact hlt))
            have HXX := Lib.hid (((HX2.out.below hbl.out).below hbx.out))
            have HY := Lib.hid (FromJ.yes (f := cl t) (x := vA l k) hi)
            have HN := Lib.hid (fun h => FromJ.no (f := cl t) (x := vA l k) (j := i) hz h)
            clear hca hz
            generalize vA l k = q at *
            generalize hA : cl t i = A at *
            go_wp2_with fail
            refine HK.out.mono ?_
            rintro e w3 ⟨rfl, hb3⟩
            have HB3 := Lib.hid (bl_trans hbx.out hb3)
            have x2 : w3.cell? ⟨X, 1, none⟩ = some (.slice (some ⟨ba, oa, none⟩) N c) := (HXX.out.below hb3).cell 1
            have G : w3.cell? ⟨ba, oa + k, none⟩ = some (.int .u64 q) := (hb3.cell (p := ⟨ba, oa + k, none⟩) hba).trans HG.out
            clear hb3 hbx HK HXX
            by_cases e : A = q
            · have t1 : ((A : Int) == (q : Int)) = true := by simp [e]
              have t2 : decide ((A : Int) = (q : Int)) = true := by simp [e]
              have hz2 := HY.out e
              clear e HY HN
              go_wp2_with fail
              go_roundw
              case rel => exact ⟨i, i, by omega, by go_num, rfl, hz2, HB3⟩
              case measure => simp [intOf] <;> omega
            · have t1 : ((A : Int) == (q : Int)) = false := by simp; omega
              have t2 : decide ((A : Int) = (q : Int)) = false := by simp; omega
              have hz2 := HN.out e
              clear e HY HN
              go_wp2_with fail
              go_roundw
              case rel => exact ⟨i, z, by omega, by go_num, rfl, hz2, HB3⟩
              case measure => simp [intOf] <;> omega
      · obtain rfl : k = N := by omega
        have HBW := Lib.hid (bl_trans HB2.out hbl.out)
        have HOW := Lib.hid (owns_mono how.out HB2.out.size)
        obtain ⟨A7, c7, rfl, _⟩ := owns_slice HOW.out
        clear how hbl
        go_wp2_with fail
        refine bodyPost_ret (v := .tuple #[.slice A7 k c7, .int .i64 0]) (by simp [results, Tryd.results31, go_sem]) rfl ?_
        refine ⟨_, by rw [HE.out], ?_, HBW.out⟩
        have h9 := HOW.out
        rw [List.take_of_length_le (by rw [HL.out]; exact Nat.le_refl _)] at h9
        rw [hLL.out]
        have e : (l.map F).length = k := by rw [List.length_map, HL.out]
        rw [e]
        exact h9
  · have hE : Hid (onL L l t = []) := if_neg h0
    obtain ⟨E, hEE⟩ : ∃ E, chkP L l t = E := ⟨_, rfl⟩
    have HEE := Lib.hid hEE
    rw [hEE] at h0 ⊢
    have d0 : (E == 0) = false := by simp [h0]
    have d1 : (E != 0) = true := by simp [h0]
    clear hEE h0
    go_wp2_with fail
    exact bodyPost_ret (v := .tuple #[.slice none 0 0, .int .i64 E]) (by simp [results, Tryd.results31, go_sem]) rfl ⟨_, by rw [HEE.out], by rw [hE.out]; exact World.ownsRow_nil _ _ _ _, HB2.out⟩
end Go.Proofs.YtnabbmdhhddfbaaDoor
namespace Go.Proofs.YtnabbmdhhddfbaaDoor
open Go Go.RowKit Go.Shelf
theorem onL_64 (L : Int) (l : List Nat) (t : List Nd) : (onL L l t).length ≤ 64 := by
  by_cases q : chkP L l t = 0
  · have h : (onL L l t).length ≤ l.length := by unfold onL; split <;> simp
    obtain ⟨h1, h2, h3⟩ := chkP_ok q
    obtain ⟨M, rfl⟩ : ∃ M : Nat, L = M := ⟨(lvT t).length, h3.symm⟩
    have := (chk_lt h1).2.1
    omega
  · unfold onL; rw [if_neg q]; simp
set_option maxRecDepth 100000 in
set_option maxHeartbeats 4000000 in
theorem onlaw_any (L : Int) (a : Option Addr) (N c : Nat) (l : List Nat) (b : Option Addr) (n d : Nat) (t : List Nd) (w : World) (hl : l.length = N) (hN : N ≤ 1152921504606846976) (hA : Rd w a (fl encV l)) (hF : FitV l)
    (ht : t.length = n) (hn60 : n ≤ 1152921504606846976) (hnd : n ≤ d) (hd : d ≤ 9223372036854775807) (hB : Rd w b (fl encNd t)) (hS : ∀ v, v < n → (nS t v).size ≤ 9223372036854775807) :
    Calls Tryd.prog 8 #[.agg #[.int .i64 L, .slice a N c], .slice b n d] w fun e w' => e = .returned (.bool true) ∧ Below w.heap.size w w' := by
  have hb0 := bl_alloc (Below.refl _ w) (.cells #[.int .i64 L, .slice a N c] 24)
  have hX := Blk.new w #[.int .i64 L, .slice a N c] 24
  have HL := Lib.hid hl
  have HF := Lib.hid hF
  have HT := Lib.hid ht
  have HS := Lib.hid hS
  have HA := Lib.hid (hA.bl hb0)
  have HB := Lib.hid (hB.bl hb0)
  have HB0 := Lib.hid hb0
  have HBX := Lib.hid hX
  have HW := Lib.hid works_any
  have hle := onL_64 L l t
  clear hl hA hF ht hB hS hb0 hX
  obtain ⟨X, hX⟩ : ∃ x, x = w.heap.size := ⟨_, rfl⟩
  rw [← hX] at HBX
  go_enter Tryd.func8, Tryd.ntmps8
  go_wp2_with fail
  refine (few_any L a N c _).mono ?_
  rintro e w1 ⟨rfl, hb1⟩
  have HB1 := Lib.hid (bl_trans HB0.out hb1)
  have HA1 := Lib.hid (HA.out.bl hb1)
  have HT1 := Lib.hid (HB.out.bl hb1)
  have HBX1 := Lib.hid (HBX.out.below hb1)
  rw [← hX]
  have HX := Lib.hid hX
  clear hb1 hX HB0 HA HBX HB
  obtain ⟨fb, hfb⟩ : ∃ b, (decide (N ≤ 20) || (decide (64 < N) && decide (N < 70))) = b := ⟨_, rfl⟩
  rw [hfb]
  clear hfb
  cases fb with
  | false =>
    go_wp2_with fail
    refine (HW.out _).mono ?_
    rintro e w2 ⟨rfl, hb2⟩
    go_wp2_with fail
    go_ret
    exact ⟨rfl, bl_trans HB1.out hb2⟩
  | true =>
    have e0 : w1.cell? ⟨X, 0, none⟩ = some (.int .i64 L) := HBX1.out.cell 0
    have e1 : w1.cell? ⟨X, 1, none⟩ = some (.slice a N c) := HBX1.out.cell 1
    by_cases h70 : 70 < n
    · have r1 : decide (70 < (n : Int)) = true := decide_eq_true (by omega)
      have r2 : decide (70 < n) = true := decide_eq_true h70
      go_wp2_with fail
      refine (HW.out _).mono ?_
      rintro e w2 ⟨rfl, hb2⟩
      go_wp2_with fail
      go_ret
      exact ⟨rfl, bl_trans HB1.out hb2⟩
    · have r1 : decide (70 < (n : Int)) = false := decide_eq_false (by omega)
      have r2 : decide (70 < n) = false := decide_eq_false h70
      go_wp2_with fail
      refine (on_any L a N c l b n d t w1 HL.out hN HA1.out HF.out HT.out hn60 hnd hd HT1.out HS.out).mono ?_
      rintro e w2 ⟨v, rfl, ho, hb2⟩
      have HB2 := Lib.hid (bl_trans HB1.out hb2)
      have HA2 := Lib.hid (HA1.out.bl hb2)
      have HT2 := Lib.hid (HT1.out.bl hb2)
      have HBX2 := Lib.hid (HBX1.out.below hb2)
      have HO2 := Lib.hid ho
      have f0 : w2.cell? ⟨X, 0, none⟩ = some (.int .i64 L) := HBX2.out.cell 0
      have f1 : w2.cell? ⟨X, 1, none⟩ = some (.slice a N c) := HBX2.out.cell 1
      clear ho hb2 e0 e1 HB1 HA1 HT1 HBX1
      go_wp2_with fail
      refine (other_any L a N c _).mono ?_
      rintro e w3 ⟨rfl, hb3⟩
      have HB3 := Lib.hid (bl_trans HB2.out hb3)
      have HA3 := Lib.hid (HA2.out.bl hb3)
      have HT3 := Lib.hid (HT2.out.bl hb3)
      have HO3 := Lib.hid (owns_below HO2.out hb3)
      clear hb3 f0 f1 HB2 HA2 HT2 HBX2 HO2
      go_wp2_with fail
      refine (ron_any L a N c l b n d t w3 HL.out hN HA3.out HF.out HT.out hn60 HT3.out HS.out).mono ?_
      rintro e w7 ⟨v', rfl, ho4, hb7⟩
      have HB7 := Lib.hid (bl_trans HB3.out hb7)
      have ho7 := owns_below HO3.out hb7
      have hp7 := ho4
      obtain ⟨A1, c1, rfl, _⟩ := owns_slice ho7
      obtain ⟨A2, c2, rfl, _⟩ := owns_slice hp7
      have HI := Lib.hid (ints_same A1 A2 (onL L l t).length (onL L l t).length c1 c2 (onL L l t) w7 rfl rfl (by omega) (by omega) (rd_of_owns ho7) (rd_of_owns hp7))
      obtain ⟨z, hz⟩ : ∃ z, z = (onL L l t).length := ⟨_, rfl⟩
      obtain ⟨E, hE⟩ : ∃ z, z = chkP L l t := ⟨_, rfl⟩
      rw [← hz] at HI ⊢
      rw [← hE]
      clear ho7 hp7 ho4 hb7 hz hE HB3 HO3 HA3 HT3 hle
      go_wp2_with fail
      refine HI.out.mono ?_
      rintro e w8 ⟨rfl, nq, rfl⟩
      have HB8 := Lib.hid (bl_drewN HB7.out nq)
      go_wp2_with fail
      refine (HW.out _).mono ?_
      rintro e w9 ⟨rfl, hb9⟩
      go_wp2_with fail
      go_ret
      exact ⟨rfl, bl_trans HB8.out hb9⟩
end Go.Proofs.YtnabbmdhhddfbaaDoor
