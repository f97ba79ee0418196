/- phylo.Losses at every table and tree. The example of all statements: plain. The example of all statements: works answers true. works: the example of all statements. The document's Largest at every table. The statement PhyloLargest: the walk. -/
import Derived.Test.YtnabbmdhhddfbaaDoorU4
import Derived.Test.YtnabbmdhhddfbaaDoorU3
import Derived.Laws.EntriesVeiled
import Derived.Test.YtnabbmdhhddfbaaDoorU1
namespace Go.Proofs.YtnabbmdhhddfbaaDoor
open Go.RowKit Go.Shelf
attribute [local go_sem] Oper.semAt_some
def dfs (Ds : List Nat) : List Deferred := Ds.map fun D => { target := .collected D, args := #[] }
theorem keeps_drewN (W : World) (n : Nat) : KeepsOthers W (W.drewN n) := ⟨Nat.le_refl _, fun _ _ h _ => h⟩
theorem ex_u {F : (Nat → Value) → Act} {a : Act} {p q r : Prop} (hp : p) (hq : q) (hr : r) (h : a = F (fun j => a.tmps.getD j undef)) : ∃ u, p ∧ q ∧ a = F u ∧ r := ⟨_, hp, hq, h, hr⟩
/-- w' is w, the blocks Ds turned. -/
structure Trn (Ds : List Nat) (w w' : World) : Prop where
  os : w'.os = w.os
  tape : w'.tape = w.tape
  output : w'.output = w.output
  size : w'.heap.size = w.heap.size
  block : ∀ k, k ∉ Ds → w'.heap[k]? = w.heap[k]?
theorem leaves_all {P : Program} {fn : Func} {tmps : Array Value} {R : Ending → World → Prop} : ∀ (Ds : List Nat) (w : World), Ds.Nodup → (∀ D ∈ Ds, w.heap[D]? = some (Obj.deferred (some []))) →
    (∀ w', Trn Ds w w' → ∃ v, (results fn tmps).run P w' = .ok v w' ∧ R (.returned v) w') → LeavesInM Fence.wide 10 P fn tmps R (dfs Ds) .returning w
  | [], w, _, _, h => h w ⟨rfl, rfl, rfl, rfl, fun _ _ => rfl⟩
  | D :: Ds, w, hn, hd, h => by
    have h0 := hd D List.mem_cons_self
    have hlt := (Array.getElem?_eq_some_iff.1 h0).1
    have hg := grownBy_putObj' w D (Obj.deferred none)
    have hD := (List.nodup_cons.1 hn).1
    refine ⟨by simp, .inl ⟨D, _, rfl, run_takeDeferred h0, leaves_all Ds _ (List.nodup_cons.1 hn).2 (fun D' hD' => ?_) fun w' ht => h w' ?_⟩⟩
    · have h1 := hd D' (List.mem_cons_of_mem _ hD')
      exact (hg.block D' (Array.getElem?_eq_some_iff.1 h1).1 (fun e => hD (by rw [← Option.some.inj e]; exact hD'))).trans h1
    · have hz : (w.putObj D (Obj.deferred none)).heap.size = w.heap.size := by simp [World.putObj]
      refine ⟨ht.os.trans hg.os, ht.tape.trans hg.tape, ht.output.trans hg.output, ht.size.trans hz, fun k hk => ?_⟩
      have hk1 : k ≠ D := fun e => hk (by rw [e]; exact List.mem_cons_self)
      have hk2 : k ∉ Ds := fun e => hk (List.mem_cons_of_mem _ e)
      rw [ht.block k hk2]
      by_cases hkl : k < w.heap.size
      · exact hg.block k hkl (fun e => hk1 (Option.some.inj e))
      · rw [Array.getElem?_eq_none (by rw [hz]; omega), Array.getElem?_eq_none (by omega)]
theorem Trn.below {Ds : List Nat} {a w w' : World} {B : Nat} (h : Trn Ds w w') (hb : Below B a w) (hd : ∀ D ∈ Ds, B ≤ D) : Below B a w' :=
  ⟨h.os.trans hb.os, h.tape.trans hb.tape, h.output.trans hb.output, by rw [h.size]; exact hb.size, fun k hk => (h.block k (fun e => by have := hd k e; omega)).trans (hb.block k hk)⟩
theorem Trn.owns {Ds : List Nat} {w w' : World} {base e k : Nat} {v : Value} {n : Nat} {cs : List Value} (h : Trn Ds w w') (hd : ∀ D ∈ Ds, w.heap[D]? = some (Obj.deferred (some []))) (ho : w.ownsRow base e k v n cs) : w'.ownsRow base e k v n cs := by
  refine ⟨ho.1, ?_⟩
  rcases ho.2 with h2 | ⟨g, cap, cur, hv, hg, hh, r⟩
  · exact .inl h2
  · exact .inr ⟨g, cap, cur, hv, hg, (h.block g (fun e => by have := hd g e; rw [hh] at this; cases this)).trans hh, r⟩
/-- What lists of pairs write. -/
def setP (l : List (Nat × Nat)) : Nat → Nat := l.foldl (fun f x v => if v = x.1 then x.2 else f v) (fun _ => 0)
theorem setP_snoc (l : List (Nat × Nat)) (x : Nat × Nat) : setP (l ++ [x]) = fun v => if v = x.1 then x.2 else setP l v := by
  unfold setP; rw [List.foldl_append]; rfl
theorem setP_nds (t : List Nd) : ∀ k v, setP (ndsL t k) v = if v < k then cl t v else 0 := by
  intro k
  induction k with
  | zero => intro v; rfl
  | succ k ih =>
    intro v
    rw [ndsL_snoc, setP_snoc]
    show (if v = k then cl t k else setP (ndsL t k) v) = _
    rw [ih]
    by_cases e : v = k
    · subst e; rw [if_pos rfl, if_pos (by omega)]
    · rw [if_neg e]
      by_cases e2 : v < k
      · rw [if_pos e2, if_pos (by omega)]
      · rw [if_neg e2, if_neg (by omega)]
/-- The last of the first k nodes that has all of x, or the root. -/
def lAt (f : Nat → Nat) (x : Nat) : Nat → Nat
  | 0 => 0
  | k + 1 => if f k &&& x = x then k else lAt f x k
/-- Is innovation x lost on the way to node v? -/
def lossB (t : List Nd) (f : Nat → Nat) (x at_ v : Nat) : Bool := ((decide (0 < v) && decide ((at_ : Int) ≤ nP t v)) && !decide (x &&& f (nP t v).toNat = 0)) && decide (x &&& f v = 0)
def lCnt (t : List Nd) (f : Nat → Nat) (x at_ : Nat) : Nat → Nat
  | 0 => 0
  | k + 1 => lCnt t f x at_ k + if lossB t f x at_ k then 1 else 0
def lossN (t : List Nd) (x : Nat) : Nat := lCnt t (cl t) x (lAt (cl t) x t.length) t.length
theorem lCnt_le (t : List Nd) (f : Nat → Nat) (x a : Nat) : ∀ k, lCnt t f x a k ≤ k := by
  intro k
  induction k with
  | zero => exact Nat.le_refl _
  | succ k ih => unfold lCnt; split <;> omega
theorem lAt_lt (f : Nat → Nat) (x : Nat) : ∀ k, lAt f x k ≤ k := by
  intro k
  induction k with
  | zero => exact Nat.le_refl _
  | succ k ih => unfold lAt; split <;> omega
/-- What Losses answers. -/
def lossL (L : Int) (l : List Nat) (t : List Nd) : List Nat := if chkP L l t = 0 then l.map (lossN t) else []
theorem chkP_ok {L : Int} {l : List Nat} {t : List Nd} (h : chkP L l t = 0) : chkT L l = 0 ∧ TreeOk t ∧ ((lvT t).length : Int) = L := by
  unfold chkP at h
  by_cases q : chkT L l = 0
  · rw [if_neg (fun h => h q)] at h
    by_cases q2 : chkE t = 0
    · rw [if_neg (fun h => h q2)] at h
      by_cases q3 : ((lvT t).length : Int) = L
      · exact ⟨q, chk_tree q2, q3⟩
      · rw [if_neg q3] at h; omega
    · rw [if_pos q2] at h; exact absurd h q2
  · rw [if_pos q] at h; exact absurd h q
/-- The range's invariant: row g is written, other blocks lie as they lay. -/
def LsI (w6 : World) (g n : Nat) (ys : List (NQ n)) (W : World) : Prop := Blk W g (ofF n (fun v => .int .u64 (setP (ys.map qN) v : Nat))) 61 ∧ w6.grownBy W (some g)
theorem LsI.own (w6 : World) (g n : Nat) : OwnFrom w6.heap.size (LsI w6 g n) := by
  intro ys W W' row ⟨h1, h2⟩ hg hr
  have hne : ∀ r, row = some r → w6.heap.size ≤ r ∧ r ≠ g := fun r e => by
    obtain ⟨hb, o, ho, hc⟩ := hr r e
    refine ⟨hb, fun e2 => ?_⟩
    subst e2
    unfold Blk at h1
    rw [h1] at ho
    cases ho
    cases hc
  refine ⟨(hg.block g h1.lt (fun e => (hne g e.symm).2 rfl)).trans h1, hg.os.trans h2.os, hg.tape.trans h2.tape, hg.output.trans h2.output, Nat.le_trans h2.size hg.size, fun k hk hkg => ?_⟩
  exact (hg.block k (Nat.lt_of_lt_of_le hk h2.size) (fun e => by have := (hne k e.symm).1; omega)).trans (h2.block k hk hkg)
theorem kpN_put {n₀ : Nat} (W : World) (l : Nat) (o o' : Obj) (h : W.heap[l]? = some o) (hc : o.isCells = false) : KpN n₀ W (W.putObj l o') := by
  intro B cs t fr _ hB
  have hg := grownBy_putObj' W l o'
  refine (hg.block B (Array.getElem?_eq_some_iff.1 hB).1 (fun e => ?_)).trans hB
  have := Option.some.inj e
  subst this
  rw [h] at hB
  cases hB
  cases hc
theorem rd_grown {w2 w6 w9 : World} {g : Nat} {a : Option Addr} {cs : List Value} (h : Rd w2 a cs) (hb : Below w2.heap.size w2 w6) (hg : w6.grownBy w9 (some g)) (hgz : w2.heap.size ≤ g) : Rd w9 a cs := by
  intro h0
  obtain ⟨b, off, e, hlt, hc⟩ := h h0
  have h1 := hb.size
  have h2 := hg.size
  refine ⟨b, off, e, by omega, fun i hi => ?_⟩
  exact hg.cell (a := ⟨b, off + i, none⟩) ((hb.cell (p := ⟨b, off + i, none⟩) hlt).trans (hc i hi)) (fun e2 => by have := Option.some.inj e2; simp at this; omega)
theorem grownBy_same (w : World) (g : Nat) : w.grownBy w (some g) := ⟨rfl, rfl, rfl, Nat.le_refl _, fun _ _ _ => rfl⟩
def LsPost (w : World) (L : Int) (l : List Nat) (t : List Nd) (e : Ending) (w' : World) : Prop :=
  ∃ v, e = .returned (.tuple #[v, .int .i64 (chkP L l t)]) ∧ w'.ownsRow w.heap.size 3 1 v (lossL L l t).length (fl encI (iN (lossL L l t))) ∧ Below w.heap.size w w'
set_option maxRecDepth 100000 in
set_option maxHeartbeats 4000000 in
theorem losses_any (L : Int) (a : Option Addr) (N c : Nat) (l : List Nat) (b : Option Addr) (n d : Nat) (t : List Nd) (w : World) (hl : l.length = N) (hN : N ≤ 1152921504606846976) (hA : Rd w a (fl encV l)) (hF : FitV l)
    (ht : t.length = n) (hn60 : n ≤ 1152921504606846976) (hnd : n ≤ d) (hd : d ≤ 9223372036854775807) (hB : Rd w b (fl encNd t)) (hS : ∀ v, v < n → (nS t v).size ≤ 9223372036854775807) :
    Calls Tryd.prog 24 #[.agg #[.int .i64 L, .slice a N c], .slice b n d] w (LsPost w L l t) := by
  have hb0 := bl_alloc (Below.refl _ w) (.cells #[.int .i64 L, .slice a N c] 24)
  have hX := Blk.new w #[.int .i64 L, .slice a N c] 24
  have HC := Lib.hid (pcheck_any L a N c l b n d t (w.alloc (.cells #[.int .i64 L, .slice a N c] 24)) hl hN (hA.bl hb0) hF ht (by omega) (hB.bl hb0) hS)
  have HL := Lib.hid hl
  have HF := Lib.hid hF
  have HT := Lib.hid ht
  have HA := Lib.hid (hA.bl hb0)
  have HB := Lib.hid (hB.bl hb0)
  clear hl hA hF ht hB hS
  refine (callsIn_wide (n := 10)).1 ?_
  refine callsIn_of_wp_marks Tryd.func24 rfl trivial ?_ rfl
  simp only [Tryd.ntmps24, List.size_toArray, List.length_cons, List.length_nil, Nat.reduceAdd, Nat.reduceSub, Array.replicate_succ, Array.replicate_zero, List.push_toArray, List.append_toArray, List.nil_append, List.cons_append]
  refine wpIn_wide.2 ?_
  go_wp2_with fail
  refine HC.out.mono ?_
  rintro e w2 ⟨rfl, hb2⟩
  have HB2 := Lib.hid (bl_trans hb0 hb2)
  have HX2 := Lib.hid (hX.below hb2)
  have HRA := Lib.hid (HA.out.bl hb2)
  have HRB := Lib.hid (HB.out.bl hb2)
  obtain ⟨X, hXe⟩ : ∃ x, x = w.heap.size := ⟨_, rfl⟩
  rw [← hXe] at HX2 ⊢
  have HXE := Lib.hid hXe
  clear hb0 hb2 hX HC HA HB hXe
  by_cases h0 : chkP L l t = 0
  · have hLL : Hid (lossL L l t = l.map (lossN t)) := if_pos h0
    have HE := Lib.hid h0
    obtain ⟨k0, k1, k2⟩ := chkP_ok h0
    rw [h0]
    clear h0
    obtain ⟨M, rfl⟩ : ∃ M : Nat, L = M := ⟨(lvT t).length, k2.symm⟩
    obtain ⟨hM, hl64, hlt⟩ := chk_lt k0
    have hok := k1
    have HP : Hid (∀ v, 0 < v → v < n → 0 ≤ nP t v ∧ nP t v < v) := fun v h1 h2 => tree_par hok v h1 (by rw [HT.out]; exact h2)
    have hn1 : 1 ≤ n := by have := hok.1; have := HT.out; omega
    have hn63 : n ≤ 63 := by have := hok.2.1; have := HT.out; omega
    have hN64 : N ≤ 64 := by have := HL.out; omega
    have HLV : Hid ((lvsL t n).length ≤ 32) := by
      show _ ≤ _
      have e : lvT t = lvsL t n := by unfold lvT chkE; rw [if_pos hok, if_pos rfl, HT.out]
      rw [← e]; omega
    have HCL : Hid (∀ v, v < n → cl t v < 18446744073709551616) := fun v hv => Nat.lt_of_lt_of_le (cl_lt (n := 32) (by rw [HT.out]; exact HLV.out) v (by rw [HT.out]; exact hv)) (by decide)
    obtain ⟨i0, hi0, hz0, hz1, hz2⟩ := info_parts info_G
    have hmk := run_make (P := Tryd.prog) w2 62 61 i0 _ Tryd.underlying62 hi0 hz0 .i64 .i64 (n : Int) (n : Int) (by omega) (by omega) (by rw [hz2]; omega) (by omega)
    simp only [hz1, Int.toNat_natCast, Nat.mul_one] at hmk
    clear hi0 hz0 hz1 hz2 k0 k1 k2 hl64 hlt hok
    go_upto_region 5 with fail
    have hg0 := ((Blk.new w2 (madeCells #[.int .u64 0] n) 61).alloc (.cells #[.slice (some ⟨w2.heap.size, 0, none⟩) n n] 62)).alloc (.cells #[.slice b n d] 27)
    have hb70 := (Blk.new2 w2 (.cells (madeCells #[.int .u64 0] n) 61) #[.slice (some ⟨w2.heap.size, 0, none⟩) n n] 62).alloc (.cells #[.slice b n d] 27)
    have hbN := Blk.new ((w2.alloc (.cells (madeCells #[.int .u64 0] n) 61)).alloc (.cells #[.slice (some ⟨w2.heap.size, 0, none⟩) n n] 62)) #[.slice b n d] 27
    have hbl6 : Below w2.heap.size w2 (((w2.alloc (.cells (madeCells #[.int .u64 0] n) 61)).alloc (.cells #[.slice (some ⟨w2.heap.size, 0, none⟩) n n] 62)).alloc (.cells #[.slice b n d] 27)) := bl_alloc (bl_alloc (bl_alloc (Below.refl _ _) _) _) _
    have hz6 : (((w2.alloc (.cells (madeCells #[.int .u64 0] n) 61)).alloc (.cells #[.slice (some ⟨w2.heap.size, 0, none⟩) n n] 62)).alloc (.cells #[.slice b n d] 27)).heap.size = w2.heap.size + 1 + 1 + 1 := by simp only [World.size_alloc]
    have hz5 : ((w2.alloc (.cells (madeCells #[.int .u64 0] n) 61)).alloc (.cells #[.slice (some ⟨w2.heap.size, 0, none⟩) n n] 62)).heap.size = w2.heap.size + 1 + 1 := by simp only [World.size_alloc]
    rw [hz5] at hbN
    go_wp2_with fail
    refine (nodes_any b n d _).mono ?_
    rintro e w6 ⟨rfl, rfl⟩
    rw [hz5]
    obtain ⟨w6, hw6⟩ : ∃ x, x = (((w2.alloc (.cells (madeCells #[.int .u64 0] n) 61)).alloc (.cells #[.slice (some ⟨w2.heap.size, 0, none⟩) n n] 62)).alloc (.cells #[.slice b n d] 27)) := ⟨_, rfl⟩
    obtain ⟨g, hg⟩ : ∃ x, x = w2.heap.size := ⟨_, rfl⟩
    rw [← hw6] at hg0 hb70 hbN hbl6 hz6 ⊢
    rw [← hg] at hg0 hb70 hbN hz6 ⊢
    rw [u64s_made] at hg0
    have hXg : X < g := by rw [hg]; exact HX2.out.lt
    have HG := Lib.hid hg
    have HG0 := Lib.hid hg0
    have HB7 := Lib.hid hb70
    have HBN := Lib.hid hbN
    have HBL6 := Lib.hid hbl6
    have HZ6 := Lib.hid hz6
    clear hw6 hg hg0 hb70 hbN hbl6 hz6 hz5 hmk
    go_wp2_with fail
    refine (wpIn_wide (n := 10)).1 ?_
    refine wpIn_rangeFunc_ownF rfl (by omega) (gf := 71) (lb := #[.pointer (some ⟨g + 1 + 1, 0, none⟩)]) rfl trivial (enters_of Tryd.func71 (by kernel_rfl) rfl)
      (nodes_stops 9 n (g + 1 + 1) w6.heap.size d b t w6 HT.out hn1 hn63 hnd hd HP.out HLV.out (by omega) (HBN.out.cell 0) (by have := HZ6.out; omega) (HRB.out.bl HBL6.out) (Nat.le_refl _))
      KpN.trans (fun W l o o' _ h hc _ => kpN_put W l o o' h hc) (Below.refl _ _) (fun _ => rfl) (fun ys W => LsI w6 g n ys W) (fun _ _ _ => False) (LsI.own w6 g n) (fun _ _ _ _ _ hs _ _ => hs) ⟨HG0.out, grownBy_same w6 g⟩
      (fun x => { tmps := #[Value.agg #[Value.int IntKind.i64 ↑M, Value.slice a N c], Value.slice b n d, Value.pointer (some { block := X, off := 0 }), undef, Value.slice none 0 0, Value.int IntKind.i64 0, Value.int IntKind.i64 0, Value.pointer (some { block := g + 1, off := 0 }), .int .i64 (x.1.val : Int), .int .u64 (x.2.val : Int), undef, undef, undef, undef, undef, undef, undef, undef, undef, undef, Value.agg #[Value.int IntKind.i64 ↑M, Value.slice a N c], Value.slice b n d, Value.int IntKind.i64 0, Value.int IntKind.i64 0, Value.bool false, undef, Value.slice b n d, Value.int IntKind.i64 ↑n, Value.slice (some { block := g, off := 0 }) n n, Value.slice b n d, Value.func (Fn.func 71) #[] #[Value.pointer (some { block := g + 1 + 1, off := 0 })], .int .i64 (x.1.val : Int), .int .u64 (x.2.val : Int), undef, undef, undef, undef, undef, undef, undef, undef, undef, undef, undef, undef, undef, undef, undef, undef, undef, undef, undef, undef, undef, undef, undef, undef, undef, undef, undef, undef, undef, undef, undef, undef, undef, undef, undef, undef, undef, undef, undef, undef, undef, undef, undef, undef, undef, undef, undef, undef, undef, undef, undef, undef, undef, undef, undef, undef, undef, undef, undef, undef, undef, undef, undef, undef, undef, undef, undef, undef, undef], defers := [] }) ?assign ?body ?done ?stop
    case assign =>
      intro l x W' K hK
      dsimp only [encQ, qN]
      gi_wp2
      exact hK
    case body =>
      rintro l pre ⟨⟨v, hv⟩, ⟨q, hq⟩⟩ W' ⟨h1, h2⟩ hlen
      have c7 : W'.cell? ⟨g + 1, 0, none⟩ = some (.slice (some ⟨g, 0, none⟩) n n) := (h2.cell (a := ⟨g + 1, 0, none⟩) (HB7.out.cell 0) (fun e => by have := Option.some.inj e; simp at this)).trans rfl
      have cg : W'.cell? ⟨g, v, none⟩ = some (.int .u64 (setP (pre.map qN) v : Nat)) := h1.getF v hv
      have fg : W'.frozen? ⟨g, v, none⟩ = false := h1.free v
      have hsn : setP ((pre ++ [((⟨v, hv⟩, ⟨q, hq⟩) : NQ n)]).map qN) = fun u => if u = v then q else setP (pre.map qN) u := by
        rw [List.map_append]; exact setP_snoc _ _
      have hfn : (fun u => if u = v then Value.int .u64 (q : Int) else Value.int .u64 (setP (pre.map qN) u : Nat)) = fun u => Value.int .u64 (setP ((pre ++ [((⟨v, hv⟩, ⟨q, hq⟩) : NQ n)]).map qN) u : Nat) := by
        rw [hsn]
        funext u
        by_cases e : u = v
        · subst e; simp
        · simp [e]
      have hs1 := h1.setF v (.int .u64 (q : Int))
      rw [hfn] at hs1
      have hgr : w6.grownBy (W'.setCell ⟨g, v, none⟩ (.int .u64 (q : Int))) (some g) :=
        ⟨h2.os, h2.tape, h2.output, by simp [World.setCell]; exact h2.size, fun k hk hne => (Below.heap_setCell W' _ _ k (fun e => hne (by rw [e]))).trans (h2.block k hk hne)⟩
      have hkp : KpN w6.heap.size W' (W'.setCell ⟨g, v, none⟩ (.int .u64 (q : Int))) := fun B cs t' fr hB hx => by
        refine (Below.heap_setCell W' _ _ B (fun e => ?_)).trans hx
        have := HZ6.out
        have e' : B = g := e
        omega
      have HS1 := Lib.hid hs1
      have HGR := Lib.hid hgr
      have HKP := Lib.hid hkp
      clear hs1 hgr hkp hsn hfn h1 h2 HG0 HB7 HBN HBL6
      dsimp only
      gi_wp2
      exact ⟨KeepsOthers.setCell _ _ _, HKP.out, HS1.out, HGR.out⟩
    case done =>
      rintro D ys w9 hD hys ⟨h1, h2⟩ hKD
      have hcl : ofF n (fun v => Value.int .u64 (setP (ys.map qN) v : Nat)) = ofF n (fun v => Value.int .u64 (cl t v : Nat)) := ofF_congr fun i hi => by rw [hys, setP_nds, if_pos hi]
      rw [hcl] at h1
      have HS9 := Lib.hid h1
      have hz6 := HZ6.out
      have H79 := Lib.hid (gr_blk h2 HB7.out (by omega))
      have HX9 := Lib.hid (gr_blk h2 (HX2.out.below HBL6.out) (by omega))
      have hgz : w2.heap.size ≤ g := by have := HG.out; omega
      have HRA9 := Lib.hid (rd_grown HRA.out HBL6.out h2 hgz)
      have HRB9 := Lib.hid (rd_grown HRB.out HBL6.out h2 hgz)
      have HBL9 : Hid (Below w.heap.size w w9) := bl_grown (bl_trans HB2.out HBL6.out) h2 (fun r hr => by have := Option.some.inj hr; have := HXE.out; omega)
      have HKD := Lib.hid hKD
      have hDz : g + 1 + 1 < D := by omega
      clear hcl h1 h2 hys hKD HG0 HB7 HBN HBL6 HX2
      have hx1 : w9.cell? ⟨X, 1, none⟩ = some (.slice a N c) := HX9.out.cell 1
      have HFV := Lib.hid HF.out
      go_wp2_with fail
      clear hx1
      go_loopw [40, 10] (fun x v wr => ∃ k : Nat, k ≤ N ∧ x = .int .i64 k ∧ Hid (wr.ownsRow w9.heap.size 3 1 v k (fl encI (iN ((l.take k).map (lossN t))))) ∧ Hid (Below w9.heap.size w9 wr)) (fun x _ _ => N - (intOf x).toNat)
      case atStart => exact ⟨0, by omega, rfl, World.ownsRow_nil _ _ _ _, Below.refl _ _⟩
      case round =>
        obtain ⟨k, hk, rfl, how, hbl⟩ := hrel
        by_cases hlt : k < N
        · obtain ⟨ba, oa, rfl, hba, hca⟩ := rdV (HRA9.out.bl hbl.out) (by rw [HL.out]; omega)
          have G := hca k (by rw [HL.out]; exact hlt)
          have hx := HFV.out k (by rw [HL.out]; exact hlt)
          have HTK : Hid ((l.take (k + 1)).map (lossN t) = (l.take k).map (lossN t) ++ [lossN t (vA l k)]) := by
            show _ = _
            rw [List.take_succ_eq_append_getElem (by rw [HL.out]; exact hlt), List.map_append, vA_get (by rw [HL.out]; exact hlt)]; rfl
          have c7 : wr.cell? ⟨g + 1, 0, none⟩ = some (.slice (some ⟨g, 0, none⟩) n n) := (H79.out.below hbl.out).cell 0
          clear hca
          generalize vA l k = q at *
          go_upto_region 15 with fail
          obtain ⟨wo, rfl⟩ : ∃ x : World, x = wr := ⟨_, rfl⟩
          go_loopw [47, 14] (fun x y wx => ∃ j : Nat, j ≤ n ∧ x = .int .i64 j ∧ y = .int .i64 (lAt (cl t) q j : Nat) ∧ wx = wo) (fun x _ _ => n - (intOf x).toNat)
          case atStart => exact ⟨0, by omega, rfl, rfl, rfl⟩
          case round =>
            obtain ⟨j, hj, rfl, rfl, rfl⟩ := hrel
            by_cases hjn : j < n
            · have c1 : wr.cell? ⟨g, j, none⟩ = some (.int .u64 (cl t j : Nat)) := (HS9.out.below hbl.out).getF j hjn
              have hcj := HCL.out j hjn
              have hbn := bits_and hcj hx
              have HST : Hid (lAt (cl t) q (j + 1) = if cl t j &&& q = q then j else lAt (cl t) q j) := rfl
              clear hcj
              generalize cl t j = z at *
              obtain ⟨y, hy⟩ : ∃ y, z &&& q = y := ⟨_, rfl⟩
              rw [hy] at hbn HST
              clear hy
              generalize lAt (cl t) q j = r at *
              by_cases e : y = q
              · have t1 : ((y : Int) == (q : Int)) = true := by simp [e]
                have t2 : decide ((y : Int) = (q : Int)) = true := by simp [e]
                have HS1 : Hid (lAt (cl t) q (j + 1) = j) := by show _ = _; rw [HST.out, if_pos e]
                clear e HST
                go_wp2_with fail
                go_roundw
                case rel => exact ⟨j + 1, by omega, by go_num, by rw [HS1.out], by trivial⟩
                case measure => simp [intOf]; omega
              · have t1 : ((y : Int) == (q : Int)) = false := by simp; omega
                have t2 : decide ((y : Int) = (q : Int)) = false := by simp; omega
                have HS1 : Hid (lAt (cl t) q (j + 1) = r) := by show _ = _; rw [HST.out, if_neg e]
                clear e HST
                go_wp2_with fail
                go_roundw
                case rel => exact ⟨j + 1, by omega, by go_num, by rw [HS1.out], by trivial⟩
                case measure => simp [intOf]; omega
            · obtain rfl : n = j := by omega
              have hle := lAt_lt (cl t) q n
              have HNQ : Hid (lossN t q = lCnt t (cl t) q (lAt (cl t) q n) n) := by show _ = _; unfold lossN; rw [HT.out]
              obtain ⟨r, hr⟩ : ∃ r, lAt (cl t) q n = r := ⟨_, rfl⟩
              rw [hr] at hle HNQ ⊢
              clear hr
              go_upto_region 21 with fail
              obtain ⟨wp, rfl⟩ : ∃ x : World, x = wr := ⟨_, rfl⟩
              go_loopw [61, 15] (fun x y wx => ∃ i : Nat, i ≤ n ∧ x = .int .i64 i ∧ y = .int .i64 (lCnt t (cl t) q r i : Nat) ∧ Hid (Below wp.heap.size wp wx)) (fun x _ _ => n - (intOf x).toNat)
              case atStart => exact ⟨0, by omega, rfl, rfl, Below.refl _ _⟩
              case round =>
                clear c7
                obtain ⟨i, hi, rfl, rfl, hb9⟩ := hrel
                by_cases hin : i < n
                · obtain ⟨bn, on, rfl, hbn, hcn⟩ := rdNd ((HRB9.out.bl hbl.out).bl hb9.out) (by rw [HT.out]; omega)
                  obtain ⟨G0, G1⟩ := hcn i (by rw [HT.out]; exact hin)
                  have c8 : (wr.alloc (.cells #[.int .i64 (nP t i), .string (nS t i)] 60)).cell? ⟨g + 1, 0, none⟩ = some (.slice (some ⟨g, 0, none⟩) n n) := (((H79.out.below hbl.out).below hb9.out).alloc _).cell 0
                  have hsb := ((HS9.out.below hbl.out).below hb9.out).alloc (.cells #[.int .i64 (nP t i), .string (nS t i)] 60)
                  have HB10 := Lib.hid (bl_trans hb9.out (bl_alloc (Below.refl _ wr) (.cells #[.int .i64 (nP t i), .string (nS t i)] 60)))
                  have ci : (wr.alloc (.cells #[.int .i64 (nP t i), .string (nS t i)] 60)).cell? ⟨g, i, none⟩ = some (.int .u64 (cl t i : Nat)) := hsb.getF i hin
                  have HSB := Lib.hid hsb
                  have hti := HCL.out i hin
                  have HPI := Lib.hid (HP.out i)
                  have HST : Hid (lCnt t (cl t) q r (i + 1) = lCnt t (cl t) q r i + if lossB t (cl t) q r i then 1 else 0) := rfl
                  have HLB : Hid (lossB t (cl t) q r i = (((decide (0 < i) && decide ((r : Int) ≤ nP t i)) && !decide (q &&& cl t (nP t i).toNat = 0)) && decide (q &&& cl t i = 0))) := rfl
                  have hzle := lCnt_le t (cl t) q r i
                  clear hcn hsb
                  obtain ⟨z, hz⟩ : ∃ z, lCnt t (cl t) q r i = z := ⟨_, rfl⟩
                  rw [hz] at HST hzle ⊢
                  clear hz
                  obtain ⟨bl, hbl'⟩ : ∃ b, lossB t (cl t) q r i = b := ⟨_, rfl⟩
                  generalize nS t i = s at *
                  by_cases hi0 : 0 < i
                  · obtain ⟨hp0, hpn⟩ := HPI.out hi0 hin
                    obtain ⟨p, hp⟩ : ∃ p : Nat, nP t i = p := ⟨(nP t i).toNat, by omega⟩
                    rw [hp] at G0 c8 ci HB10 HSB HLB hp0 hpn
                    rw [Int.toNat_natCast] at HLB
                    have hpn' : p < n := by omega
                    have cp := HSB.out.getF p hpn'
                    have htp := HCL.out p hpn'
                    have b1 := bits_and hx htp
                    have b2 := bits_and hx hti
                    have d1 : decide (0 < i) = true := by simpa using hi0
                    have d0 : decide ((r : Int) ≤ (p : Int)) = decide (r ≤ p) := by
                      by_cases e : r ≤ p
                      · rw [decide_eq_true e, decide_eq_true (by omega)]
                      · rw [decide_eq_false e, decide_eq_false (by omega)]
                    rw [d1, d0] at HLB
                    clear hp hp0 hpn htp hti d0 HPI HSB
                    generalize cl t p = A at *
                    generalize cl t i = B at *
                    obtain ⟨y1, hy1⟩ : ∃ y, q &&& A = y := ⟨_, rfl⟩
                    obtain ⟨y2, hy2⟩ : ∃ y, q &&& B = y := ⟨_, rfl⟩
                    rw [hy1] at b1 HLB
                    rw [hy2] at b2 HLB
                    clear hy1 hy2
                    by_cases h2 : r ≤ p
                    · have d2 : decide (r ≤ p) = true := by simpa using h2
                      by_cases h3 : y1 = 0
                      · have HV : Hid (lossB t (cl t) q r i = false) := by show _ = _; rw [HLB.out, h3]; simp
                        have t1 : ((y1 : Int) != 0) = false := by simp [h3]
                        have t2 : ((y1 : Int) == 0) = true := by simp [h3]
                        have t3 : decide ((y1 : Int) = 0) = true := by simp [h3]
                        clear h3 HLB hbl'
                        have HS1 : Hid (lCnt t (cl t) q r (i + 1) = z) := by show _ = _; rw [HST.out, HV.out]; rfl
                        go_wp2_with fail
                        go_roundw
                        case rel => exact ⟨i + 1, by omega, by go_num, by rw [HS1.out], HB10⟩
                        case measure => simp [intOf]; omega
                      · have t1 : ((y1 : Int) != 0) = true := by simp; omega
                        have t2 : ((y1 : Int) == 0) = false := by simp; omega
                        have t3 : decide ((y1 : Int) = 0) = false := by simp; omega
                        by_cases h4 : y2 = 0
                        · have HV : Hid (lossB t (cl t) q r i = true) := by show _ = _; rw [HLB.out, h4, d2]; simp [h3]
                          have s1 : ((y2 : Int) != 0) = false := by simp [h4]
                          have s2 : ((y2 : Int) == 0) = true := by simp [h4]
                          have s3 : decide ((y2 : Int) = 0) = true := by simp [h4]
                          clear h3 h4 HLB hbl'
                          have HS1 : Hid (lCnt t (cl t) q r (i + 1) = z + 1) := by show _ = _; rw [HST.out, HV.out]; rfl
                          go_wp2_with fail
                          go_roundw
                          case rel => exact ⟨i + 1, by omega, by go_num, by rw [HS1.out]; go_num, HB10⟩
                          case measure => simp [intOf]; omega
                        · have HV : Hid (lossB t (cl t) q r i = false) := by show _ = _; rw [HLB.out]; simp [h4]
                          have s1 : ((y2 : Int) != 0) = true := by simp; omega
                          have s2 : ((y2 : Int) == 0) = false := by simp; omega
                          have s3 : decide ((y2 : Int) = 0) = false := by simp; omega
                          clear h3 h4 HLB hbl'
                          have HS1 : Hid (lCnt t (cl t) q r (i + 1) = z) := by show _ = _; rw [HST.out, HV.out]; rfl
                          go_wp2_with fail
                          go_roundw
                          case rel => exact ⟨i + 1, by omega, by go_num, by rw [HS1.out], HB10⟩
                          case measure => simp [intOf]; omega
                    · have d2 : decide (r ≤ p) = false := by simpa using h2
                      have HV : Hid (lossB t (cl t) q r i = false) := by show _ = _; rw [HLB.out, d2]; simp
                      clear HLB hbl'
                      have HS1 : Hid (lCnt t (cl t) q r (i + 1) = z) := by show _ = _; rw [HST.out, HV.out]; rfl
                      go_wp2_with fail
                      go_roundw
                      case rel => exact ⟨i + 1, by omega, by go_num, by rw [HS1.out], HB10⟩
                      case measure => simp [intOf]; omega
                  · have d1 : decide (0 < i) = false := by simpa using hi0
                    have HV : Hid (lossB t (cl t) q r i = false) := by show _ = _; rw [HLB.out, d1]; simp
                    clear HLB hbl' HPI
                    have HS1 : Hid (lCnt t (cl t) q r (i + 1) = z) := by show _ = _; rw [HST.out, HV.out]; rfl
                    go_wp2_with fail
                    go_roundw
                    case rel => exact ⟨i + 1, by omega, by go_num, by rw [HS1.out], HB10⟩
                    case measure => simp [intOf]; omega
                · obtain rfl : n = i := by omega
                  rw [← HNQ.out]
                  have hbase : w9.heap.size ≤ (wr.alloc (.cells #[.int .i64 (lossN t q : Nat)] 3)).heap.size := by
                    have h1 := hbl.out.size
                    have h2 := hb9.out.size
                    simp; omega
                  have HOW := Lib.hid (owns_below how.out hb9.out)
                  have HB9 := Lib.hid (bl_trans hbl.out hb9.out)
                  have hl1 : Hid (k = (iN ((l.take k).map (lossN t))).length) := by
                    show _ = _
                    rw [iN_len, List.length_map, List.length_take, HL.out]; omega
                  generalize lossN t q = z at *
                  clear how hbl hb9 HNQ G
                  go_wp2_with (at_builtin; refine push_I rfl (.tmp 96) (.tmp 98) rfl w9.heap.size u10 (iN ((l.take k).map (lossN t))) k hl1.out rfl (HOW.out.alloc _) _ _ (z : Int) rfl (Blk.new _ _ _) (by omega) hbase ?_; intro g2 cap w8 h81 h82 h83 h84; rw [← iN_snoc, ← HTK.out] at h81; have H81 := Lib.hid h81; have H82 := Lib.hid h82; clear h81 h82 h83)
                  have HB8 := Lib.hid (bl_grown (bl_alloc HB9.out (.cells #[.int .i64 z] 3)) H82.out (fun x e => (HOW.out.lt x e).1))
                  go_roundw
                  case rel => exact ⟨k + 1, by omega, by go_num, H81, HB8⟩
                  case measure => simp [intOf]; omega
        · obtain rfl : k = N := by omega
          have hdD := (hbl.out.block D (Array.getElem?_eq_some_iff.1 HKD.out).1).trans HKD.out
          have HDD := Lib.hid hdD
          have HBW := Lib.hid (bl_trans HBL9.out hbl.out)
          have HOW := Lib.hid (owns_mono how.out HBL9.out.size)
          clear hdD how hbl
          go_wp2_with fail
          refine leaves_all [D] _ (by simp) (fun D' hD' => by rw [List.mem_singleton.1 hD']; exact HDD.out) fun w' ht => ⟨_, results_tmp2 rfl _ _ _, ?_⟩
          refine ⟨_, by rw [HE.out]; rfl, ?_, ht.below HBW.out fun D' hD' => by rw [List.mem_singleton.1 hD']; have := HXE.out; omega⟩
          have h9 := ht.owns (fun D' hD' => by rw [List.mem_singleton.1 hD']; exact HDD.out) HOW.out
          rw [List.take_of_length_le (by rw [HL.out]; exact Nat.le_refl _)] at h9
          rw [hLL.out]
          have e : (l.map (lossN t)).length = k := by rw [List.length_map, HL.out]
          rw [e]
          exact h9
    case stop =>
      rintro D c pre W' _ _ h _
      exact h.elim
  · have hE : Hid (lossL L l t = []) := if_neg h0
    obtain ⟨E, hEE⟩ : ∃ E, chkP L l t = E := ⟨_, rfl⟩
    have HEE := Lib.hid hEE
    rw [hEE] at h0 ⊢
    have d0 : (E == 0) = false := by simp [h0]
    have d1 : (E != 0) = true := by simp [h0]
    clear hEE h0
    go_wp2_with fail
    exact ⟨_, results_tmp2 rfl _ _ _, _, by rw [HEE.out]; rfl, by rw [hE.out]; exact World.ownsRow_nil _ _ _ _, HB2.out⟩
end Go.Proofs.YtnabbmdhhddfbaaDoor
namespace Go.Proofs.YtnabbmdhhddfbaaDoor
open Go.RowKit Go.Shelf
theorem itoa_digit (i : Nat) (h : i < 10) : itoaB i = ⟨#[(48 + i).toUInt8]⟩ := by
  unfold itoaB
  rw [Go.Lib.decDigits, dif_pos h]
theorem fit_four : FitV [3, 7, 8, 6] := by intro i hi; have : i < 4 := hi; match i, this with | 0, _ => decide | 1, _ => decide | 2, _ => decide | 3, _ => decide
theorem fit_three : FitV [3, 7, 8] := by intro i hi; have : i < 3 := hi; match i, this with | 0, _ => decide | 1, _ => decide | 2, _ => decide
theorem grps_three : grpsN 4 [3, 7, 8] = [7, 3] := by
  rw [← refG_eq fit_three]
  decide
theorem conf_four : confE [3, 7, 8, 6] = some (0, 3) := by decide
theorem conf_three : confE [3, 7, 8] = none := by decide
theorem chk_four : chkT 4 [3, 7, 8, 6] = 0 := by decide
theorem chk_three : chkT 4 [3, 7, 8] = 0 := by decide
theorem big_four : lgL 4 [3, 7, 8, 6] = [0, 1, 2] ∧ lgE 4 [3, 7, 8, 6] = 0 := by decide
def exT : List Nd := [(-1, ⟨#[114, 111, 111, 116]⟩), (0, ⟨#[78, 49]⟩), (1, ⟨#[78, 50]⟩), (2, ⟨#[76, 48]⟩), (2, ⟨#[76, 49]⟩), (1, ⟨#[76, 50]⟩), (0, ⟨#[76, 51]⟩)]
theorem build_three : bdB 4 [3, 7, 8] = true ∧ bdE 4 [3, 7, 8] = 0 ∧ bdT 4 [3, 7, 8] = exT := by
  have h1 : bdB 4 [3, 7, 8] = true := by decide
  refine ⟨h1, by decide, ?_⟩
  unfold bdT
  rw [h1, if_pos rfl]
  show bdN 4 [3, 7, 8] = exT
  unfold bdN
  rw [if_neg (by decide), grps_three]
  have e : setsB 4 [3, 7, 8] = [15, 7, 3, 1, 2, 4, 8] := by unfold setsB; rw [grps_three]; rfl
  rw [e]
  have p : (List.range 7).map (fun i => parZ [15, 7, 3, 1, 2, 4, 8] (vA [15, 7, 3, 1, 2, 4, 8] i) i) = [-1, 0, 1, 2, 2, 1, 0] := by decide
  have q : (List.range 7).map (namB 2) = [⟨#[114, 111, 111, 116]⟩, ⟨#[78, 49]⟩, ⟨#[78, 50]⟩, ⟨#[76, 48]⟩, ⟨#[76, 49]⟩, ⟨#[76, 50]⟩, ⟨#[76, 51]⟩] := by
    show [(⟨#[114, 111, 111, 116]⟩ : ByteArray), ⟨#[78]⟩ ++ itoaB 1, ⟨#[78]⟩ ++ itoaB 2, ⟨#[76]⟩ ++ itoaB 0, ⟨#[76]⟩ ++ itoaB 1, ⟨#[76]⟩ ++ itoaB 2, ⟨#[76]⟩ ++ itoaB 3] = _
    rw [itoa_digit 0 (by omega), itoa_digit 1 (by omega), itoa_digit 2 (by omega), itoa_digit 3 (by omega)]
    rfl
  have z : treeN [15, 7, 3, 1, 2, 4, 8] (namB 2) 7 = ((List.range 7).map (fun i => parZ [15, 7, 3, 1, 2, 4, 8] (vA [15, 7, 3, 1, 2, 4, 8] i) i)).zip ((List.range 7).map (namB 2)) := by
    unfold treeN
    rw [List.zip_map']
  show treeN _ (namB 2) 7 = exT
  rw [z, p, q]
  rfl
theorem fitsE : ∀ v, v < 7 → (nS exT v).size ≤ 9223372036854775807 := by
  intro v hv
  match v, hv with
  | 0, _ => decide
  | 1, _ => decide
  | 2, _ => decide
  | 3, _ => decide
  | 4, _ => decide
  | 5, _ => decide
  | 6, _ => decide
theorem check_four : chkP 4 [3, 7, 8, 6] exT = 0 := by decide
theorem loss_four : lossL 4 [3, 7, 8, 6] exT = [0, 0, 0, 1] := by
  unfold lossL
  rw [check_four]
  decide
end Go.Proofs.YtnabbmdhhddfbaaDoor
namespace Go.Proofs.YtnabbmdhhddfbaaDoor
open Go.RowKit Go.Shelf
theorem eqI_step (l1 l2 : List Int) (k : Nat) (h : l1.take k = l2.take k) (h1 : k < l1.length) (h2 : k < l2.length) (e0 : iA l1 k = iA l2 k) : l1.take (k + 1) = l2.take (k + 1) := by
  have he : l1[k] = l2[k] := by
    simpa only [iA, List.getD_eq_getElem?_getD, List.getElem?_eq_getElem h1, List.getElem?_eq_getElem h2, Option.getD_some] using e0
  rw [List.take_succ_eq_append_getElem h1, List.take_succ_eq_append_getElem h2, h, he]
theorem neI_iA (l1 l2 : List Int) (k : Nat) (h : iA l1 k ≠ iA l2 k) : l1 ≠ l2 := fun e => h (by rw [e])
set_option maxHeartbeats 1000000 in
theorem ints_any (a1 a2 : Option Addr) (n1 n2 c1 c2 : Nat) (l1 l2 : List Int) (w : World) (hn1 : l1.length = n1) (hn2 : l2.length = n2) (hm1 : n1 ≤ 1152921504606846976) (hm2 : n2 ≤ 1152921504606846976) (hA : Rd w a1 (fl encI l1)) (hB : Rd w a2 (fl encI l2)) :
    Calls Tryd.prog 23 #[.slice a1 n1 c1, .slice a2 n2 c2] w fun e w' => e = .returned (.bool (decide (l1 = l2))) ∧ ∃ n, w' = w.drewN n := by
  have HN1 := Lib.hid hn1; clear hn1
  have HN2 := Lib.hid hn2; clear hn2
  by_cases hl : n1 = n2
  · subst hl
    go_enter Tryd.func23, Tryd.ntmps23
    go_wp2_with fail
    go_loopw [5] (fun x wr => ∃ k : Nat, k ≤ n1 ∧ x = .int .i64 k ∧ Hid (l1.take k = l2.take k) ∧ ∃ n, wr = w.drewN n) (fun x _ => n1 - (intOf x).toNat)
    case atStart => exact ⟨0, by omega, rfl, rfl, 0, rfl⟩
    case round =>
      obtain ⟨k, hk, rfl, Ht, n, rfl⟩ := hrel
      by_cases hlt : k < n1
      · obtain ⟨b1, o1, rfl, _, hc1⟩ := rdI hA (by rw [HN1.out]; omega)
        obtain ⟨b2, o2, rfl, _, hc2⟩ := rdI hB (by rw [HN2.out]; omega)
        have G1 := hc1 k (by rw [HN1.out]; omega)
        have G2 := hc2 k (by rw [HN2.out]; omega)
        clear hc1 hc2 hA hB
        by_cases e0 : iA l1 k = iA l2 k
        · have ht2 := Lib.hid (eqI_step l1 l2 k Ht.out (by rw [HN1.out]; omega) (by rw [HN2.out]; omega) e0)
          have hb : (iA l1 k != iA l2 k) = false := by rw [e0]; simp
          have hb2 : (iA l1 k == iA l2 k) = true := by rw [e0]; simp
          clear e0
          go_wp2_with fail
          go_quiet (fail)
          go_wp2_with fail
          go_roundw
          case rel => exact ⟨k + 1, by omega, by go_num, ht2, n + nq, by simp⟩
          case measure => simp [intOf]; omega
        · have he := Lib.hid (neI_iA l1 l2 k e0)
          have hb : (iA l1 k != iA l2 k) = true := by simpa using e0
          have hb2 : (iA l1 k == iA l2 k) = false := by simpa using e0
          clear e0
          go_wp2_with fail
          go_quiet (fail)
          go_wp2_with fail
          go_ret
          exact ⟨ret_b (decide_eq_false he.out).symm, n + nq, by simp⟩
      · go_wp2_with fail
        go_ret
        have he : l1 = l2 := by have := Ht.out; rwa [List.take_of_length_le (by rw [HN1.out]; omega), List.take_of_length_le (by rw [HN2.out]; omega)] at this
        exact ⟨ret_b (decide_eq_true he).symm, n, rfl⟩
  · have t1 : ((n1 : Int) != (n2 : Int)) = true := by simp; omega
    have HLN := Lib.hid hl
    clear hl
    go_enter Tryd.func23, Tryd.ntmps23
    go_wp2_with fail
    go_ret
    exact ⟨ret_b (decide_eq_false (fun e => HLN.out (by rw [← HN1.out, ← HN2.out, e]))).symm, 0, rfl⟩
theorem Rd.of_blk {w : World} {B : Nat} {cs : List Value} {t : TypeId} (h : Blk w B cs.toArray t) : Rd w (some ⟨B, 0, none⟩) cs := by
  intro h0
  refine ⟨B, 0, rfl, h.lt, fun i hi => ?_⟩
  rw [Nat.zero_add, h.cell i]
  simp [hi]
set_option maxHeartbeats 1000000 in
theorem four_any (w : World) : Calls Tryd.prog 34 #[] w fun e w' => ∃ B, e = .returned (.agg #[.int .i64 4, .slice (some ⟨B, 0, none⟩) 4 4]) ∧ Rd w' (some ⟨B, 0, none⟩) (fl encV [3, 7, 8, 6]) ∧ w.heap.size ≤ B ∧ Below w.heap.size w w' := by
  go_enter Tryd.func34, Tryd.ntmps34
  go_wp2_with fail
  have hb := Blk.new2 w (.cells #[.int .i64 4, .slice (some ⟨w.heap.size + 1, 0, none⟩) 4 4] 24) (fl encV [3, 7, 8, 6]).toArray 44
  have hbl : Below w.heap.size w ((w.alloc (.cells #[.int .i64 4, .slice (some ⟨w.heap.size + 1, 0, none⟩) 4 4] 24)).alloc (.cells (fl encV [3, 7, 8, 6]).toArray 44)) := bl_alloc (bl_alloc (Below.refl _ _) _) _
  exact bodyPost_ret (v := .agg #[.int .i64 4, .slice (some ⟨w.heap.size + 1, 0, none⟩) 4 4]) (by simp [results, Tryd.results34, go_sem]) rfl ⟨w.heap.size + 1, rfl, Rd.of_blk hb, by omega, hbl⟩
theorem neqNd (x0 y0 : Int) (x1 y1 : ByteArray) (w : World) : (binOp .neq 60 (.agg #[.int .i64 x0, .string x1]) (.agg #[.int .i64 y0, .string y1])).run Tryd.prog w = .ok (.bool (!(decide (x0 = y0) && decide (x1 = y1)))) w := by
  have u3 := Tryd.underlying3
  have a3 := Tryd.isAgg3
  have z3 := Tryd.sizeOf3
  have u9 := Tryd.underlying9
  have a9 := Tryd.isAgg9
  have z9 := Tryd.sizeOf9
  have hS : Tryd.prog.underlying 60 = some (.struct (Tryd.prog.fieldsOf 60)) := by kernel_rfl
  have hp : Tryd.prog.stoodInHeld 60 = false := by kernel_rfl
  rw [run_neq_struct, show (10000 : Nat) = 9999 + 1 from rfl, run_equalIn_agg w 9999 60 _ _ hS hp]
  simp only [Program.fieldsOf, Tryd.underlying60]
  go_simp
  by_cases h0 : x0 = y0 <;> by_cases h1 : x1 = y1 <;> simp [ba_inj, h0, h1]
theorem guardNd : Tryd.prog.eqGuardType Tryd.prog.depth 60 = false := by kernel_rfl
theorem own_cap {w : World} {base e k n c : Nat} {a : Option Addr} {xs : List Value} (h : w.ownsRow base e k (.slice a n c) n xs) : n ≤ c ∧ c ≤ maxLen := by
  rcases h.2 with ⟨hv, hn⟩ | ⟨g, cap', cur, hv, hg, hh, hn, hm, _⟩
  · cases hv; exact ⟨Nat.le_refl _, by unfold maxLen; omega⟩
  · cases hv; exact ⟨hn, hm⟩
theorem w_build (B : Nat) (w : World) (hR : Rd w (some ⟨B, 0, none⟩) (fl encV [3, 7, 8])) :
    Calls Tryd.prog 15 #[.agg #[.int .i64 4, .slice (some ⟨B, 0, none⟩) 3 4]] w fun e w' => ∃ T c, e = .returned (.tuple #[.slice (some ⟨T, 0, none⟩) 7 c, .bool true, .int .i64 0]) ∧ Rd w' (some ⟨T, 0, none⟩) (fl encNd exT) ∧ 7 ≤ c ∧ c ≤ 9223372036854775807 ∧ Below w.heap.size w w' := by
  refine (build_any 4 (some ⟨B, 0, none⟩) 3 4 [3, 7, 8] w rfl (by omega) (by omega) (by omega) hR fit_three).mono ?_
  rintro e w' ⟨v, he, ho, hb⟩
  obtain ⟨e1, e2, e3⟩ := build_three
  rw [e1, e2] at he
  rw [e3] at ho
  obtain ⟨g, c, rfl, _, _⟩ := ho.form (by decide)
  exact ⟨g, c, he, rd_of_owns ho, (own_cap ho).1, by have := (own_cap ho).2; unfold maxLen at this; omega, hb⟩
theorem w_conf (B : Nat) (w : World) (hR : Rd w (some ⟨B, 0, none⟩) (fl encV [3, 7, 8, 6])) :
    Calls Tryd.prog 18 #[.agg #[.int .i64 4, .slice (some ⟨B, 0, none⟩) 4 4]] w fun e w' => e = .returned (.tuple #[.int .i64 0, .int .i64 3, .bool true, .int .i64 0]) ∧ Below w.heap.size w w' := by
  refine (conf_any 4 (some ⟨B, 0, none⟩) 4 4 [3, 7, 8, 6] w rfl (by omega) (by omega) (by omega) hR fit_four).mono ?_
  rintro e w' ⟨he, hb⟩
  rw [cfV_yes chk_four conf_four] at he
  exact ⟨he, hb⟩
theorem w_big (B : Nat) (w : World) (hR : Rd w (some ⟨B, 0, none⟩) (fl encV [3, 7, 8, 6])) :
    Calls Tryd.prog 21 #[.agg #[.int .i64 4, .slice (some ⟨B, 0, none⟩) 4 4]] w fun e w' => ∃ T c, e = .returned (.tuple #[.slice (some ⟨T, 0, none⟩) 3 c, .int .i64 0]) ∧ Rd w' (some ⟨T, 0, none⟩) (fl encI [0, 1, 2]) ∧ Below w.heap.size w w' := by
  refine (largest_any 4 (some ⟨B, 0, none⟩) 4 4 [3, 7, 8, 6] w rfl (by omega) hR fit_four).mono ?_
  rintro e w' ⟨v, he, ho, hb⟩
  obtain ⟨e1, e2⟩ := big_four
  rw [e2] at he
  rw [e1] at ho
  obtain ⟨g, c, rfl, _, _⟩ := ho.form (by decide)
  exact ⟨g, c, he, rd_of_owns ho, hb⟩
theorem w_loss (B T c : Nat) (w : World) (hR : Rd w (some ⟨B, 0, none⟩) (fl encV [3, 7, 8, 6])) (hT : Rd w (some ⟨T, 0, none⟩) (fl encNd exT)) (h7 : 7 ≤ c) (hc : c ≤ 9223372036854775807) :
    Calls Tryd.prog 24 #[.agg #[.int .i64 4, .slice (some ⟨B, 0, none⟩) 4 4], .slice (some ⟨T, 0, none⟩) 7 c] w fun e w' => ∃ T c, e = .returned (.tuple #[.slice (some ⟨T, 0, none⟩) 4 c, .int .i64 0]) ∧ Rd w' (some ⟨T, 0, none⟩) (fl encI [0, 0, 0, 1]) ∧ Below w.heap.size w w' := by
  refine (losses_any 4 (some ⟨B, 0, none⟩) 4 4 [3, 7, 8, 6] (some ⟨T, 0, none⟩) 7 c exT w rfl (by omega) hR fit_four rfl (by omega) h7 hc hT fitsE).mono ?_
  rintro e w' ⟨v, he, ho, hb⟩
  rw [check_four] at he
  rw [loss_four] at ho
  obtain ⟨g, c, rfl, _, _⟩ := ho.form (by decide)
  exact ⟨g, c, he, rd_of_owns ho, hb⟩
end Go.Proofs.YtnabbmdhhddfbaaDoor
namespace Go.Proofs.YtnabbmdhhddfbaaDoor
open Go.RowKit Go.Shelf
theorem rd_take {w : World} {a : Option Addr} {l : List Nat} (h : Rd w a (fl encV l)) (k : Nat) : Rd w a (fl encV (l.take k)) := by
  intro h0
  rw [fl_length encV_len] at h0
  have h1 : 0 < l.length := by rw [List.length_take] at h0; omega
  obtain ⟨b, o, e, hb, hc⟩ := rd_elem encV_len h (by omega) h1
  refine ⟨b, o, e, hb, fun i hi => ?_⟩
  rw [fl_length encV_len, List.length_take] at hi
  have := hc i (by omega) 0 (by omega)
  simp only [Nat.mul_one, Nat.add_zero] at this
  rw [this]
  have h2 := fl_getElem? encV_len (l.take k) i 0 (by omega)
  rw [Nat.mul_one, Nat.add_zero] at h2
  rw [List.getD_eq_getElem?_getD, h2, List.getElem?_take, if_pos (by omega), List.getElem?_eq_getElem (l := l) (show i < l.length by omega)]
  rfl
theorem ints_same (a1 a2 : Option Addr) (n1 n2 c1 c2 : Nat) (l : List Int) (w : World) (hn1 : l.length = n1) (hn2 : l.length = n2) (hm1 : n1 ≤ 1152921504606846976) (hm2 : n2 ≤ 1152921504606846976) (hA : Rd w a1 (fl encI l)) (hB : Rd w a2 (fl encI l)) :
    Calls Tryd.prog 23 #[.slice a1 n1 c1, .slice a2 n2 c2] w fun e w' => e = .returned (.bool true) ∧ ∃ n, w' = w.drewN n :=
  (ints_any a1 a2 n1 n2 c1 c2 l l w hn1 hn2 hm1 hm2 hA hB).mono fun e w' h => ⟨by rw [h.1, decide_eq_true rfl], h.2⟩
set_option maxRecDepth 100000 in
set_option maxHeartbeats 4000000 in
theorem works_any (w : World) : Calls Tryd.prog 14 #[] w fun e w' => e = .returned (.bool true) ∧ Below w.heap.size w w' := by
  go_enter Tryd.func14, Tryd.ntmps14
  go_wp2_with fail
  refine (four_any _).mono ?_
  rintro e w1 ⟨B, rfl, hR, hBw, hb1⟩
  have HR1 := Lib.hid (rd_take hR 3)
  have HB1 := Lib.hid hb1
  clear hR hb1
  go_wp2_with fail
  refine (w_build _ _ (HR1.out.bl (bl_alloc (Below.refl _ _) _))).mono ?_
  rintro e w2 ⟨T, tc, rfl, hT, h7, htc, hb2⟩
  have HTC := Lib.hid htc
  have HB2 := Lib.hid (bl_trans (bl_alloc HB1.out _) hb2)
  have HT2 := Lib.hid hT
  clear hT hb2 HB1 HR1 htc
  go_wp2_with fail
  refine (four_any _).mono ?_
  rintro e w3 ⟨B3, rfl, hR3, _, hb3⟩
  have HB3 := Lib.hid (bl_trans HB2.out hb3)
  have HT3 := Lib.hid (HT2.out.bl hb3)
  have HR3 := Lib.hid hR3
  clear hR3 hb3 HB2 HT2
  go_wp2_with fail
  refine (w_conf _ _ HR3.out).mono ?_
  rintro e w4 ⟨rfl, hb4⟩
  have HB4 := Lib.hid (bl_trans HB3.out hb4)
  have HT4 := Lib.hid (HT3.out.bl hb4)
  clear hb4 HB3 HT3 HR3
  go_wp2_with fail
  refine (four_any _).mono ?_
  rintro e w5 ⟨B5, rfl, hR5, _, hb5⟩
  have HB5 := Lib.hid (bl_trans HB4.out hb5)
  have HT5 := Lib.hid (HT4.out.bl hb5)
  have HR5 := Lib.hid hR5
  clear hR5 hb5 HB4 HT4
  go_wp2_with fail
  refine (w_big _ _ HR5.out).mono ?_
  rintro e w6 ⟨G, gc, rfl, hG, hb6⟩
  have HB6 := Lib.hid (bl_trans HB5.out hb6)
  have HT6 := Lib.hid (HT5.out.bl hb6)
  have HG6 := Lib.hid hG
  have hTl : T < w6.heap.size := by
    obtain ⟨b, o, e, hb, _⟩ := HT6.out (by decide)
    have := (Addr.mk.inj (Option.some.inj e)).1
    omega
  obtain ⟨bt, ot, et, _, hct⟩ := rdNd HT6.out (by decide)
  have e1 := (Addr.mk.inj (Option.some.inj et)).1
  have e2 := (Addr.mk.inj (Option.some.inj et)).2.1
  have q1 := hct 1 (by decide)
  have q6 := hct 6 (by decide)
  rw [← e1, ← e2] at q1 q6
  have c10 : w6.cell? ⟨T, 2, none⟩ = some (.int .i64 0) := q1.1
  have c11 : w6.cell? ⟨T, 3, none⟩ = some (.string ⟨#[78, 49]⟩) := q1.2
  have c60 : w6.cell? ⟨T, 12, none⟩ = some (.int .i64 0) := q6.1
  have c61 : w6.cell? ⟨T, 13, none⟩ = some (.string ⟨#[76, 51]⟩) := q6.2
  clear hG hb6 HB5 HT5 HR5 et hct e1 e2 q1 q6
  have hn1 := fun w => neqNd 0 0 ⟨#[78, 49]⟩ ⟨#[78, 49]⟩ w
  have hn2 := fun w => neqNd 0 0 ⟨#[76, 51]⟩ ⟨#[76, 51]⟩ w
  have hgd := guardNd
  simp only [decide_true, Bool.and_self, Bool.not_true] at hn1 hn2
  have hlst := Blk.new w6 (fl encI [0, 1, 2]).toArray 3
  have hbl7 := bl_alloc (Below.refl w6.heap.size w6) (.cells (fl encI [0, 1, 2]).toArray 3)
  have HI := Lib.hid (ints_same (some ⟨G, 0, none⟩) (some ⟨w6.heap.size, 0, none⟩) 3 3 gc 3 [0, 1, 2] (w6.alloc (.cells (fl encI [0, 1, 2]).toArray 3)) rfl rfl (by omega) (by omega) (HG6.out.bl hbl7) (Rd.of_blk hlst))
  have HB7 := Lib.hid (bl_trans HB6.out hbl7)
  have HT7 := Lib.hid (HT6.out.bl hbl7)
  clear hlst hbl7
  go_wp2_with fail
  refine HI.out.mono ?_
  rintro e w7 ⟨rfl, nq, rfl⟩
  obtain ⟨w7, hw7⟩ : ∃ x, x = (w6.alloc (.cells (fl encI [0, 1, 2]).toArray 3)).drewN nq := ⟨_, rfl⟩
  have HB8 : Hid (Below w.heap.size w w7) := by rw [hw7]; exact bl_drewN HB7.out nq
  have HT8 : Hid (Rd w7 (some ⟨T, 0, none⟩) (fl encNd exT)) := by show Rd _ _ _; rw [hw7]; exact HT7.out
  rw [← hw7]
  clear hw7 HB7 HT7 HI HB6 HT6 HG6 c10 c11 c60 c61 hn1 hn2 hgd
  go_wp2_with fail
  refine (four_any _).mono ?_
  rintro e w8 ⟨B8, rfl, hR8, _, hb8⟩
  have HB9 := Lib.hid (bl_trans HB8.out hb8)
  have HT9 := Lib.hid (HT8.out.bl hb8)
  have HR9 := Lib.hid hR8
  clear hR8 hb8 HB8 HT8
  go_wp2_with fail
  refine (w_loss _ _ _ _ HR9.out HT9.out h7 HTC.out).mono ?_
  rintro e w9 ⟨Z, zc, rfl, hZ, hb9⟩
  have HB10 := Lib.hid (bl_trans HB9.out hb9)
  have hlst := Blk.new w9 (fl encI [0, 0, 0, 1]).toArray 3
  have hbl7 := bl_alloc (Below.refl w9.heap.size w9) (.cells (fl encI [0, 0, 0, 1]).toArray 3)
  have HI := Lib.hid (ints_same (some ⟨Z, 0, none⟩) (some ⟨w9.heap.size, 0, none⟩) 4 4 zc 4 [0, 0, 0, 1] (w9.alloc (.cells (fl encI [0, 0, 0, 1]).toArray 3)) rfl rfl (by omega) (by omega) (hZ.bl hbl7) (Rd.of_blk hlst))
  have HB11 := Lib.hid (bl_trans HB10.out hbl7)
  clear hZ hb9 HB9 HT9 HR9 hlst hbl7 HB10
  go_wp2_with fail
  refine HI.out.mono ?_
  rintro e w10 ⟨rfl, nq, rfl⟩
  go_wp2_with fail
  go_ret
  exact ⟨rfl, bl_drewN HB11.out nq⟩
end Go.Proofs.YtnabbmdhhddfbaaDoor
namespace Go.Proofs.YtnabbmdhhddfbaaDoor
open Go Go.RowKit Go.Shelf
theorem bitsL_snoc (n x k : Nat) : bitsL n x (k + 1) = bitsL n x k ++ (if x.testBit (n - 1 - k) then [k] else []) := by
  unfold bitsL
  rw [List.range_succ, List.filter_append]
  congr 1
  by_cases q : x.testBit (n - 1 - k) <;> simp [q]
theorem bitsL_le (n x k : Nat) : (bitsL n x k).length ≤ k := by
  have := List.length_filter_le (fun i => x.testBit (n - 1 - i)) (List.range k)
  simpa [bitsL] using this
theorem bitsL_lt (n x k : Nat) : ∀ y, y ∈ bitsL n x k → y < k := fun y hy => List.mem_range.1 (List.mem_filter.1 hy).1
/-- The first i of them have no conflict; the i-th none with the first k. -/
def cmpR (has l : List Nat) (i : Nat) : Bool := (List.range i).all fun i => (List.range i).all fun k => fitB (vA has (vA l i)) (vA has (vA l k))
def cmpC (has l : List Nat) (i k : Nat) : Bool := (List.range k).all fun k => fitB (vA has (vA l i)) (vA has (vA l k))
theorem cmpR_succ (has l : List Nat) (i : Nat) : cmpR has l (i + 1) = (cmpR has l i && cmpC has l i i) := by
  unfold cmpR cmpC
  rw [List.range_succ, List.all_append]; simp
theorem cmpC_succ (has l : List Nat) (i k : Nat) : cmpC has l i (k + 1) = (cmpC has l i k && fitB (vA has (vA l i)) (vA has (vA l k))) := by
  unfold cmpC
  rw [List.range_succ, List.all_append]; simp
theorem in_bitsI {y k : Nat} (hy : y < 9223372036854775808) : bits .and .i64 ((y : Int) / 2 ^ k) 1 = ((y / 2 ^ k % 2 : Nat) : Int) := by
  have e : ((y : Int) / 2 ^ k) = ((y / 2 ^ k : Nat) : Int) := by simp
  have h := Nat.lt_of_le_of_lt (Nat.div_le_self y (2 ^ k)) hy
  rw [e]
  generalize y / 2 ^ k = z at *
  show IntKind.i64.wrap ((BitVec.ofInt 64 (z : Int) &&& BitVec.ofInt 64 ((1 : Nat) : Int)).toNat : Int) = _
  rw [BitVec.toNat_and, bv64 (by omega), bv64 (by decide), Nat.and_one_is_mod]
  exact i64w (by omega)
set_option maxRecDepth 100000 in
set_option maxHeartbeats 4000000 in
theorem rlargest_any (L : Int) (a : Option Addr) (N c : Nat) (l : List Nat) (w : World) (hl : l.length = N) (hN : N ≤ 1152921504606846976) (hA : Rd w a (fl encV l)) (hF : FitV l) :
    Calls Tryd.prog 22 #[.agg #[.int .i64 L, .slice a N c]] w (LgPost w L l) := by
  have hb0 := bl_alloc (Below.refl _ w) (.cells #[.int .i64 L, .slice a N c] 32)
  have hB := Blk.new w #[.int .i64 L, .slice a N c] 32
  have HL := Lib.hid hl
  have HF := Lib.hid hF
  have HC := Lib.hid (rtchk_any L a N c l (w.alloc (.cells #[.int .i64 L, .slice a N c] 32)) hl hN (hA.bl hb0) hF)
  have HA := Lib.hid (hA.bl hb0)
  clear hl hA hF
  obtain ⟨X, hX⟩ : ∃ X, X = w.heap.size := ⟨_, rfl⟩
  go_enter Tryd.func22, Tryd.ntmps22
  go_wp2_with fail
  refine HC.out.mono ?_
  rintro e w2 ⟨rfl, hb2⟩
  have hb3 := bl_trans hb0 hb2
  have hB2 := hB.below hb2
  have HA2 := Lib.hid (HA.out.bl hb2)
  rw [← hX] at hB2 ⊢
  have HB3 := Lib.hid hb3
  have e1 : w2.cell? ⟨X, 1, none⟩ = some (.slice a N c) := hB2.cell 1
  have HBX := Lib.hid hB2
  have HX := Lib.hid hX
  clear hX hB2 hb3 hB hb0 hb2 HA HC
  by_cases h0 : chkT L l = 0
  · have HE : Hid (lgE L l = if 12 < l.length then 12 else 0) := if_neg (fun h => h h0)
    obtain ⟨M, rfl⟩ : ∃ M : Nat, L = M := by
      refine ⟨L.toNat, ?_⟩
      unfold chkT at h0
      by_cases q : L < 0 ∨ 32 < L
      · rw [if_pos q] at h0; omega
      · omega
    rw [h0]
    clear h0
    by_cases h12 : 12 < N
    · have d1 : decide (12 < N) = true := by simpa using h12
      have hE : Hid (lgE (M : Int) l = 12) := by show _ = _; rw [HE.out, if_pos (by rw [HL.out]; exact h12)]
      clear HE
      go_wp2_with fail
      exact bodyPost_ret (v := .tuple #[.slice none 0 0, .int .i64 12]) (by simp [results, Tryd.results22, go_sem]) rfl (lgPost_nil hE.out (by omega) HB3.out)
    · have d1 : decide (12 < N) = false := by simpa using h12
      have hE : Hid (lgE (M : Int) l = 0) := by show _ = _; rw [HE.out, if_neg (by rw [HL.out]; exact h12)]
      have hLL : Hid (lgL (M : Int) l = bigL l) := if_pos hE.out
      have hN12 : N ≤ 12 := by omega
      have hp : 2 ^ N ≤ 4096 := Nat.pow_le_pow_right (n := 2) (by omega) (show N ≤ 12 by omega)
      have hp0 : 0 < 2 ^ N := Nat.two_pow_pos N
      have HFI : Hid (docD l (2 ^ N - 1) [] = bigL l) := by have h := docD_big l; rw [HL.out] at h; exact h
      clear HE h12
      have hw : wrap64 (wrap64 (2 ^ N) - 1) = ((2 ^ N - 1 : Nat) : Int) := by
        have e : ((2 : Int) ^ N) = ((2 ^ N : Nat) : Int) := by simp
        have e1 : wrap64 ((2 ^ N : Nat) : Int) = ((2 ^ N : Nat) : Int) := IntWalk.wrap64_in _ ⟨by omega, by omega⟩
        rw [e, e1, show ((2 ^ N : Nat) : Int) - 1 = ((2 ^ N - 1 : Nat) : Int) by omega, IntWalk.wrap64_in _ ⟨by omega, by omega⟩]
      have HW := Lib.hid hw
      clear hw
      go_upto_region 9 with fail
      rw [HW.out]
      obtain ⟨P, hP⟩ : ∃ P, P = 2 ^ N - 1 := ⟨_, rfl⟩
      rw [← hP] at HFI ⊢
      have hP4 : P < 4096 := by omega
      clear hP hp hp0 HW e1
      go_loopw [7, 5] (fun x v wr => ∃ (y : Nat) (best : List Nat), y ≤ P ∧ x = .int .i64 y ∧ Hid (docD l y best = bigL l) ∧ best.length ≤ 12 ∧ Hid (wr.ownsRow w2.heap.size 3 1 v best.length (fl encI (iN best))) ∧ Hid (Below w2.heap.size w2 wr)) (fun x _ _ => (intOf x).toNat)
      case atStart => exact ⟨P, [], Nat.le_refl _, rfl, HFI, by simp, World.ownsRow_nil _ _ _ _, Below.refl _ _⟩
      case round =>
        obtain ⟨y, best, hy, rfl, hD, hb12, how, hbl⟩ := hrel
        obtain ⟨A5, c5, rfl, _⟩ := owns_slice how.out
        have HBXr := Lib.hid (HBX.out.below hbl.out)
        have HR := Lib.hid (HA2.out.bl hbl.out)
        by_cases hy0 : 0 < y
        · have d2 : decide (0 < y) = true := by simpa using hy0
          obtain ⟨wo, rfl⟩ : ∃ x : World, x = wr := ⟨_, rfl⟩
          obtain ⟨nb, hnb⟩ : ∃ n, n = best.length := ⟨_, rfl⟩
          rw [← hnb] at how hb12 ⊢
          have HNB := Lib.hid hnb
          clear hnb
          go_upto_region 13 with fail
          go_loopw [9, 8] (fun x v wx => ∃ k : Nat, k ≤ N ∧ x = .int .i64 k ∧ Hid (wx.ownsRow wo.heap.size 3 1 v (bitsL N y k).length (fl encI (iN (bitsL N y k)))) ∧ Hid (Below wo.heap.size wo wx)) (fun x _ _ => N - (intOf x).toNat)
          case atStart => exact ⟨0, by omega, rfl, World.ownsRow_nil _ _ _ _, Below.refl _ _⟩
          case round =>
            obtain ⟨k, hk, rfl, ho, hb⟩ := hrel
            by_cases hkn : k < N
            · have hsn := Lib.hid (bitsL_snoc N y k)
              have htb := Lib.hid (Nat.testBit_eq_decide_div_mod_eq (x := y) (i := N - 1 - k))
              have hib := in_bitsI (y := y) (k := N - 1 - k) (by omega)
              have hle := bitsL_le N y k
              obtain ⟨q, hq⟩ : ∃ q, q = (bitsL N y k).length := ⟨_, rfl⟩
              rw [← hq] at ho hle
              have HQ := Lib.hid hq
              clear hq
              obtain ⟨tb, ht⟩ : ∃ b, y.testBit (N - 1 - k) = b := ⟨_, rfl⟩
              rw [ht] at hsn htb
              clear ht
              cases tb with
              | true =>
                have hm : y / 2 ^ (N - 1 - k) % 2 = 1 := of_decide_eq_true htb.out.symm
                rw [hm] at hib
                have t1 : (bits .and .i64 ((y : Int) / 2 ^ (N - 1 - k)) 1 == 1) = true := by rw [hib]; rfl
                have t2 : decide (bits .and .i64 ((y : Int) / 2 ^ (N - 1 - k)) 1 = 1) = true := by simpa using t1
                have hs : Hid (bitsL N y (k + 1) = bitsL N y k ++ [k]) := by show _ = _; rw [hsn.out]; rfl
                have hbase : wo.heap.size ≤ (wr.alloc (.cells #[.int .i64 k] 3)).heap.size := (bl_alloc hb.out _).size
                clear hib hm htb hsn
                go_wp2_with (at_builtin; refine push_I rfl (.tmp 45) (.tmp 47) rfl wo.heap.size u8 (iN (bitsL N y k)) q (by rw [iN_len]; exact HQ.out) rfl (ho.out.alloc _) _ _ (k : Int) rfl (Blk.new _ _ _) (by omega) hbase ?_; intro g2 cap w8 h81 h82 h83 h84; rw [← iN_snoc, ← hs.out] at h81; have H81 := Lib.hid h81; have H82 := Lib.hid h82; clear h81 h82 h83)
                have hlen2 : Hid ((bitsL N y (k + 1)).length = q + 1) := by show _ = _; rw [hs.out, List.length_append, HQ.out]; rfl
                have HB8 := Lib.hid (bl_grown (bl_alloc hb.out (.cells #[.int .i64 k] 3)) H82.out (fun x e => (ho.out.lt x e).1))
                go_roundw
                case rel => exact ⟨k + 1, by omega, by go_num, by rw [hlen2.out]; exact H81, HB8⟩
                case measure => simp [intOf]; omega
              | false =>
                have hm : ¬ (y / 2 ^ (N - 1 - k) % 2 = 1) := of_decide_eq_false htb.out.symm
                have hm0 : y / 2 ^ (N - 1 - k) % 2 = 0 := by omega
                rw [hm0] at hib
                have t1 : (bits .and .i64 ((y : Int) / 2 ^ (N - 1 - k)) 1 == 1) = false := by rw [hib]; rfl
                have t2 : decide (bits .and .i64 ((y : Int) / 2 ^ (N - 1 - k)) 1 = 1) = false := by simpa using t1
                have hs : Hid (bitsL N y (k + 1) = bitsL N y k) := by show _ = _; rw [hsn.out]; simp
                clear hib hm hm0 htb hsn
                go_wp2_with fail
                go_roundw
                case rel => exact ⟨k + 1, by omega, by go_num, by rw [hs.out, ← HQ.out]; exact ho, hb⟩
                case measure => simp [intOf]; omega
            · obtain rfl : N = k := by omega
              obtain ⟨y', rfl⟩ : ∃ y', y = y' + 1 := ⟨y - 1, by omega⟩
              have HDB : Hid (docD l y' (docB l (y' + 1) best) = bigL l) := hD.out
              have HDC : Hid (docB l (y' + 1) best = if cmpR l (bitsL N (y' + 1) N) (bitsL N (y' + 1) N).length then updL best (bitsL N (y' + 1) N) else best) := by
                show _ = _
                unfold docB
                rw [HL.out]; rfl
              have hlb := bitsL_lt N (y' + 1) N
              have hlen := bitsL_le N (y' + 1) N
              obtain ⟨ll, hll⟩ : ∃ x, x = bitsL N (y' + 1) N := ⟨_, rfl⟩
              rw [← hll] at ho HDC hlb hlen
              have HLB := Lib.hid hlb
              obtain ⟨q, hq⟩ : ∃ q, q = ll.length := ⟨_, rfl⟩
              rw [← hq] at ho HDC hlen
              have HQ := Lib.hid hq
              obtain ⟨A8, c8, rfl, _⟩ := owns_slice ho.out
              have HR8 := Lib.hid (rd_of_owns ho.out)
              have HRA := Lib.hid (HR.out.bl hb.out)
              have hbx := HBXr.out.below hb.out
              have x1 : wr.cell? ⟨X, 1, none⟩ = some (.slice a N c) := hbx.cell 1
              have HOW := Lib.hid (owns_below how.out hb.out)
              have HB9 := Lib.hid (bl_trans hbl.out hb.out)
              clear hlb hll hq hD hbx
              go_upto_region 19 with fail
              obtain ⟨wp, rfl⟩ : ∃ x : World, x = wr := ⟨_, rfl⟩
              go_loopw [11, 10] (fun x v wx => ∃ i : Nat, i ≤ q ∧ x = .int .i64 i ∧ v = .bool (cmpR l ll i) ∧ ∃ m, wx = wp.drewN m) (fun x _ _ => q - (intOf x).toNat)
              case atStart => exact ⟨0, by omega, rfl, rfl, 0, rfl⟩
              case round =>
                obtain ⟨i, hi, rfl, rfl, m, rfl⟩ := hrel
                by_cases hiq : i < q
                · have HRS := Lib.hid (cmpR_succ l ll i)
                  go_upto_region 22 with fail
                  go_loopw [12, 10] (fun x v wx => ∃ k : Nat, k ≤ i ∧ x = .int .i64 k ∧ v = .bool (cmpR l ll i && cmpC l ll i k) ∧ ∃ m, wx = wp.drewN m) (fun x _ _ => i - (intOf x).toNat)
                  case atStart => exact ⟨0, by omega, rfl, by rw [show cmpC l ll i 0 = true from rfl, Bool.and_true], m, rfl⟩
                  case round =>
                    obtain ⟨k, hk, rfl, rfl, m2, rfl⟩ := hrel
                    by_cases hki : k < i
                    · have HCS := Lib.hid (cmpC_succ l ll i k)
                      have hkq : k < q := by omega
                      obtain ⟨b8, o8, rfl, _, hc8⟩ := rdI HR8.out (by rw [iN_len, ← HQ.out]; omega)
                      have g1 := hc8 i (by rw [iN_len, ← HQ.out]; exact hiq)
                      have g2 := hc8 k (by rw [iN_len, ← HQ.out]; omega)
                      rw [iN_get] at g1 g2
                      have n1 : vA ll i < N := HLB.out _ (by rw [vA_get (by rw [← HQ.out]; exact hiq)]; exact List.getElem_mem _)
                      have n2 : vA ll k < N := HLB.out _ (by rw [vA_get (by rw [← HQ.out]; omega)]; exact List.getElem_mem _)
                      obtain ⟨ba, oa, rfl, _, hca⟩ := rdV HRA.out (by rw [HL.out]; omega)
                      generalize vA ll i = u1 at *
                      generalize vA ll k = u2 at *
                      have g3 := hca u1 (by rw [HL.out]; exact n1)
                      have g4 := hca u2 (by rw [HL.out]; exact n2)
                      have z1 := HF.out u1 (by rw [HL.out]; exact n1)
                      have z2 := HF.out u2 (by rw [HL.out]; exact n2)
                      clear hc8 hca
                      generalize vA l u1 = x1' at *
                      generalize vA l u2 = x2' at *
                      have HFT := Lib.hid (fun W => rfit_any x1' x2' W z1 z2)
                      clear z1 z2
                      obtain ⟨fb, hfb⟩ : ∃ b, fitB x1' x2' = b := ⟨_, rfl⟩
                      rw [hfb] at HFT HCS
                      clear hfb
                      obtain ⟨ok, hok⟩ : ∃ b, (cmpR l ll i && cmpC l ll i k) = b := ⟨_, rfl⟩
                      have HN2 : Hid ((cmpR l ll i && cmpC l ll i (k + 1)) = (ok && fb)) := by show _ = _; rw [HCS.out, ← Bool.and_assoc, hok]
                      rw [hok]
                      clear hok HCS
                      cases ok with
                      | true =>
                        obtain ⟨wz, hwz⟩ : ∃ x, x = wp.drewN m2 := ⟨_, rfl⟩
                        have z1' : wz.cell? ⟨X, 1, none⟩ = some (.slice (some ⟨ba, oa, none⟩) N c) := by rw [hwz]; exact x1
                        have g1' : wz.cell? ⟨b8, o8 + i, none⟩ = some (.int .i64 u1) := by rw [hwz]; exact g1
                        have g2' : wz.cell? ⟨b8, o8 + k, none⟩ = some (.int .i64 u2) := by rw [hwz]; exact g2
                        have g3' : wz.cell? ⟨ba, oa + u1, none⟩ = some (.int .u64 x1') := by rw [hwz]; exact g3
                        have g4' : wz.cell? ⟨ba, oa + u2, none⟩ = some (.int .u64 x2') := by rw [hwz]; exact g4
                        rw [← hwz]
                        have HWZ := Lib.hid hwz
                        clear hwz
                        go_upto_region 24 with fail
                        go_quiet ((exact Calls.quiet_of_same (HFT.out _)))
                        go_wp2_with fail
                        go_roundw
                        case rel => exact ⟨k + 1, by omega, by go_num, by rw [HN2.out]; rfl, m2 + nq, by rw [HWZ.out]; simp⟩
                        case measure => simp [intOf]; omega
                      | false =>
                        go_upto_region 24 with fail
                        go_quiet (fail)
                        go_wp2_with fail
                        go_roundw
                        case rel => exact ⟨k + 1, by omega, by go_num, by rw [HN2.out]; rfl, m2 + nq, by simp⟩
                        case measure => simp [intOf]; omega
                    · obtain rfl : k = i := by omega
                      have HN3 : Hid ((cmpR l ll k && cmpC l ll k k) = cmpR l ll (k + 1)) := HRS.out.symm
                      rw [HN3.out]
                      go_wp2_with fail
                      go_roundw
                      case rel => exact ⟨k + 1, by omega, by go_num, rfl, m2, rfl⟩
                      case measure => simp [intOf]; omega
                · obtain rfl : q = i := by omega
                  have hlb8 : ll.length ≤ 12 := by rw [← HQ.out]; omega
                  have HO8 := Lib.hid (owns_mono ho.out hbl.out.size)
                  obtain ⟨ok, hok⟩ : ∃ b, cmpR l ll q = b := ⟨_, rfl⟩
                  rw [hok] at HDC ⊢
                  clear hok
                  cases ok with
                  | true =>
                    by_cases hlt : nb < q
                    · have d3 : decide (nb < q) = true := by simpa using hlt
                      have HN5 : Hid (docB l (y' + 1) best = ll) := by
                        show _ = _
                        rw [HDC.out, if_pos rfl, updL, if_pos (by rw [← HNB.out, ← HQ.out]; exact hlt)]
                      have HDN : Hid (docD l y' ll = bigL l) := by show _ = _; rw [← HDB.out, HN5.out]
                      go_wp2_with fail
                      go_roundw
                      case rel => exact ⟨y', ll, by omega, rfl, HDN, hlb8, by rw [← HQ.out]; exact HO8, bl_drewN HB9.out m⟩
                      case measure => simp [intOf]
                    · have d3 : decide (nb < q) = false := by simpa using hlt
                      have HN5 : Hid (docB l (y' + 1) best = best) := by
                        show _ = _
                        rw [HDC.out, if_pos rfl, updL, if_neg (by rw [← HNB.out, ← HQ.out]; exact hlt)]
                      have HDN : Hid (docD l y' best = bigL l) := by show _ = _; rw [← HDB.out, HN5.out]
                      go_wp2_with fail
                      go_roundw
                      case rel => exact ⟨y', best, by omega, rfl, HDN, by rw [← HNB.out]; exact hb12, by rw [← HNB.out]; exact HOW, bl_drewN HB9.out m⟩
                      case measure => simp [intOf]
                  | false =>
                    have HN5 : Hid (docB l (y' + 1) best = best) := HDC.out
                    have HDN : Hid (docD l y' best = bigL l) := by show _ = _; rw [← HDB.out, HN5.out]
                    go_wp2_with fail
                    go_roundw
                    case rel => exact ⟨y', best, by omega, rfl, HDN, by rw [← HNB.out]; exact hb12, by rw [← HNB.out]; exact HOW, bl_drewN HB9.out m⟩
                    case measure => simp [intOf]
        · have hy0' : y = 0 := by omega
          have HBB : Hid (best = bigL l) := by have h := hD.out; rw [hy0'] at h; exact h
          have d2 : decide (0 < y) = false := by simpa using hy0
          have HO9 := Lib.hid (owns_mono how.out HB3.out.size)
          rw [HBB.out] at HO9 ⊢
          obtain ⟨z, hz⟩ : ∃ z, z = (bigL l).length := ⟨_, rfl⟩
          rw [← hz] at HO9 ⊢
          have HZ := Lib.hid hz
          have HB9 := Lib.hid (bl_trans HB3.out hbl.out)
          clear hy0' hD how hbl hz hb12
          go_wp2_with fail
          exact bodyPost_ret (v := .tuple #[.slice A5 z c5, .int .i64 0]) (by simp [results, Tryd.results22, go_sem]) rfl ⟨_, by rw [hE.out], by rw [hLL.out, ← HZ.out]; exact HO9.out, HB9.out⟩
  · have hE : Hid (lgE L l = chkT L l) := if_pos h0
    obtain ⟨E, hEE⟩ : ∃ E, chkT L l = E := ⟨_, rfl⟩
    rw [hEE] at hE h0 ⊢
    have d0 : (E == 0) = false := by simp [h0]
    have d1 : (E != 0) = true := by simp [h0]
    have h00 := Lib.hid h0
    clear hEE h0
    go_wp2_with fail
    exact bodyPost_ret (v := .tuple #[.slice none 0 0, .int .i64 E]) (by simp [results, Tryd.results22, go_sem]) rfl (lgPost_nil hE.out h00.out HB3.out)
end Go.Proofs.YtnabbmdhhddfbaaDoor
namespace Go.Proofs.YtnabbmdhhddfbaaDoor
open Go Go.RowKit Go.Shelf
set_option maxHeartbeats 1000000 in
theorem other_any (L : Int) (a : Option Addr) (N c : Nat) (w : World) : Calls Tryd.prog 17 #[.agg #[.int .i64 L, .slice a N c]] w fun e w' => e = .returned (.agg #[.int .i64 L, .slice a N c]) ∧ Below w.heap.size w w' := by
  go_enter Tryd.func17, Tryd.ntmps17
  go_wp2_with fail
  exact bodyPost_ret (v := .agg #[.int .i64 L, .slice a N c]) (by simp [results, Tryd.results17, go_sem]) rfl ⟨rfl, bl_alloc (bl_alloc (Below.refl _ _) _) _⟩
theorem lgL_len (L : Int) (l : List Nat) : (lgL L l).length ≤ 12 := by
  unfold lgL
  split
  · rename_i h
    have h12 : l.length ≤ 12 := by
      unfold lgE at h
      by_cases q : chkT L l = 0
      · rw [if_neg (fun h => h q)] at h
        by_cases q2 : 12 < l.length
        · rw [if_pos q2] at h; omega
        · omega
      · rw [if_pos q] at h; exact absurd h q
    rw [bigL_dsc]
    have key : ∀ r m, ∀ x, x ∈ dsc l r m → x.length ≤ m.length + r := by
      intro r
      induction r with
      | zero => intro m x hx; rw [dsc, List.mem_singleton] at hx; subst hx; omega
      | succ r ih =>
        intro m x hx
        rw [dsc, List.mem_append] at hx
        rcases hx with hx | hx
        · split at hx
          · have := ih _ _ hx
            rw [List.length_append, List.length_singleton] at this; omega
          · cases hx
        · have := ih _ _ hx; omega
    rcases fold_mem (dsc l l.length []) [] with h | h
    · rw [h]; simp
    · have := key _ _ _ h
      simp at this; omega
  · simp
set_option maxRecDepth 100000 in
set_option maxHeartbeats 4000000 in
theorem lglaw_any (L : Int) (a : Option Addr) (N c : Nat) (l : List Nat) (w : World) (hl : l.length = N) (hN : N ≤ 1152921504606846976) (hA : Rd w a (fl encV l)) (hF : FitV l) :
    Calls Tryd.prog 4 #[.agg #[.int .i64 L, .slice a N c]] w fun e w' => e = .returned (.bool true) ∧ Below w.heap.size w w' := by
  have hb0 := bl_alloc (Below.refl _ w) (.cells #[.int .i64 L, .slice a N c] 24)
  have hB := Blk.new w #[.int .i64 L, .slice a N c] 24
  have HL := Lib.hid hl
  have HF := Lib.hid hF
  have HA := Lib.hid (hA.bl hb0)
  have HB0 := Lib.hid hb0
  have HW := Lib.hid works_any
  clear hl hA hF
  by_cases hq : (8 < N ∧ N ≤ 12) ∨ 70 < N
  · by_cases h8 : 8 < N ∧ N ≤ 12
    · obtain ⟨h1, h2⟩ := h8
      have d1 : decide (8 < N) = true := by simpa using h1
      have d2 : decide (N ≤ 12) = true := by simpa using h2
      clear hq
      go_enter Tryd.func4, Tryd.ntmps4
      go_wp2_with fail
      refine (HW.out _).mono ?_
      rintro e w1 ⟨rfl, hb1⟩
      go_wp2_with fail
      go_ret
      exact ⟨rfl, bl_trans HB0.out hb1⟩
    · have h70 : 70 < N := by omega
      have d1 : decide (8 < N) = true := by simp; omega
      have d2 : decide (N ≤ 12) = false := by simp; omega
      have d3 : decide (70 < N) = true := by simpa using h70
      clear hq h8
      go_enter Tryd.func4, Tryd.ntmps4
      go_wp2_with fail
      refine (HW.out _).mono ?_
      rintro e w1 ⟨rfl, hb1⟩
      go_wp2_with fail
      go_ret
      exact ⟨rfl, bl_trans HB0.out hb1⟩
  · have d3 : decide (70 < N) = false := by simp; omega
    have HC1 := Lib.hid (largest_any L a N c l (w.alloc (.cells #[.int .i64 L, .slice a N c] 24)) HL.out hN HA.out HF.out)
    have HBX := Lib.hid hB
    have hle := lgL_len L l
    have d3' : decide (70 < (N : Int)) = false := by simp; omega
    have key : (decide (8 < (N : Int)) = false) ∨ (decide (8 < (N : Int)) = true ∧ decide ((N : Int) ≤ 12) = false) := by
      by_cases h : 8 < N
      · right; exact ⟨decide_eq_true (by omega), decide_eq_false (by omega)⟩
      · left; exact decide_eq_false (by omega)
    clear hq hB hb0
    rcases key with d1 | ⟨d1, d2⟩
    all_goals
      go_enter Tryd.func4, Tryd.ntmps4
      go_upto_region 3 with fail
      obtain ⟨X, hX⟩ : ∃ x, x = w.heap.size := ⟨_, rfl⟩
      have e0 : (w.alloc (.cells #[.int .i64 L, .slice a N c] 24)).cell? ⟨X, 0, none⟩ = some (.int .i64 L) := by rw [hX]; exact HBX.out.cell 0
      have e1 : (w.alloc (.cells #[.int .i64 L, .slice a N c] 24)).cell? ⟨X, 1, none⟩ = some (.slice a N c) := by rw [hX]; exact HBX.out.cell 1
      have HX := Lib.hid hX
      rw [← hX]
      clear hX
      go_wp2_with fail
      refine HC1.out.mono ?_
      rintro e w2 ⟨v, rfl, ho, hb2⟩
      have hbx2 := HBX.out.below hb2
      rw [← HX.out] at hbx2
      have f0 : w2.cell? ⟨X, 0, none⟩ = some (.int .i64 L) := hbx2.cell 0
      have f1 : w2.cell? ⟨X, 1, none⟩ = some (.slice a N c) := hbx2.cell 1
      have HB2 := Lib.hid (bl_trans HB0.out hb2)
      have HA2 := Lib.hid (HA.out.bl hb2)
      have HO := Lib.hid ho
      clear e0 e1 ho hb2 hbx2
      go_wp2_with fail
      refine (other_any L a N c _).mono ?_
      rintro e w3 ⟨rfl, hb3⟩
      have HB3 := Lib.hid (bl_trans HB2.out hb3)
      have HO3 := Lib.hid (owns_below HO.out hb3)
      have HC2 := Lib.hid (rlargest_any L a N c l w3 HL.out hN (HA2.out.bl hb3) HF.out)
      clear hb3 f0 f1 HB2 HO HA2
      go_wp2_with fail
      refine HC2.out.mono ?_
      rintro e w4 ⟨v', rfl, ho4, hb4⟩
      have ho3 := owns_below HO3.out hb4
      obtain ⟨A1, c1, rfl, _⟩ := owns_slice ho3
      obtain ⟨A2, c2, rfl, _⟩ := owns_slice ho4
      have HB4 := Lib.hid (bl_trans HB3.out hb4)
      have HI := Lib.hid (ints_same A1 A2 (lgL L l).length (lgL L l).length c1 c2 (iN (lgL L l)) w4 (iN_len _) (iN_len _) (by omega) (by omega) (rd_of_owns ho3) (rd_of_owns ho4))
      obtain ⟨z, hz⟩ : ∃ z, z = (lgL L l).length := ⟨_, rfl⟩
      obtain ⟨E, hE⟩ : ∃ z, z = lgE L l := ⟨_, rfl⟩
      rw [← hz] at HI ⊢
      rw [← hE]
      clear ho3 ho4 hb4 HB3 HO3 HC2 HC1 hz hE hle
      go_wp2_with fail
      refine HI.out.mono ?_
      rintro e w5 ⟨rfl, nq, rfl⟩
      have HB5 := Lib.hid (bl_drewN HB4.out nq)
      go_wp2_with fail
      refine (HW.out _).mono ?_
      rintro e w6 ⟨rfl, hb6⟩
      go_wp2_with fail
      go_ret
      exact ⟨rfl, bl_trans HB5.out hb6⟩
end Go.Proofs.YtnabbmdhhddfbaaDoor
