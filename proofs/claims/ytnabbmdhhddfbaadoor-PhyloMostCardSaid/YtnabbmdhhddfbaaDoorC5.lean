/- phylo.Losses at every table and tree. -/
import Derived.Test.YtnabbmdhhddfbaaDoorC4
import Derived.Test.YtnabbmdhhddfbaaDoorB3
import Derived.Laws.EntriesVeiled
namespace Go.Proofs.YtnabbmdhhddfbaaDoor
open Go.RowKit Go.Shelf
attribute [local go_sem] Oper.semAt_some
def dfs (Ds : List Nat) : List Deferred := Ds.map fun D => { target := .collected D, args := #[] }
theorem keeps_drewN (W : World) (n : Nat) : KeepsOthers W (W.drewN n) := ⟨Nat.le_refl _, fun _ _ h _ => h⟩
theorem ex_u {F : (Nat → Value) → Act} {a : Act} {p q r : Prop} (hp : p) (hq : q) (hr : r) (h : a = F (fun j => a.tmps.getD j undef)) : ∃ u, p ∧ q ∧ a = F u ∧ r := ⟨_, hp, hq, h, hr⟩
/-- w' is w, the blocks Ds turned. -/
structure Trn (Ds : List Nat) (w w' : World) : Prop where
  os : w'.os = w.os
  tape : w'.tape = w.tape
  output : w'.output = w.output
  size : w'.heap.size = w.heap.size
  block : ∀ k, k ∉ Ds → w'.heap[k]? = w.heap[k]?
theorem leaves_all {P : Program} {fn : Func} {tmps : Array Value} {R : Ending → World → Prop} : ∀ (Ds : List Nat) (w : World), Ds.Nodup → (∀ D ∈ Ds, w.heap[D]? = some (Obj.deferred (some []))) →
    (∀ w', Trn Ds w w' → ∃ v, (results fn tmps).run P w' = .ok v w' ∧ R (.returned v) w') → LeavesInM Fence.wide 10 P fn tmps R (dfs Ds) .returning w
  | [], w, _, _, h => h w ⟨rfl, rfl, rfl, rfl, fun _ _ => rfl⟩
  | D :: Ds, w, hn, hd, h => by
    have h0 := hd D List.mem_cons_self
    have hlt := (Array.getElem?_eq_some_iff.1 h0).1
    have hg := grownBy_putObj' w D (Obj.deferred none)
    have hD := (List.nodup_cons.1 hn).1
    refine ⟨by simp, .inl ⟨D, _, rfl, run_takeDeferred h0, leaves_all Ds _ (List.nodup_cons.1 hn).2 (fun D' hD' => ?_) fun w' ht => h w' ?_⟩⟩
    · have h1 := hd D' (List.mem_cons_of_mem _ hD')
      exact (hg.block D' (Array.getElem?_eq_some_iff.1 h1).1 (fun e => hD (by rw [← Option.some.inj e]; exact hD'))).trans h1
    · have hz : (w.putObj D (Obj.deferred none)).heap.size = w.heap.size := by simp [World.putObj]
      refine ⟨ht.os.trans hg.os, ht.tape.trans hg.tape, ht.output.trans hg.output, ht.size.trans hz, fun k hk => ?_⟩
      have hk1 : k ≠ D := fun e => hk (by rw [e]; exact List.mem_cons_self)
      have hk2 : k ∉ Ds := fun e => hk (List.mem_cons_of_mem _ e)
      rw [ht.block k hk2]
      by_cases hkl : k < w.heap.size
      · exact hg.block k hkl (fun e => hk1 (Option.some.inj e))
      · rw [Array.getElem?_eq_none (by rw [hz]; omega), Array.getElem?_eq_none (by omega)]
theorem Trn.below {Ds : List Nat} {a w w' : World} {B : Nat} (h : Trn Ds w w') (hb : Below B a w) (hd : ∀ D ∈ Ds, B ≤ D) : Below B a w' :=
  ⟨h.os.trans hb.os, h.tape.trans hb.tape, h.output.trans hb.output, by rw [h.size]; exact hb.size, fun k hk => (h.block k (fun e => by have := hd k e; omega)).trans (hb.block k hk)⟩
theorem Trn.owns {Ds : List Nat} {w w' : World} {base e k : Nat} {v : Value} {n : Nat} {cs : List Value} (h : Trn Ds w w') (hd : ∀ D ∈ Ds, w.heap[D]? = some (Obj.deferred (some []))) (ho : w.ownsRow base e k v n cs) : w'.ownsRow base e k v n cs := by
  refine ⟨ho.1, ?_⟩
  rcases ho.2 with h2 | ⟨g, cap, cur, hv, hg, hh, r⟩
  · exact .inl h2
  · exact .inr ⟨g, cap, cur, hv, hg, (h.block g (fun e => by have := hd g e; rw [hh] at this; cases this)).trans hh, r⟩
/-- What lists of pairs write. -/
def setP (l : List (Nat × Nat)) : Nat → Nat := l.foldl (fun f x v => if v = x.1 then x.2 else f v) (fun _ => 0)
theorem setP_snoc (l : List (Nat × Nat)) (x : Nat × Nat) : setP (l ++ [x]) = fun v => if v = x.1 then x.2 else setP l v := by
  unfold setP; rw [List.foldl_append]; rfl
theorem setP_nds (t : List Nd) : ∀ k v, setP (ndsL t k) v = if v < k then cl t v else 0 := by
  intro k
  induction k with
  | zero => intro v; rfl
  | succ k ih =>
    intro v
    rw [ndsL_snoc, setP_snoc]
    show (if v = k then cl t k else setP (ndsL t k) v) = _
    rw [ih]
    by_cases e : v = k
    · subst e; rw [if_pos rfl, if_pos (by omega)]
    · rw [if_neg e]
      by_cases e2 : v < k
      · rw [if_pos e2, if_pos (by omega)]
      · rw [if_neg e2, if_neg (by omega)]
/-- The last of the first k nodes that has all of x, or the root. -/
def lAt (f : Nat → Nat) (x : Nat) : Nat → Nat
  | 0 => 0
  | k + 1 => if f k &&& x = x then k else lAt f x k
/-- Is innovation x lost on the way to node v? -/
def lossB (t : List Nd) (f : Nat → Nat) (x at_ v : Nat) : Bool := ((decide (0 < v) && decide ((at_ : Int) ≤ nP t v)) && !decide (x &&& f (nP t v).toNat = 0)) && decide (x &&& f v = 0)
def lCnt (t : List Nd) (f : Nat → Nat) (x at_ : Nat) : Nat → Nat
  | 0 => 0
  | k + 1 => lCnt t f x at_ k + if lossB t f x at_ k then 1 else 0
def lossN (t : List Nd) (x : Nat) : Nat := lCnt t (cl t) x (lAt (cl t) x t.length) t.length
theorem lCnt_le (t : List Nd) (f : Nat → Nat) (x a : Nat) : ∀ k, lCnt t f x a k ≤ k := by
  intro k
  induction k with
  | zero => exact Nat.le_refl _
  | succ k ih => unfold lCnt; split <;> omega
theorem lAt_lt (f : Nat → Nat) (x : Nat) : ∀ k, lAt f x k ≤ k := by
  intro k
  induction k with
  | zero => exact Nat.le_refl _
  | succ k ih => unfold lAt; split <;> omega
/-- What Losses answers. -/
def lossL (L : Int) (l : List Nat) (t : List Nd) : List Nat := if chkP L l t = 0 then l.map (lossN t) else []
theorem chkP_ok {L : Int} {l : List Nat} {t : List Nd} (h : chkP L l t = 0) : chkT L l = 0 ∧ TreeOk t ∧ ((lvT t).length : Int) = L := by
  unfold chkP at h
  by_cases q : chkT L l = 0
  · rw [if_neg (fun h => h q)] at h
    by_cases q2 : chkE t = 0
    · rw [if_neg (fun h => h q2)] at h
      by_cases q3 : ((lvT t).length : Int) = L
      · exact ⟨q, chk_tree q2, q3⟩
      · rw [if_neg q3] at h; omega
    · rw [if_pos q2] at h; exact absurd h q2
  · rw [if_pos q] at h; exact absurd h q
/-- The range's invariant: row g is written, other blocks lie as they lay. -/
def LsI (w6 : World) (g n : Nat) (ys : List (NQ n)) (W : World) : Prop := Blk W g (ofF n (fun v => .int .u64 (setP (ys.map qN) v : Nat))) 61 ∧ w6.grownBy W (some g)
theorem LsI.own (w6 : World) (g n : Nat) : OwnFrom w6.heap.size (LsI w6 g n) := by
  intro ys W W' row ⟨h1, h2⟩ hg hr
  have hne : ∀ r, row = some r → w6.heap.size ≤ r ∧ r ≠ g := fun r e => by
    obtain ⟨hb, o, ho, hc⟩ := hr r e
    refine ⟨hb, fun e2 => ?_⟩
    subst e2
    unfold Blk at h1
    rw [h1] at ho
    cases ho
    cases hc
  refine ⟨(hg.block g h1.lt (fun e => (hne g e.symm).2 rfl)).trans h1, hg.os.trans h2.os, hg.tape.trans h2.tape, hg.output.trans h2.output, Nat.le_trans h2.size hg.size, fun k hk hkg => ?_⟩
  exact (hg.block k (Nat.lt_of_lt_of_le hk h2.size) (fun e => by have := (hne k e.symm).1; omega)).trans (h2.block k hk hkg)
theorem kpN_put {n₀ : Nat} (W : World) (l : Nat) (o o' : Obj) (h : W.heap[l]? = some o) (hc : o.isCells = false) : KpN n₀ W (W.putObj l o') := by
  intro B cs t fr _ hB
  have hg := grownBy_putObj' W l o'
  refine (hg.block B (Array.getElem?_eq_some_iff.1 hB).1 (fun e => ?_)).trans hB
  have := Option.some.inj e
  subst this
  rw [h] at hB
  cases hB
  cases hc
theorem rd_grown {w2 w6 w9 : World} {g : Nat} {a : Option Addr} {cs : List Value} (h : Rd w2 a cs) (hb : Below w2.heap.size w2 w6) (hg : w6.grownBy w9 (some g)) (hgz : w2.heap.size ≤ g) : Rd w9 a cs := by
  intro h0
  obtain ⟨b, off, e, hlt, hc⟩ := h h0
  have h1 := hb.size
  have h2 := hg.size
  refine ⟨b, off, e, by omega, fun i hi => ?_⟩
  exact hg.cell (a := ⟨b, off + i, none⟩) ((hb.cell (p := ⟨b, off + i, none⟩) hlt).trans (hc i hi)) (fun e2 => by have := Option.some.inj e2; simp at this; omega)
theorem grownBy_same (w : World) (g : Nat) : w.grownBy w (some g) := ⟨rfl, rfl, rfl, Nat.le_refl _, fun _ _ _ => rfl⟩
def LsPost (w : World) (L : Int) (l : List Nat) (t : List Nd) (e : Ending) (w' : World) : Prop :=
  ∃ v, e = .returned (.tuple #[v, .int .i64 (chkP L l t)]) ∧ w'.ownsRow w.heap.size 3 1 v (lossL L l t).length (fl encI (iN (lossL L l t))) ∧ Below w.heap.size w w'
set_option maxRecDepth 100000 in
set_option maxHeartbeats 4000000 in
theorem losses_any (L : Int) (a : Option Addr) (N c : Nat) (l : List Nat) (b : Option Addr) (n d : Nat) (t : List Nd) (w : World) (hl : l.length = N) (hN : N ≤ 1152921504606846976) (hA : Rd w a (fl encV l)) (hF : FitV l)
    (ht : t.length = n) (hn60 : n ≤ 1152921504606846976) (hnd : n ≤ d) (hd : d ≤ 9223372036854775807) (hB : Rd w b (fl encNd t)) (hS : ∀ v, v < n → (nS t v).size ≤ 9223372036854775807) :
    Calls Tryd.prog 24 #[.agg #[.int .i64 L, .slice a N c], .slice b n d] w (LsPost w L l t) := by
  have hb0 := bl_alloc (Below.refl _ w) (.cells #[.int .i64 L, .slice a N c] 24)
  have hX := Blk.new w #[.int .i64 L, .slice a N c] 24
  have HC := Lib.hid (pcheck_any L a N c l b n d t (w.alloc (.cells #[.int .i64 L, .slice a N c] 24)) hl hN (hA.bl hb0) hF ht (by omega) (hB.bl hb0) hS)
  have HL := Lib.hid hl
  have HF := Lib.hid hF
  have HT := Lib.hid ht
  have HA := Lib.hid (hA.bl hb0)
  have HB := Lib.hid (hB.bl hb0)
  clear hl hA hF ht hB hS
  refine (callsIn_wide (n := 10)).1 ?_
  refine callsIn_of_wp_marks Tryd.func24 rfl trivial ?_ rfl
  simp only [Tryd.ntmps24, List.size_toArray, List.length_cons, List.length_nil, Nat.reduceAdd, Nat.reduceSub, Array.replicate_succ, Array.replicate_zero, List.push_toArray, List.append_toArray, List.nil_append, List.cons_append]
  refine wpIn_wide.2 ?_
  go_wp2_with fail
  refine HC.out.mono ?_
  rintro e w2 ⟨rfl, hb2⟩
  have HB2 := Lib.hid (bl_trans hb0 hb2)
  have HX2 := Lib.hid (hX.below hb2)
  have HRA := Lib.hid (HA.out.bl hb2)
  have HRB := Lib.hid (HB.out.bl hb2)
  obtain ⟨X, hXe⟩ : ∃ x, x = w.heap.size := ⟨_, rfl⟩
  rw [← hXe] at HX2 ⊢
  have HXE := Lib.hid hXe
  clear hb0 hb2 hX HC HA HB hXe
  by_cases h0 : chkP L l t = 0
  · have hLL : Hid (lossL L l t = l.map (lossN t)) := if_pos h0
    have HE := Lib.hid h0
    obtain ⟨k0, k1, k2⟩ := chkP_ok h0
    rw [h0]
    clear h0
    obtain ⟨M, rfl⟩ : ∃ M : Nat, L = M := ⟨(lvT t).length, k2.symm⟩
    obtain ⟨hM, hl64, hlt⟩ := chk_lt k0
    have hok := k1
    have HP : Hid (∀ v, 0 < v → v < n → 0 ≤ nP t v ∧ nP t v < v) := fun v h1 h2 => tree_par hok v h1 (by rw [HT.out]; exact h2)
    have hn1 : 1 ≤ n := by have := hok.1; have := HT.out; omega
    have hn63 : n ≤ 63 := by have := hok.2.1; have := HT.out; omega
    have hN64 : N ≤ 64 := by have := HL.out; omega
    have HLV : Hid ((lvsL t n).length ≤ 32) := by
      show _ ≤ _
      have e : lvT t = lvsL t n := by unfold lvT chkE; rw [if_pos hok, if_pos rfl, HT.out]
      rw [← e]; omega
    have HCL : Hid (∀ v, v < n → cl t v < 18446744073709551616) := fun v hv => Nat.lt_of_lt_of_le (cl_lt (n := 32) (by rw [HT.out]; exact HLV.out) v (by rw [HT.out]; exact hv)) (by decide)
    obtain ⟨i0, hi0, hz0, hz1, hz2⟩ := info_parts info_G
    have hmk := run_make (P := Tryd.prog) w2 62 61 i0 _ Tryd.underlying62 hi0 hz0 .i64 .i64 (n : Int) (n : Int) (by omega) (by omega) (by rw [hz2]; omega) (by omega)
    simp only [hz1, Int.toNat_natCast, Nat.mul_one] at hmk
    clear hi0 hz0 hz1 hz2 k0 k1 k2 hl64 hlt hok
    go_upto_region 5 with fail
    have hg0 := ((Blk.new w2 (madeCells #[.int .u64 0] n) 61).alloc (.cells #[.slice (some ⟨w2.heap.size, 0, none⟩) n n] 62)).alloc (.cells #[.slice b n d] 27)
    have hb70 := (Blk.new2 w2 (.cells (madeCells #[.int .u64 0] n) 61) #[.slice (some ⟨w2.heap.size, 0, none⟩) n n] 62).alloc (.cells #[.slice b n d] 27)
    have hbN := Blk.new ((w2.alloc (.cells (madeCells #[.int .u64 0] n) 61)).alloc (.cells #[.slice (some ⟨w2.heap.size, 0, none⟩) n n] 62)) #[.slice b n d] 27
    have hbl6 : Below w2.heap.size w2 (((w2.alloc (.cells (madeCells #[.int .u64 0] n) 61)).alloc (.cells #[.slice (some ⟨w2.heap.size, 0, none⟩) n n] 62)).alloc (.cells #[.slice b n d] 27)) := bl_alloc (bl_alloc (bl_alloc (Below.refl _ _) _) _) _
    have hz6 : (((w2.alloc (.cells (madeCells #[.int .u64 0] n) 61)).alloc (.cells #[.slice (some ⟨w2.heap.size, 0, none⟩) n n] 62)).alloc (.cells #[.slice b n d] 27)).heap.size = w2.heap.size + 1 + 1 + 1 := by simp only [World.size_alloc]
    have hz5 : ((w2.alloc (.cells (madeCells #[.int .u64 0] n) 61)).alloc (.cells #[.slice (some ⟨w2.heap.size, 0, none⟩) n n] 62)).heap.size = w2.heap.size + 1 + 1 := by simp only [World.size_alloc]
    rw [hz5] at hbN
    go_wp2_with fail
    refine (nodes_any b n d _).mono ?_
    rintro e w6 ⟨rfl, rfl⟩
    rw [hz5]
    obtain ⟨w6, hw6⟩ : ∃ x, x = (((w2.alloc (.cells (madeCells #[.int .u64 0] n) 61)).alloc (.cells #[.slice (some ⟨w2.heap.size, 0, none⟩) n n] 62)).alloc (.cells #[.slice b n d] 27)) := ⟨_, rfl⟩
    obtain ⟨g, hg⟩ : ∃ x, x = w2.heap.size := ⟨_, rfl⟩
    rw [← hw6] at hg0 hb70 hbN hbl6 hz6 ⊢
    rw [← hg] at hg0 hb70 hbN hz6 ⊢
    rw [u64s_made] at hg0
    have hXg : X < g := by rw [hg]; exact HX2.out.lt
    have HG := Lib.hid hg
    have HG0 := Lib.hid hg0
    have HB7 := Lib.hid hb70
    have HBN := Lib.hid hbN
    have HBL6 := Lib.hid hbl6
    have HZ6 := Lib.hid hz6
    clear hw6 hg hg0 hb70 hbN hbl6 hz6 hz5 hmk
    go_wp2_with fail
    refine (wpIn_wide (n := 10)).1 ?_
    refine wpIn_rangeFunc_ownF rfl (by omega) (gf := 71) (lb := #[.pointer (some ⟨g + 1 + 1, 0, none⟩)]) rfl trivial (enters_of Tryd.func71 (by kernel_rfl) rfl)
      (nodes_stops 9 n (g + 1 + 1) w6.heap.size d b t w6 HT.out hn1 hn63 hnd hd HP.out HLV.out (by omega) (HBN.out.cell 0) (by have := HZ6.out; omega) (HRB.out.bl HBL6.out) (Nat.le_refl _))
      KpN.trans (fun W l o o' _ h hc _ => kpN_put W l o o' h hc) (Below.refl _ _) (fun _ => rfl) (fun ys W => LsI w6 g n ys W) (fun _ _ _ => False) (LsI.own w6 g n) (fun _ _ _ _ _ hs _ _ => hs) ⟨HG0.out, grownBy_same w6 g⟩
      (fun x => { tmps := #[Value.agg #[Value.int IntKind.i64 ↑M, Value.slice a N c], Value.slice b n d, Value.pointer (some { block := X, off := 0 }), undef, Value.slice none 0 0, Value.int IntKind.i64 0, Value.int IntKind.i64 0, Value.pointer (some { block := g + 1, off := 0 }), .int .i64 (x.1.val : Int), .int .u64 (x.2.val : Int), undef, undef, undef, undef, undef, undef, undef, undef, undef, undef, Value.agg #[Value.int IntKind.i64 ↑M, Value.slice a N c], Value.slice b n d, Value.int IntKind.i64 0, Value.int IntKind.i64 0, Value.bool false, undef, Value.slice b n d, Value.int IntKind.i64 ↑n, Value.slice (some { block := g, off := 0 }) n n, Value.slice b n d, Value.func (Fn.func 71) #[] #[Value.pointer (some { block := g + 1 + 1, off := 0 })], .int .i64 (x.1.val : Int), .int .u64 (x.2.val : Int), undef, undef, undef, undef, undef, undef, undef, undef, undef, undef, undef, undef, undef, undef, undef, undef, undef, undef, undef, undef, undef, undef, undef, undef, undef, undef, undef, undef, undef, undef, undef, undef, undef, undef, undef, undef, undef, undef, undef, undef, undef, undef, undef, undef, undef, undef, undef, undef, undef, undef, undef, undef, undef, undef, undef, undef, undef, undef, undef, undef, undef, undef, undef, undef, undef, undef, undef, undef, undef], defers := [] }) ?assign ?body ?done ?stop
    case assign =>
      intro l x W' K hK
      dsimp only [encQ, qN]
      gi_wp2
      exact hK
    case body =>
      rintro l pre ⟨⟨v, hv⟩, ⟨q, hq⟩⟩ W' ⟨h1, h2⟩ hlen
      have c7 : W'.cell? ⟨g + 1, 0, none⟩ = some (.slice (some ⟨g, 0, none⟩) n n) := (h2.cell (a := ⟨g + 1, 0, none⟩) (HB7.out.cell 0) (fun e => by have := Option.some.inj e; simp at this)).trans rfl
      have cg : W'.cell? ⟨g, v, none⟩ = some (.int .u64 (setP (pre.map qN) v : Nat)) := h1.getF v hv
      have fg : W'.frozen? ⟨g, v, none⟩ = false := h1.free v
      have hsn : setP ((pre ++ [((⟨v, hv⟩, ⟨q, hq⟩) : NQ n)]).map qN) = fun u => if u = v then q else setP (pre.map qN) u := by
        rw [List.map_append]; exact setP_snoc _ _
      have hfn : (fun u => if u = v then Value.int .u64 (q : Int) else Value.int .u64 (setP (pre.map qN) u : Nat)) = fun u => Value.int .u64 (setP ((pre ++ [((⟨v, hv⟩, ⟨q, hq⟩) : NQ n)]).map qN) u : Nat) := by
        rw [hsn]
        funext u
        by_cases e : u = v
        · subst e; simp
        · simp [e]
      have hs1 := h1.setF v (.int .u64 (q : Int))
      rw [hfn] at hs1
      have hgr : w6.grownBy (W'.setCell ⟨g, v, none⟩ (.int .u64 (q : Int))) (some g) :=
        ⟨h2.os, h2.tape, h2.output, by simp [World.setCell]; exact h2.size, fun k hk hne => (Below.heap_setCell W' _ _ k (fun e => hne (by rw [e]))).trans (h2.block k hk hne)⟩
      have hkp : KpN w6.heap.size W' (W'.setCell ⟨g, v, none⟩ (.int .u64 (q : Int))) := fun B cs t' fr hB hx => by
        refine (Below.heap_setCell W' _ _ B (fun e => ?_)).trans hx
        have := HZ6.out
        have e' : B = g := e
        omega
      have HS1 := Lib.hid hs1
      have HGR := Lib.hid hgr
      have HKP := Lib.hid hkp
      clear hs1 hgr hkp hsn hfn h1 h2 HG0 HB7 HBN HBL6
      dsimp only
      gi_wp2
      exact ⟨KeepsOthers.setCell _ _ _, HKP.out, HS1.out, HGR.out⟩
    case done =>
      rintro D ys w9 hD hys ⟨h1, h2⟩ hKD
      have hcl : ofF n (fun v => Value.int .u64 (setP (ys.map qN) v : Nat)) = ofF n (fun v => Value.int .u64 (cl t v : Nat)) := ofF_congr fun i hi => by rw [hys, setP_nds, if_pos hi]
      rw [hcl] at h1
      have HS9 := Lib.hid h1
      have hz6 := HZ6.out
      have H79 := Lib.hid (gr_blk h2 HB7.out (by omega))
      have HX9 := Lib.hid (gr_blk h2 (HX2.out.below HBL6.out) (by omega))
      have hgz : w2.heap.size ≤ g := by have := HG.out; omega
      have HRA9 := Lib.hid (rd_grown HRA.out HBL6.out h2 hgz)
      have HRB9 := Lib.hid (rd_grown HRB.out HBL6.out h2 hgz)
      have HBL9 : Hid (Below w.heap.size w w9) := bl_grown (bl_trans HB2.out HBL6.out) h2 (fun r hr => by have := Option.some.inj hr; have := HXE.out; omega)
      have HKD := Lib.hid hKD
      have hDz : g + 1 + 1 < D := by omega
      clear hcl h1 h2 hys hKD HG0 HB7 HBN HBL6 HX2
      have hx1 : w9.cell? ⟨X, 1, none⟩ = some (.slice a N c) := HX9.out.cell 1
      have HFV := Lib.hid HF.out
      go_wp2_with fail
      clear hx1
      go_loopw [40, 10] (fun x v wr => ∃ k : Nat, k ≤ N ∧ x = .int .i64 k ∧ Hid (wr.ownsRow w9.heap.size 3 1 v k (fl encI (iN ((l.take k).map (lossN t))))) ∧ Hid (Below w9.heap.size w9 wr)) (fun x _ _ => N - (intOf x).toNat)
      case atStart => exact ⟨0, by omega, rfl, World.ownsRow_nil _ _ _ _, Below.refl _ _⟩
      case round =>
        obtain ⟨k, hk, rfl, how, hbl⟩ := hrel
        by_cases hlt : k < N
        · obtain ⟨ba, oa, rfl, hba, hca⟩ := rdV (HRA9.out.bl hbl.out) (by rw [HL.out]; omega)
          have G := hca k (by rw [HL.out]; exact hlt)
          have hx := HFV.out k (by rw [HL.out]; exact hlt)
          have HTK : Hid ((l.take (k + 1)).map (lossN t) = (l.take k).map (lossN t) ++ [lossN t (vA l k)]) := by
            show _ = _
            rw [List.take_succ_eq_append_getElem (by rw [HL.out]; exact hlt), List.map_append, vA_get (by rw [HL.out]; exact hlt)]; rfl
          have c7 : wr.cell? ⟨g + 1, 0, none⟩ = some (.slice (some ⟨g, 0, none⟩) n n) := (H79.out.below hbl.out).cell 0
          clear hca
          generalize vA l k = q at *
          go_upto_region 15 with fail
          obtain ⟨wo, rfl⟩ : ∃ x : World, x = wr := ⟨_, rfl⟩
          go_loopw [47, 14] (fun x y wx => ∃ j : Nat, j ≤ n ∧ x = .int .i64 j ∧ y = .int .i64 (lAt (cl t) q j : Nat) ∧ wx = wo) (fun x _ _ => n - (intOf x).toNat)
          case atStart => exact ⟨0, by omega, rfl, rfl, rfl⟩
          case round =>
            obtain ⟨j, hj, rfl, rfl, rfl⟩ := hrel
            by_cases hjn : j < n
            · have c1 : wr.cell? ⟨g, j, none⟩ = some (.int .u64 (cl t j : Nat)) := (HS9.out.below hbl.out).getF j hjn
              have hcj := HCL.out j hjn
              have hbn := bits_and hcj hx
              have HST : Hid (lAt (cl t) q (j + 1) = if cl t j &&& q = q then j else lAt (cl t) q j) := rfl
              clear hcj
              generalize cl t j = z at *
              obtain ⟨y, hy⟩ : ∃ y, z &&& q = y := ⟨_, rfl⟩
              rw [hy] at hbn HST
              clear hy
              generalize lAt (cl t) q j = r at *
              by_cases e : y = q
              · have t1 : ((y : Int) == (q : Int)) = true := by simp [e]
                have t2 : decide ((y : Int) = (q : Int)) = true := by simp [e]
                have HS1 : Hid (lAt (cl t) q (j + 1) = j) := by show _ = _; rw [HST.out, if_pos e]
                clear e HST
                go_wp2_with fail
                go_roundw
                case rel => exact ⟨j + 1, by omega, by go_num, by rw [HS1.out], by trivial⟩
                case measure => simp [intOf]; omega
              · have t1 : ((y : Int) == (q : Int)) = false := by simp; omega
                have t2 : decide ((y : Int) = (q : Int)) = false := by simp; omega
                have HS1 : Hid (lAt (cl t) q (j + 1) = r) := by show _ = _; rw [HST.out, if_neg e]
                clear e HST
                go_wp2_with fail
                go_roundw
                case rel => exact ⟨j + 1, by omega, by go_num, by rw [HS1.out], by trivial⟩
                case measure => simp [intOf]; omega
            · obtain rfl : n = j := by omega
              have hle := lAt_lt (cl t) q n
              have HNQ : Hid (lossN t q = lCnt t (cl t) q (lAt (cl t) q n) n) := by show _ = _; unfold lossN; rw [HT.out]
              obtain ⟨r, hr⟩ : ∃ r, lAt (cl t) q n = r := ⟨_, rfl⟩
              rw [hr] at hle HNQ ⊢
              clear hr
              go_upto_region 21 with fail
              obtain ⟨wp, rfl⟩ : ∃ x : World, x = wr := ⟨_, rfl⟩
              go_loopw [61, 15] (fun x y wx => ∃ i : Nat, i ≤ n ∧ x = .int .i64 i ∧ y = .int .i64 (lCnt t (cl t) q r i : Nat) ∧ Hid (Below wp.heap.size wp wx)) (fun x _ _ => n - (intOf x).toNat)
              case atStart => exact ⟨0, by omega, rfl, rfl, Below.refl _ _⟩
              case round =>
                clear c7
                obtain ⟨i, hi, rfl, rfl, hb9⟩ := hrel
                by_cases hin : i < n
                · obtain ⟨bn, on, rfl, hbn, hcn⟩ := rdNd ((HRB9.out.bl hbl.out).bl hb9.out) (by rw [HT.out]; omega)
                  obtain ⟨G0, G1⟩ := hcn i (by rw [HT.out]; exact hin)
                  have c8 : (wr.alloc (.cells #[.int .i64 (nP t i), .string (nS t i)] 60)).cell? ⟨g + 1, 0, none⟩ = some (.slice (some ⟨g, 0, none⟩) n n) := (((H79.out.below hbl.out).below hb9.out).alloc _).cell 0
                  have hsb := ((HS9.out.below hbl.out).below hb9.out).alloc (.cells #[.int .i64 (nP t i), .string (nS t i)] 60)
                  have HB10 := Lib.hid (bl_trans hb9.out (bl_alloc (Below.refl _ wr) (.cells #[.int .i64 (nP t i), .string (nS t i)] 60)))
                  have ci : (wr.alloc (.cells #[.int .i64 (nP t i), .string (nS t i)] 60)).cell? ⟨g, i, none⟩ = some (.int .u64 (cl t i : Nat)) := hsb.getF i hin
                  have HSB := Lib.hid hsb
                  have hti := HCL.out i hin
                  have HPI := Lib.hid (HP.out i)
                  have HST : Hid (lCnt t (cl t) q r (i + 1) = lCnt t (cl t) q r i + if lossB t (cl t) q r i then 1 else 0) := rfl
                  have HLB : Hid (lossB t (cl t) q r i = (((decide (0 < i) && decide ((r : Int) ≤ nP t i)) && !decide (q &&& cl t (nP t i).toNat = 0)) && decide (q &&& cl t i = 0))) := rfl
                  have hzle := lCnt_le t (cl t) q r i
                  clear hcn hsb
                  obtain ⟨z, hz⟩ : ∃ z, lCnt t (cl t) q r i = z := ⟨_, rfl⟩
                  rw [hz] at HST hzle ⊢
                  clear hz
                  obtain ⟨bl, hbl'⟩ : ∃ b, lossB t (cl t) q r i = b := ⟨_, rfl⟩
                  generalize nS t i = s at *
                  by_cases hi0 : 0 < i
                  · obtain ⟨hp0, hpn⟩ := HPI.out hi0 hin
                    obtain ⟨p, hp⟩ : ∃ p : Nat, nP t i = p := ⟨(nP t i).toNat, by omega⟩
                    rw [hp] at G0 c8 ci HB10 HSB HLB hp0 hpn
                    rw [Int.toNat_natCast] at HLB
                    have hpn' : p < n := by omega
                    have cp := HSB.out.getF p hpn'
                    have htp := HCL.out p hpn'
                    have b1 := bits_and hx htp
                    have b2 := bits_and hx hti
                    have d1 : decide (0 < i) = true := by simpa using hi0
                    have d0 : decide ((r : Int) ≤ (p : Int)) = decide (r ≤ p) := by
                      by_cases e : r ≤ p
                      · rw [decide_eq_true e, decide_eq_true (by omega)]
                      · rw [decide_eq_false e, decide_eq_false (by omega)]
                    rw [d1, d0] at HLB
                    clear hp hp0 hpn htp hti d0 HPI HSB
                    generalize cl t p = A at *
                    generalize cl t i = B at *
                    obtain ⟨y1, hy1⟩ : ∃ y, q &&& A = y := ⟨_, rfl⟩
                    obtain ⟨y2, hy2⟩ : ∃ y, q &&& B = y := ⟨_, rfl⟩
                    rw [hy1] at b1 HLB
                    rw [hy2] at b2 HLB
                    clear hy1 hy2
                    by_cases h2 : r ≤ p
                    · have d2 : decide (r ≤ p) = true := by simpa using h2
                      by_cases h3 : y1 = 0
                      · have HV : Hid (lossB t (cl t) q r i = false) := by show _ = _; rw [HLB.out, h3]; simp
                        have t1 : ((y1 : Int) != 0) = false := by simp [h3]
                        have t2 : ((y1 : Int) == 0) = true := by simp [h3]
                        have t3 : decide ((y1 : Int) = 0) = true := by simp [h3]
                        clear h3 HLB hbl'
                        have HS1 : Hid (lCnt t (cl t) q r (i + 1) = z) := by show _ = _; rw [HST.out, HV.out]; rfl
                        go_wp2_with fail
                        go_roundw
                        case rel => exact ⟨i + 1, by omega, by go_num, by rw [HS1.out], HB10⟩
                        case measure => simp [intOf]; omega
                      · have t1 : ((y1 : Int) != 0) = true := by simp; omega
                        have t2 : ((y1 : Int) == 0) = false := by simp; omega
                        have t3 : decide ((y1 : Int) = 0) = false := by simp; omega
                        by_cases h4 : y2 = 0
                        · have HV : Hid (lossB t (cl t) q r i = true) := by show _ = _; rw [HLB.out, h4, d2]; simp [h3]
                          have s1 : ((y2 : Int) != 0) = false := by simp [h4]
                          have s2 : ((y2 : Int) == 0) = true := by simp [h4]
                          have s3 : decide ((y2 : Int) = 0) = true := by simp [h4]
                          clear h3 h4 HLB hbl'
                          have HS1 : Hid (lCnt t (cl t) q r (i + 1) = z + 1) := by show _ = _; rw [HST.out, HV.out]; rfl
                          go_wp2_with fail
                          go_roundw
                          case rel => exact ⟨i + 1, by omega, by go_num, by rw [HS1.out]; go_num, HB10⟩
                          case measure => simp [intOf]; omega
                        · have HV : Hid (lossB t (cl t) q r i = false) := by show _ = _; rw [HLB.out]; simp [h4]
                          have s1 : ((y2 : Int) != 0) = true := by simp; omega
                          have s2 : ((y2 : Int) == 0) = false := by simp; omega
                          have s3 : decide ((y2 : Int) = 0) = false := by simp; omega
                          clear h3 h4 HLB hbl'
                          have HS1 : Hid (lCnt t (cl t) q r (i + 1) = z) := by show _ = _; rw [HST.out, HV.out]; rfl
                          go_wp2_with fail
                          go_roundw
                          case rel => exact ⟨i + 1, by omega, by go_num, by rw [HS1.out], HB10⟩
                          case measure => simp [intOf]; omega
                    · have d2 : decide (r ≤ p) = false := by simpa using h2
                      have HV : Hid (lossB t (cl t) q r i = false) := by show _ = _; rw [HLB.out, d2]; simp
                      clear HLB hbl'
                      have HS1 : Hid (lCnt t (cl t) q r (i + 1) = z) := by show _ = _; rw [HST.out, HV.out]; rfl
                      go_wp2_with fail
                      go_roundw
                      case rel => exact ⟨i + 1, by omega, by go_num, by rw [HS1.out], HB10⟩
                      case measure => simp [intOf]; omega
                  · have d1 : decide (0 < i) = false := by simpa using hi0
                    have HV : Hid (lossB t (cl t) q r i = false) := by show _ = _; rw [HLB.out, d1]; simp
                    clear HLB hbl' HPI
                    have HS1 : Hid (lCnt t (cl t) q r (i + 1) = z) := by show _ = _; rw [HST.out, HV.out]; rfl
                    go_wp2_with fail
                    go_roundw
                    case rel => exact ⟨i + 1, by omega, by go_num, by rw [HS1.out], HB10⟩
                    case measure => simp [intOf]; omega
                · obtain rfl : n = i := by omega
                  rw [← HNQ.out]
                  have hbase : w9.heap.size ≤ (wr.alloc (.cells #[.int .i64 (lossN t q : Nat)] 3)).heap.size := by
                    have h1 := hbl.out.size
                    have h2 := hb9.out.size
                    simp; omega
                  have HOW := Lib.hid (owns_below how.out hb9.out)
                  have HB9 := Lib.hid (bl_trans hbl.out hb9.out)
                  have hl1 : Hid (k = (iN ((l.take k).map (lossN t))).length) := by
                    show _ = _
                    rw [iN_len, List.length_map, List.length_take, HL.out]; omega
                  generalize lossN t q = z at *
                  clear how hbl hb9 HNQ G
                  go_wp2_with (at_builtin; refine push_I rfl (.tmp 96) (.tmp 98) rfl w9.heap.size u10 (iN ((l.take k).map (lossN t))) k hl1.out rfl (HOW.out.alloc _) _ _ (z : Int) rfl (Blk.new _ _ _) (by omega) hbase ?_; intro g2 cap w8 h81 h82 h83 h84; rw [← iN_snoc, ← HTK.out] at h81; have H81 := Lib.hid h81; have H82 := Lib.hid h82; clear h81 h82 h83)
                  have HB8 := Lib.hid (bl_grown (bl_alloc HB9.out (.cells #[.int .i64 z] 3)) H82.out (fun x e => (HOW.out.lt x e).1))
                  go_roundw
                  case rel => exact ⟨k + 1, by omega, by go_num, H81, HB8⟩
                  case measure => simp [intOf]; omega
        · obtain rfl : k = N := by omega
          have hdD := (hbl.out.block D (Array.getElem?_eq_some_iff.1 HKD.out).1).trans HKD.out
          have HDD := Lib.hid hdD
          have HBW := Lib.hid (bl_trans HBL9.out hbl.out)
          have HOW := Lib.hid (owns_mono how.out HBL9.out.size)
          clear hdD how hbl
          go_wp2_with fail
          refine leaves_all [D] _ (by simp) (fun D' hD' => by rw [List.mem_singleton.1 hD']; exact HDD.out) fun w' ht => ⟨_, results_tmp2 rfl _ _ _, ?_⟩
          refine ⟨_, by rw [HE.out]; rfl, ?_, ht.below HBW.out fun D' hD' => by rw [List.mem_singleton.1 hD']; have := HXE.out; omega⟩
          have h9 := ht.owns (fun D' hD' => by rw [List.mem_singleton.1 hD']; exact HDD.out) HOW.out
          rw [List.take_of_length_le (by rw [HL.out]; exact Nat.le_refl _)] at h9
          rw [hLL.out]
          have e : (l.map (lossN t)).length = k := by rw [List.length_map, HL.out]
          rw [e]
          exact h9
    case stop =>
      rintro D c pre W' _ _ h _
      exact h.elim
  · have hE : Hid (lossL L l t = []) := if_neg h0
    obtain ⟨E, hEE⟩ : ∃ E, chkP L l t = E := ⟨_, rfl⟩
    have HEE := Lib.hid hEE
    rw [hEE] at h0 ⊢
    have d0 : (E == 0) = false := by simp [h0]
    have d1 : (E != 0) = true := by simp [h0]
    clear hEE h0
    go_wp2_with fail
    exact ⟨_, results_tmp2 rfl _ _ _, _, by rw [HEE.out]; rfl, by rw [hE.out]; exact World.ownsRow_nil _ _ _ _, HB2.out⟩
end Go.Proofs.YtnabbmdhhddfbaaDoor
