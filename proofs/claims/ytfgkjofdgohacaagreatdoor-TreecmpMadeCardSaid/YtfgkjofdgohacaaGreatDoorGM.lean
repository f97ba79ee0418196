/- maps.Keys of sets of numbers: the iterator. slices.AppendSeq, Collect at numbers of 64 bits, over whatever iterator. slices.Sorted, Values, Collect at strings; the names of a set in increasing order. What Build answers: errors in their order, and the family (plain). treecmp.Build: the walk. The trees that are built of one tree's clades are one (plain). Law TreecmpBack: the walk. -/
import Derived.Test.YtfgkjofdgohacaaGreatDoorGG
import Derived.Sort.MapsRangeIn
import Derived.RangeFuncKeeps
import Derived.RangeFuncWrites
import Derived.Test.YtfgkjofdgohacaaGreatDoorGD
import Derived.Test.YtfgkjofdgohacaaGreatDoorGK
import Derived.Test.YtfgkjofdgohacaaGreatDoorGH
import Derived.Test.YtfgkjofdgohacaaGreatDoorGJ
namespace Go.Proofs.YtfgkjofdgohacaaGreatDoor
open Go Go.RowKit Go.Maps Go.Shelf
/-- What has come of a set. -/
def ColM (D : DataW Unit) (left : Lit → Bool) (ss : List ByteArray) : Prop := ss.Nodup ∧ ∀ x : ByteArray, x ∈ ss ↔ (has D (kN x) = true ∧ left (kN x) = false)
theorem ColM.start (D : DataW Unit) : ColM D (has D) [] := ⟨List.nodup_nil, fun x => by
  constructor
  · intro h; simp at h
  · rintro ⟨h1, h2⟩; rw [h1] at h2; cases h2⟩
theorem kN_of {x : ByteArray} {kl : Lit} (h : keyOf Tryz.prog 9 (.string x) = some kl) : kl = kN x ∧ x.size ≤ maxLen := by
  simp [keyOf, mapKey, Tryz.underlying9] at h
  exact ⟨h.2.symm, h.1⟩
theorem kN_same (x y : ByteArray) : (kN x).sameKey (kN y) = decide (x = y) := by
  by_cases h : x = y
  · subst h; simp [kN, Lit.sameKey]
  · rw [sameKey_ne (fun e => h (kN_inj e)), decide_eq_false h]
theorem ColM.step {D : DataW Unit} {left : Lit → Bool} {ss : List ByteArray} (h : ColM D left ss) {x : ByteArray} (hl : left (kN x) = true) (hh : has D (kN x) = true) : ColM D (fun z => left z && !z.sameKey (kN x)) (ss ++ [x]) := by
  have hx : x ∉ ss := fun hm => by rw [((h.2 x).1 hm).2] at hl; cases hl
  refine ⟨?_, fun y => ?_⟩
  · rw [List.nodup_append]
    exact ⟨h.1, by simp, fun a ha b hb e => by rw [List.mem_singleton.1 hb] at e; rw [e] at ha; exact hx ha⟩
  · rw [List.mem_append, List.mem_singleton, h.2 y]
    show _ ↔ has D (kN y) = true ∧ (left (kN y) && !(kN y).sameKey (kN x)) = false
    rw [kN_same]
    by_cases e : y = x
    · subst e; simp [hh]
    · simp [e]
set_option maxHeartbeats 1000000 in
theorem keysN_any (b : Nat) (w : World) : Calls Tryz.prog 108 #[.map (some b)] w fun e w' => e = .returned (.func (.func 127) #[] #[.pointer (some ⟨w.heap.size, 0, none⟩)]) ∧ w' = w.alloc (.cells #[.map (some b)] 95) := by
  go_enter Tryz.func108, Tryz.ntmps108
  go_wp2_with fail
  go_ret
  exact ⟨rfl, rfl⟩
set_option maxRecDepth 100000 in
set_option maxHeartbeats 2000000 in
theorem keysN_stops (m Bm b n : Nat) (S : List ByteArray) (w : World) (hm : 1 ≤ m) (hBm : Bm < w.heap.size) (hc : w.cell? ⟨Bm, 0, none⟩ = some (.map (some b))) (h : MN w b n S) :
    SeqStopsK Fence.wide m Tryz.prog 127 #[.pointer (some ⟨Bm, 0, none⟩)] (fun x : ByteArray => #[.string x]) KeepsWalks (fun xs => xs.Perm S) (fun _ => True) S.length w := fun l J Jx W hW hJ hJx hY h0 => by
  have hW0 := h.bl hW
  have hcW : W.cell? ⟨Bm, 0, none⟩ = some (.map (some b)) := (hW.cell (p := ⟨Bm, 0, none⟩) hBm).trans hc
  obtain ⟨D, hown, hhas, hsz⟩ := hW0.ex
  have HP : Hid (∀ ss, ColM D (fun _ => false) ss → ss.Perm S) := fun ss hC => by
    refine (List.perm_ext_iff_of_nodup hC.1 h.nd).2 fun x => ?_
    rw [hC.2 x, hhas]
    simp
  have HSZ := Lib.hid hsz
  have HJ := Lib.hid hJ
  have HJx := Lib.hid hJx
  have HY := Lib.hid hY
  have H0 := Lib.hid h0
  clear hW hJ hJx hY h0 h hW0 hc hBm hsz hhas
  refine callsIn_of_wp Tryz.func127 rfl trivial ?_ rfl
  simp only [Tryz.ntmps127, List.size_toArray, List.length_cons, List.length_nil, Nat.reduceAdd, Nat.reduceSub, Array.replicate_succ, Array.replicate_zero, List.push_toArray, List.append_toArray, List.nil_append, List.cons_append]
  gi_wp2_with (first
    | (gi_at_range; refine wpListIn_range_own _ rfl _ 95 rfl 9 128 lawN Tryz.underlying95 _ b n _ rfl hown ?_; intro w0 hrg0 hg0 hs0)
    | gi_in)
  try go_frame
  gi_loopw [3] (fun _ wr => ∃ (left : Lit → Bool) (cnt : Nat) (ss : List ByteArray), wr.ranges Tryz.prog 9 unitElem b W.heap.size n D left cnt ∧ ss.length + cnt ≤ S.length ∧ Hid (ColM D left ss) ∧ Hid (J ss wr))
    (fun _ wr => wr.rangeLeft b W.heap.size)
  case atStart =>
    exact ⟨_, _, [], hrg0, by rw [HSZ.out]; simp, ColM.start D, HJ.out [] W w0 none H0.out hg0 (fun r e => by cases e)⟩
  case round =>
    clear hrg0 hg0 hs0
    obtain ⟨left, cnt, ss, hrg, hcs, hC, hJs⟩ := hrel
    gi_wp2_with (first
      | (gi_at_next; refine wpListIn_next_ranges _ rfl _ rfl 9 lawN unitElem (Value.string) id (fun key kl hk => Maps.keyOf_string_inv Tryz.underlying9 hk) (fun v _ _ => ⟨v, rfl⟩) b W.heap.size n _ _ _ rfl hrg ?_ ?_)
      | gi_in)
    · intro hc0 hl0
      have hl : left = fun _ => false := funext hl0
      have HF := Lib.hid (HP.out ss (by rw [← hl]; exact hC.out))
      clear hl
      gi_wp2
      go_end0
      exact ⟨⟨_, rfl⟩, .inl ⟨ss, HF.out, hJs.out⟩⟩
    · intro x c kl yd yp w2 cnt2 hkey hlk hv hat hrg2 hlt hg2 hs2 hen
      obtain ⟨rfl, hwf⟩ := kN_of hkey
      have hh : has D (kN x) = true := has_true_of_atKey hat
      have hC2 := Lib.hid (hC.out.step hlk hh)
      have hJ2 : J ss w2 := HJ.out ss wr w2 (some W.heap.size) hJs.out hg2 (fun r e => by cases e; exact ⟨Nat.le_refl _, hrg.iter_walk⟩)
      obtain ⟨fn, tmps, assign, body, hy, hR⟩ := HY.out ss x w2 hJ2 (by omega)
      have HR := Lib.hid hR
      have HRG2 := Lib.hid hrg2
      have HRG := Lib.hid hrg
      clear hs2 hJ2 hR hrg2 hrg hv hat hwf hkey hlk
      gi_wp2
      refine HR.out.mono ?_
      rintro e W3 (⟨rfl, hJ3, hk3⟩ | ⟨rfl, hJx3⟩)
      · have hrg3 := Lib.hid (HRG2.out.of_walks hk3)
        have HJ3 := Lib.hid hJ3
        clear hk3 hJ3
        gi_wp2
        go_roundw
        case rel => exact ⟨_, cnt2, ss ++ [x], hrg3.out, by simp; omega, hC2, HJ3⟩
        case measure => rw [hrg3.out.left_eq, HRG.out.left_eq]; exact hlt
      · have HJx3 := Lib.hid hJx3
        clear hJx3
        gi_wp2
        refine bodyPost_ret (results_none rfl _ _ _) rfl ?_
        exact ⟨⟨_, rfl⟩, .inr ⟨ss ++ [x], trivial, HJx3.out⟩⟩
end Go.Proofs.YtfgkjofdgohacaaGreatDoor
namespace Go.Proofs.YtfgkjofdgohacaaGreatDoor
open Go Go.RowKit Go.Shelf
attribute [local go_sem] Oper.semAt_some
theorem ipush_S4 {F : Fence} {m : Nat} {w : World} {ops : Array Oper} {rest : List Oper} {o : Oper} {a : Act} {Q : Exit → Act → World → Prop} (hgd : o.guard = none) (s x : Operand) (ho : o.op = .call { callee := .builtin .append, args := #[s, x], argTypes := #[46, 46] })
    (base : Nat) (v : Value) (l : List ByteArray) (n : Nat) (hn : n = l.length) (hs : a.eval s = v) (hown : w.ownsRow base 9 1 v n (fl encS l)) (B c : Nat) (y : ByteArray) (hx : a.eval x = .slice (some ⟨B, 0, none⟩) 1 c) (hB : Blk w B (encS y).toArray 9) (hl : n < 4398046511104) (hbase : base ≤ w.heap.size)
    (h : ∀ g cap w', w'.ownsRow base 9 1 (.slice (some ⟨g, 0, none⟩) (n + 1) cap) (n + 1) (fl encS (l ++ [y])) → w.grownBy w' v.ownBlock → (v.ownBlock = some g ∨ g = w.heap.size) → g < w'.heap.size → wpListIn F m Tryz.prog ops Q rest (a.put o.dst (.slice (some ⟨g, 0, none⟩) (n + 1) cap)) w') : wpListIn F m Tryz.prog ops Q (o :: rest) a w := by
  obtain ⟨i0, hi, hz0, hz1, hz2⟩ := info_parts info_S4
  refine wpListIn_plain hgd fun K hK' => ?_
  obtain ⟨g, cap, w', hrun, r1, r2, r3, r4⟩ := run_append_lies (P := Tryz.prog) w 46 o.type base 9 i0 _ 1 16 Tryz.underlying46 hi hz0 hz1 hz2 rfl (by decide) v n (fl encS l) hown ⟨B, 0, none⟩ 1 c (encS y) (by simp [encS]) (World.news_of_block (cs := (encS y).toArray) (t := 9) (fr := (0, 0)) hB) (by intro u hu; simp [encS] at hu; first | (subst hu; rfl) | (rcases hu with rfl | rfl <;> rfl)) (by omega) (by unfold maxLen; omega) (by omega) hbase _ rfl
  unfold Oper.wpIn
  refine ⟨?_, ?_⟩
  · simp [Oper.about, ho, resolve, Target.leads, Sem.run_pure]
  · rw [Oper.semAt_plain F _ _ (by rw [ho]; intro c hc'; cases hc')]
    simp [execOp, ho, resolve, invoke, builtin, hs, hx, hrun, Result.andThen]
    rw [← fl_snoc] at r1
    exact hK' _ _ (h g cap w' r1 r2 r3 r4)
/-- While numbers are collected: box Bs holds the slice of those that came. -/
def ColS (w0 : World) (Bs : Nat) (l : List ByteArray) (W : World) : Prop :=
  ∃ v, Blk W Bs #[v] 46 ∧ W.ownsRow Bs 9 1 v l.length (fl encS l) ∧ Below w0.heap.size w0 W
theorem owns_not_boxN {W : World} {base n B : Nat} {v u : Value} {xs : List Value} (h : W.ownsRow base 9 1 v n xs) (hB : Blk W B #[u] 46) : v.ownBlock ≠ some B := fun e => by
  rcases h.2 with ⟨rfl, _⟩ | ⟨g, cap, cur, rfl, _, hgb, _⟩
  · cases e
  · have : g = B := Option.some.inj e
    subst this
    unfold Blk at hB
    rw [hB] at hgb
    cases hgb
theorem ColS.push {w0 W w8 : World} {Bs g2 cap : Nat} {z : ByteArray} {l : List ByteArray} {o : Obj} {v : Value} (hBs : w0.heap.size = Bs) (h1 : Blk W Bs #[v] 46) (h2 : W.ownsRow Bs 9 1 v l.length (fl encS l)) (h3 : Below w0.heap.size w0 W)
    (h81 : w8.ownsRow Bs 9 1 (.slice (some ⟨g2, 0, none⟩) (l.length + 1) cap) (l.length + 1) (fl encS (l ++ [z]))) (h82 : (W.alloc o).grownBy w8 v.ownBlock) :
    KeepsOthers W (w8.setCell ⟨Bs, 0, none⟩ (.slice (some ⟨g2, 0, none⟩) (l.length + 1) cap)) ∧ (∀ B, B < w0.heap.size → (w8.setCell ⟨Bs, 0, none⟩ (.slice (some ⟨g2, 0, none⟩) (l.length + 1) cap)).heap[B]? = W.heap[B]?) ∧ ColS w0 Bs (l ++ [z]) (w8.setCell ⟨Bs, 0, none⟩ (.slice (some ⟨g2, 0, none⟩) (l.length + 1) cap)) := by
  have hne := owns_not_boxN h2 h1
  have hb8 : Blk w8 Bs #[v] 46 := (h1.alloc o).grown h82 fun e => hne e.symm
  have hne2 := owns_not_boxN h81 hb8
  have hsz := h3.size
  have hal := bl_alloc (Below.refl _ W) o
  refine ⟨?_, fun B hB => ?_, _, hb8.set 0 _, ?_, ?_⟩
  · refine ((KeepsOthers.alloc W _).trans (KeepsOthers.of_grownBy h82 fun j o' hj ho => ?_)).trans (KeepsOthers.setCell _ _ _)
    rcases (owns_below h2 hal).2 with ⟨rfl, _⟩ | ⟨g', cap', cur, rfl, _, hgb, _⟩
    · cases hj
    · have : g' = j := Option.some.inj hj
      subst this
      rw [hgb] at ho; cases ho; rfl
  · have k1 : B ≠ Bs := by omega
    refine (Below.heap_setCell w8 ⟨Bs, 0, none⟩ _ B k1).trans ((h82.block B (by rw [World.size_alloc]; omega) fun e => ?_).trans (Below.heap_alloc W o B (by omega)))
    have := (h2.lt B e.symm).1
    omega
  · have e : (l ++ [z]).length = l.length + 1 := by simp
    rw [e]
    exact ownsRow_setCell_other (a := ⟨Bs, 0, none⟩) h81 hne2 _
  · refine bl_set (bl_grown (bl_trans h3 hal) h82 (fun r e => ?_)) _ _ _ _ (by omega)
    have := (h2.lt r e).1
    omega
theorem ColS.own {w0 : World} {Bs B : Nat} (hBs : w0.heap.size = Bs) (hB : Bs ≤ B) : OwnFrom B (ColS w0 Bs) := by
  rintro l W W' row ⟨v, h1, h2, h3⟩ hg hr
  have hr2 : ∀ r, row = some r → ∃ o : Obj, W.heap[r]? = some o ∧ o.isCells = false := fun r e => (hr r e).2
  exact ⟨v, blk_walk4 h1 hg hr2, owns_walk4 h2 hg hr2, bl_grown h3 hg (fun r e => by have := (hr r e).1; omega)⟩
set_option maxRecDepth 100000 in
set_option maxHeartbeats 4000000 in
theorem appN_any (gf : Nat) (hen : Enters Tryz.prog gf) (lb : Array Value) (N : Nat) (S Sp : List ByteArray → Prop) (Kp : World → World → Prop) (w : World) (hN : N < 4398046511104)
    (hseq : SeqStopsK Fence.wide 9 Tryz.prog gf lb (fun x : ByteArray => #[.string x]) Kp S Sp N w)
    (hKt : ∀ {A B C : World}, Kp A B → Kp B C → Kp A C) (hKb : ∀ (W : World) (l : Nat) (o o' : Obj), w.heap.size ≤ l → W.heap[l]? = some o → o.isCells = false → o.isWalk = false → Kp W (W.putObj l o'))
    (hKp : ∀ W W', KeepsOthers W W' → (∀ B, B < w.heap.size → W'.heap[B]? = W.heap[B]?) → Kp W W') :
    Calls Tryz.prog 105 #[.slice none 0 0, .func (.func gf) #[] lb] w fun e w' => ∃ v xs, e = .returned v ∧ S xs ∧ w'.ownsRow w.heap.size 9 1 v xs.length (fl encS xs) ∧ Below w.heap.size w w' := by
  have hb0 := bl_alloc (Below.refl _ w) (.cells #[.slice none 0 0] 46)
  have HB0 := Lib.hid (Blk.new w #[.slice none 0 0] 46)
  obtain ⟨Bs, hBs⟩ : ∃ x, x = w.heap.size := ⟨_, rfl⟩
  have HKT : Hid (∀ A B C : World, Kp A B → Kp B C → Kp A C) := fun A B C h k => hKt h k
  rw [← hBs] at HB0 hKb hKp ⊢
  have HBS := Lib.hid hBs
  have HBL := Lib.hid hb0
  have HSQ := Lib.hid hseq
  have HKB := Lib.hid hKb
  have HKP := Lib.hid hKp
  clear hb0 hseq hKt hKb hKp hBs
  refine (callsIn_wide (n := 10)).1 ?_
  refine callsIn_of_wp_marks Tryz.func105 rfl trivial ?_ rfl
  simp only [Tryz.ntmps105, List.size_toArray, List.length_cons, List.length_nil, Nat.reduceAdd, Nat.reduceSub, Array.replicate_succ, Array.replicate_zero, List.push_toArray, List.append_toArray, List.nil_append, List.cons_append]
  refine wpIn_wide.2 ?_
  go_wp2_with fail
  rw [← HBS.out]
  obtain ⟨w1, hw1⟩ : ∃ x, x = w.alloc (.cells #[.slice none 0 0] 46) := ⟨_, rfl⟩
  rw [← hw1] at HB0 HBL ⊢
  have hz1 : w1.heap.size = Bs + 1 := by rw [hw1, World.size_alloc, ← HBS.out]
  have HZ1 := Lib.hid hz1
  clear hw1 hz1
  refine (wpIn_wide (n := 10)).1 ?_
  refine wpIn_rangeFunc_ownG (α := ByteArray) rfl (by omega) (gf := gf) (lb := lb) rfl trivial hen HSQ.out (fun h k => HKT.out _ _ _ h k) (fun W l o o' hl h1 h2 h3 => HKB.out W l o o' (by have := HZ1.out; omega) h1 h2 h3) HBL.out (fun _ => rfl)
    (ColS w Bs) (fun _ _ _ => False) (ColS.own HBS.out.symm (by have := HZ1.out; omega)) (fun _ _ _ _ _ hs _ _ => hs) ⟨_, HB0.out, World.ownsRow_nil _ _ _ _, HBL.out⟩
    (fun x => { tmps := #[.slice none 0 0, .func (.func gf) #[] lb, .pointer (some ⟨Bs, 0, none⟩), undef, .slice none 0 0, .string x, .func (.func gf) #[] lb, .string x, undef, undef, undef, undef, undef], defers := [] }) ?assign ?body ?done ?stop
  case assign =>
    intro l x W' K hK
    gi_wp2
    exact hK
  case stop => rintro D c pre W _ _ h; exact h.elim
  case body =>
    rintro l pre x W' ⟨v, hBk, hT, hbw⟩ hk
    have c1 : W'.cell? ⟨Bs, 0, none⟩ = some v := hBk.cell 0
    have hbs : Bs ≤ W'.heap.size := Nat.le_of_lt hBk.lt
    have HT := Lib.hid hT
    have HBK := Lib.hid hBk
    have HBW := Lib.hid hbw
    clear hBk hT hbw
    gi_wp2_with (gi_at_builtin; refine ipush_S4 rfl (.tmp 8) (.tmp 10) rfl Bs v pre pre.length rfl rfl (HT.out.alloc _) _ _ x rfl (Blk.new _ _ _) (by omega) (by rw [World.size_alloc]; omega) ?_; intro g2 cap w8 h81 h82 h83 h84; have H81 := Lib.hid h81; have H82 := Lib.hid h82; have H84 := Lib.hid h84; have HB8 : Hid (Blk w8 Bs #[v] 46) := (HBK.out.alloc _).grown h82 (fun e => owns_not_boxN HT.out HBK.out e.symm); have c8 : w8.cell? ⟨Bs, 0, none⟩ = some v := HB8.out.cell 0; have f8 : w8.frozen? ⟨Bs, 0, none⟩ = false := HB8.out.free 0; clear h81 h82 h83 h84)
    have hp := ColS.push HBS.out.symm HBK.out HT.out HBW.out H81.out H82.out
    exact ⟨hp.1.from _, HKP.out _ _ hp.1 (fun B hB => hp.2.1 B (by rw [← HBS.out]; exact hB)), hp.2.2⟩
  case done =>
    rintro D xs W' hD hS ⟨v, h1, h2, h3⟩ hKD
    have c1 : W'.cell? ⟨Bs, 0, none⟩ = some v := h1.cell 0
    have HH2 := Lib.hid h2
    have HH3 := Lib.hid h3
    have HSS := Lib.hid hS
    have HKD := Lib.hid hKD
    clear h1 h2 h3 hS hKD
    simp only [Exit.inBlock, Exit.then]
    go_wp2_with fail
    refine leaves_all [D] _ (by simp) (fun D' hD' => by rw [List.mem_singleton.1 hD']; exact HKD.out) fun w' ht => ⟨_, results_tmp rfl _ _ _, ?_⟩
    refine ⟨v, xs, rfl, HSS.out, ht.owns (fun D' hD' => by rw [List.mem_singleton.1 hD']; exact HKD.out) HH2.out, ?_⟩
    have hb := ht.below HH3.out (fun D' hD' => by rw [List.mem_singleton.1 hD']; have := HZ1.out; have := HBS.out; omega)
    rw [← HBS.out] at hb
    exact hb
set_option maxRecDepth 100000 in
set_option maxHeartbeats 2000000 in
theorem colN_any (gf : Nat) (hen : Enters Tryz.prog gf) (lb : Array Value) (N : Nat) (S Sp : List ByteArray → Prop) (Kp : World → World → Prop) (w : World) (hN : N < 4398046511104)
    (hseq : SeqStopsK Fence.wide 9 Tryz.prog gf lb (fun x : ByteArray => #[.string x]) Kp S Sp N w)
    (hKt : ∀ {A B C : World}, Kp A B → Kp B C → Kp A C) (hKb : ∀ (W : World) (l : Nat) (o o' : Obj), w.heap.size ≤ l → W.heap[l]? = some o → o.isCells = false → o.isWalk = false → Kp W (W.putObj l o'))
    (hKp : ∀ W W', KeepsOthers W W' → (∀ B, B < w.heap.size → W'.heap[B]? = W.heap[B]?) → Kp W W') :
    Calls Tryz.prog 71 #[.func (.func gf) #[] lb] w fun e w' => ∃ v xs, e = .returned v ∧ S xs ∧ w'.ownsRow w.heap.size 9 1 v xs.length (fl encS xs) ∧ Below w.heap.size w w' := by
  have HC := Lib.hid (appN_any gf hen lb N S Sp Kp w hN hseq hKt hKb hKp)
  clear hseq hKt hKb hKp
  go_enter Tryz.func71, Tryz.ntmps71
  go_wp2_with fail
  refine HC.out.mono ?_
  rintro e w2 ⟨v, xs, rfl, hs, h1, h2⟩
  have H1 := Lib.hid h1
  have H2 := Lib.hid h2
  have HSS := Lib.hid hs
  clear h1 h2 hs
  go_wp2_with fail
  go_ret
  exact ⟨v, xs, rfl, HSS.out, H1.out, H2.out⟩
end Go.Proofs.YtfgkjofdgohacaaGreatDoor
namespace Go.Proofs.YtfgkjofdgohacaaGreatDoor
open Go Go.RowKit Go.Shelf Go.Maps
set_option maxRecDepth 100000 in
set_option maxHeartbeats 2000000 in
theorem sortedN_any (gf : Nat) (hen : Enters Tryz.prog gf) (lb : Array Value) (N : Nat) (S : List ByteArray) (Sp : List ByteArray → Prop) (Kp : World → World → Prop) (w : World) (hN : S.length < 1048576) (hN2 : N < 4398046511104) (hnd : S.Nodup)
    (hseq : SeqStopsK Fence.wide 9 Tryz.prog gf lb (fun x : ByteArray => #[.string x]) Kp (fun xs => xs.Perm S) Sp N w)
    (hKt : ∀ {A B C : World}, Kp A B → Kp B C → Kp A C) (hKb : ∀ (W : World) (l : Nat) (o o' : Obj), w.heap.size ≤ l → W.heap[l]? = some o → o.isCells = false → o.isWalk = false → Kp W (W.putObj l o'))
    (hKp : ∀ W W', KeepsOthers W W' → (∀ B, B < w.heap.size → W'.heap[B]? = W.heap[B]?) → Kp W W') :
    Calls Tryz.prog 107 #[.func (.func gf) #[] lb] w fun e w' => ∃ v, e = .returned v ∧ w'.ownsRow w.heap.size 9 1 v S.length (fl encS (srtB S)) ∧ Below w.heap.size w w' := by
  have HC := Lib.hid (colN_any gf hen lb N (fun xs => xs.Perm S) Sp Kp w hN2 hseq hKt hKb hKp)
  clear hseq hKt hKb hKp
  go_enter Tryz.func107, Tryz.ntmps107
  go_wp2_with fail
  refine HC.out.mono ?_
  rintro e w2 ⟨v, xs, rfl, hs, h1, h2⟩
  have e1 : xs.length = S.length := hs.length_eq
  have e2 : srtB xs = srtB S := srtB_ext (srtB_pw (hs.nodup_iff.2 hnd)) (srtB_pw hnd) fun x => by rw [srtB_mem, srtB_mem]; exact hs.mem_iff
  rw [e1] at h1
  have HS := Lib.hid (sortRowS_any xs e1.symm h1 hN)
  rw [e2] at HS
  have H2 := Lib.hid h2
  clear h1 h2 hs e1 e2
  go_wp2_with (go_at_call 115; refine HS.out.mono ?_; rintro e w3 ⟨rfl, h3, h4⟩; have H3 := Lib.hid h3; have H4 := Lib.hid h4; clear h3 h4)
  go_ret
  exact ⟨v, rfl, H3.out, H4.out w H2.out (Nat.le_refl _)⟩
set_option maxRecDepth 100000 in
set_option maxHeartbeats 2000000 in
theorem valsN_any (a : Option Addr) (n c : Nat) (w : World) : Calls Tryz.prog 106 #[.slice a n c] w fun e w' => e = .returned (.func (.func 126) #[] #[.pointer (some ⟨w.heap.size, 0, none⟩)]) ∧ w' = w.alloc (.cells #[.slice a n c] 46) := by
  go_enter Tryz.func106, Tryz.ntmps106
  go_wp2_with fail
  go_ret
  exact ⟨rfl, rfl⟩
set_option maxRecDepth 100000 in
set_option maxHeartbeats 2000000 in
theorem valsN_stops (m X n c : Nat) (a : Option Addr) (l : List ByteArray) (w : World) (hm : 1 ≤ m) (hn : l.length = n) (hN : n ≤ 1152921504606846976) (hX : Blk w X #[.slice a n c] 46) (hR : Rd w a (fl encS l)) :
    SeqStopsK Fence.wide m Tryz.prog 126 #[.pointer (some ⟨X, 0, none⟩)] (fun x : ByteArray => #[.string x]) (fun W W' => KpC (BsV X a) W W' ∧ W.heap.size ≤ W'.heap.size) (fun xs => xs = l) (fun pre => ∃ k, k < n ∧ pre = l.take (k + 1)) n w := fun q J Jx W hW hJ hJx hY h0 => by
  have HN := Lib.hid hn
  have HRW := Lib.hid (hR.bl hW)
  have c0 : W.cell? ⟨X, 0, none⟩ = some (.slice a n c) := (hX.below hW).cell 0
  have HY := Lib.hid hY
  have H0 := Lib.hid h0
  clear hW hJ hJx hY h0 hX hR hn
  refine callsIn_of_wp Tryz.func126 rfl trivial ?_ rfl
  simp only [Tryz.ntmps126, List.size_toArray, List.length_cons, List.length_nil, Nat.reduceAdd, Nat.reduceSub, Array.replicate_succ, Array.replicate_zero, List.push_toArray, List.append_toArray, List.nil_append, List.cons_append]
  gi_wp2
  gi_loopw [7, 4] (fun x _ wx => ∃ i : Nat, i ≤ n ∧ x = .int .i64 i ∧ Hid (Rd wx a (fl encS l)) ∧ Hid (J (l.take i) wx)) (fun x _ _ => n - (intOf x).toNat)
  case atStart => exact ⟨0, by omega, rfl, HRW, H0⟩
  case round =>
    clear HRW H0 c0
    obtain ⟨i, hi, rfl, hRd, hJ⟩ := hrel
    by_cases hlt : i < n
    · obtain ⟨b, o, e, _, hc⟩ := rdS hRd.out (by rw [HN.out]; omega)
      have HE := Lib.hid e
      have c1 := hc i (by rw [HN.out]; exact hlt)
      have HTK := Lib.hid (take_snocN (l := l) (k := i) (by rw [HN.out]; exact hlt))
      obtain ⟨z, hz⟩ : ∃ z, z = sA l i := ⟨_, rfl⟩
      rw [← hz] at c1 HTK
      obtain ⟨fn, tmps, assign, body, hy, hR2⟩ := HY.out (l.take i) z wr hJ.out (by rw [List.length_take, HN.out]; omega)
      have HR2 := Lib.hid hR2
      subst e
      clear hc hz hR2
      gi_wp2
      refine HR2.out.mono ?_
      rintro e W3 (⟨rfl, hJ3, hk3⟩ | ⟨rfl, hJx3⟩)
      · have HR3 : Hid (Rd W3 (some ⟨b, o, none⟩) (fl encS l)) := hk3.1.rd hk3.2 hRd.out (fun b' o' p e' => by cases e'; exact .inr ⟨_, _, rfl⟩)
        have HJ3 : Hid (J (l.take (i + 1)) W3) := by show J _ _; rw [HTK.out]; exact hJ3
        clear hJ3 hk3 hRd hJ
        gi_wp2
        try go_wp2_with fail
        go_roundw
        case rel => exact ⟨i + 1, by omega, by go_num, HR3, HJ3⟩
        case measure => simp [intOf]; omega
      · have HJx3 : Hid (Jx (l.take (i + 1)) W3) := by show Jx _ _; rw [HTK.out]; exact hJx3
        clear hJx3
        gi_wp2
        refine bodyPost_ret (results_none rfl _ _ _) rfl ?_
        exact ⟨⟨_, rfl⟩, .inr ⟨_, ⟨i, hlt, rfl⟩, HJx3.out⟩⟩
    · obtain rfl : i = n := by omega
      have HJ2 : Hid (J l wr) := by
        have h := hJ.out
        rw [List.take_of_length_le (by rw [HN.out]; exact Nat.le_refl _)] at h
        exact h
      clear hJ
      gi_wp2
      go_end0
      exact ⟨⟨_, rfl⟩, .inl ⟨l, rfl, HJ2.out⟩⟩
/-- What all leaves: an iterator over the numbers in increasing order. -/
def AllPostN (S : List ByteArray) (w : World) (e : Ending) (w' : World) : Prop :=
  ∃ X a c, e = .returned (.func (.func 126) #[] #[.pointer (some ⟨X, 0, none⟩)]) ∧ w.heap.size ≤ X ∧ Blk w' X #[.slice a S.length c] 46 ∧ w'.ownsRow w.heap.size 9 1 (.slice a S.length c) S.length (fl encS (srtB S)) ∧ Below w.heap.size w w'
set_option maxRecDepth 100000 in
set_option maxHeartbeats 2000000 in
theorem allN_any (b n : Nat) (S : List ByteArray) (w : World) (h : MN w b n S) (hS : S.length < 1048576) : Calls Tryz.prog 72 #[.map (some b)] w (AllPostN S w) := by
  have HM := Lib.hid h
  have hb1 := bl_alloc (Below.refl _ w) (.cells #[.map (some b)] 95)
  have HC : Hid (Calls Tryz.prog 107 #[.func (.func 127) #[] #[.pointer (some ⟨w.heap.size, 0, none⟩)]] (w.alloc (.cells #[.map (some b)] 95)) fun e w' => ∃ v, e = .returned v ∧ w'.ownsRow (w.heap.size + 1) 9 1 v S.length (fl encS (srtB S)) ∧ Below (w.heap.size + 1) (w.alloc (.cells #[.map (some b)] 95)) w') := by
    have hs := keysN_stops 9 w.heap.size b n S (w.alloc (.cells #[.map (some b)] 95)) (by omega) (by simp) ((Blk.new w #[.map (some b)] 95).cell 0) (h.alloc _)
    have hc := sortedN_any 127 (enters_of Tryz.func127 (by kernel_rfl) rfl) _ _ S _ KeepsWalks _ hS (by omega) h.nd hs KeepsWalks.trans
      (fun W l o o' _ hl _ hw => ⟨by simp [World.putObj], fun k o2 hk ho2 => by
        by_cases e : k = l
        · subst e; rw [hl] at hk; cases hk; rw [hw] at ho2; cases ho2
        · exact (World.putObj_heap_other (fun e2 => e e2)).trans hk⟩)
      (fun W W' hk _ => ⟨hk.size, fun k o hk1 ho => hk.same k o hk1 (by cases o <;> first | rfl | cases ho)⟩)
    rw [World.size_alloc] at hc
    exact hc
  have HB1 := Lib.hid hb1
  have HK := Lib.hid (fun w => keysN_any b w)
  clear h hb1
  go_enter Tryz.func72, Tryz.ntmps72
  go_wp2_with (go_at_call 108; refine (HK.out _).mono ?_; rintro e w1 ⟨rfl, rfl⟩)
  refine HC.out.mono ?_
  rintro e w2 ⟨v, rfl, h1, h2⟩
  obtain ⟨a, c, rfl⟩ := owns_sl h1
  have HB2 : Hid (Below w.heap.size w w2) := bl_trans HB1.out (by rw [World.size_alloc]; exact h2)
  have H1 := Lib.hid h1
  clear h1 h2
  go_wp2_with (go_at_call 106; refine (valsN_any _ _ _ _).mono ?_; rintro e w3 ⟨rfl, rfl⟩)
  go_ret
  refine ⟨w2.heap.size, a, c, rfl, HB2.out.size, Blk.new _ _ _, ?_, bl_alloc HB2.out _⟩
  have h1 := H1.out.alloc (.cells #[.slice a S.length c] 46)
  exact owns_base4 h1 (by omega)
set_option maxRecDepth 100000 in
set_option maxHeartbeats 2000000 in
theorem colValsN_any (X n c base : Nat) (a : Option Addr) (l : List ByteArray) (w : World) (hn : l.length = n) (hN : n < 1048576) (hX : Blk w X #[.slice a n c] 46) (hR : w.ownsRow base 9 1 (.slice a n c) n (fl encS l)) :
    Calls Tryz.prog 71 #[.func (.func 126) #[] #[.pointer (some ⟨X, 0, none⟩)]] w fun e w' => ∃ v, e = .returned v ∧ w'.ownsRow w.heap.size 9 1 v n (fl encS l) ∧ Below w.heap.size w w' := by
  have hb : ∀ B, BsV X a B → B < w.heap.size := fun B h => by
    rcases h with rfl | ⟨o, p, rfl⟩
    · exact hX.lt
    · exact (hR.lt B rfl).2
  refine (colN_any 126 (enters_of Tryz.func126 (by kernel_rfl) rfl) _ n (fun xs => xs = l) _ (fun W W' => KpC (BsV X a) W W' ∧ W.heap.size ≤ W'.heap.size) w (by omega) (valsN_stops 9 X n c a l w (by omega) hn (by omega) hX (rd_of_owns hR)) (fun h k => ⟨h.1.trans k.1, Nat.le_trans h.2 k.2⟩)
    (fun W l o o' _ hl hc _ => ⟨kpC_put W l o o' hl hc, by simp [World.putObj]⟩) (fun W W' hk hs => ⟨fun B cs t fr hB hx => (hs B (hb B hB)).trans hx, hk.size⟩)).mono ?_
  rintro e w' ⟨v, xs, rfl, rfl, h1, h2⟩
  rw [hn] at h1
  exact ⟨v, rfl, h1, h2⟩
end Go.Proofs.YtfgkjofdgohacaaGreatDoor
namespace Go.Proofs.YtfgkjofdgohacaaGreatDoor
open Go Go.RowKit Go.Shelf Go.Maps
/-- The error of the first k names. -/
def bnE (nm : List ByteArray) : Nat → Int
  | 0 => 0
  | k + 1 => if bnE nm k ≠ 0 then bnE nm k else if nmB (sA nm k) = false then 15 else if sA nm k ∈ nm.take k then 6 else 0
theorem bnE_stop {nm : List ByteArray} {k : Nat} (h : bnE nm k ≠ 0) : ∀ m, k ≤ m → bnE nm m = bnE nm k
  | 0, hm => by obtain rfl : k = 0 := by omega
                rfl
  | m + 1, hm => by
    by_cases e : k = m + 1
    · rw [e]
    · have ih := bnE_stop h m (by omega)
      have e2 : bnE nm (m + 1) = if bnE nm m ≠ 0 then bnE nm m else if nmB (sA nm m) = false then 15 else if sA nm m ∈ nm.take m then 6 else 0 := rfl
      rw [e2, if_pos (by rw [ih]; exact h), ih]
theorem bnE_next {nm : List ByteArray} {k : Nat} (h : bnE nm k = 0) : bnE nm (k + 1) = if nmB (sA nm k) = false then 15 else if sA nm k ∈ nm.take k then 6 else 0 := by
  have e2 : bnE nm (k + 1) = if bnE nm k ≠ 0 then bnE nm k else if nmB (sA nm k) = false then 15 else if sA nm k ∈ nm.take k then 6 else 0 := rfl
  rw [e2, if_neg (by omega)]
theorem bnE_ok {nm : List ByteArray} : ∀ k, k ≤ nm.length → bnE nm k = 0 → (∀ s, s ∈ nm.take k → nmB s = true) ∧ (nm.take k).Nodup
  | 0, _, _ => ⟨fun s hs => by simp at hs, by simp⟩
  | k + 1, hk, h => by
    have h0 : bnE nm k = 0 := by
      by_cases q : bnE nm k = 0
      · exact q
      · rw [bnE_stop q (k + 1) (by omega)] at h; exact absurd h q
    rw [bnE_next h0] at h
    obtain ⟨a, b⟩ := bnE_ok k (by omega) h0
    have e : nm.take (k + 1) = nm.take k ++ [sA nm k] := by
      rw [List.take_succ_eq_append_getElem (by omega)]
      simp [sA, show k < nm.length by omega]
    by_cases q1 : nmB (sA nm k) = false
    · rw [if_pos q1] at h; omega
    · rw [if_neg q1] at h
      by_cases q2 : sA nm k ∈ nm.take k
      · rw [if_pos q2] at h; omega
      · rw [e]
        refine ⟨fun s hs => ?_, ?_⟩
        · rcases List.mem_append.1 hs with hs | hs
          · exact a s hs
          · rw [List.mem_singleton.1 hs]
            cases q : nmB (sA nm k)
            · exact absurd q q1
            · rfl
        · rw [List.nodup_append]
          exact ⟨b, by simp, fun x hx y hy e => by rw [List.mem_singleton.1 hy] at e; rw [e] at hx; exact q2 hx⟩
/-- Does a set fit all of a list? -/
def fitsB (x : Nat) (l : List Nat) : Bool := l.all fun y => fitB x y
/-- The error of the first k sets. -/
def bsE (L : Nat) (l : List Nat) : Nat → Int
  | 0 => 0
  | k + 1 => if bsE L l k ≠ 0 then bsE L l k else if vA l k = 0 ∨ vA l k / 2 ^ L ≠ 0 then 3 else if fitsB (vA l k) (l.take k) = false then 8 else 0
theorem bsE_stop {L : Nat} {l : List Nat} {k : Nat} (h : bsE L l k ≠ 0) : ∀ m, k ≤ m → bsE L l m = bsE L l k
  | 0, hm => by obtain rfl : k = 0 := by omega
                rfl
  | m + 1, hm => by
    by_cases e : k = m + 1
    · rw [e]
    · have ih := bsE_stop h m (by omega)
      have e2 : bsE L l (m + 1) = if bsE L l m ≠ 0 then bsE L l m else if vA l m = 0 ∨ vA l m / 2 ^ L ≠ 0 then 3 else if fitsB (vA l m) (l.take m) = false then 8 else 0 := rfl
      rw [e2, if_pos (by rw [ih]; exact h), ih]
theorem bsE_next {L : Nat} {l : List Nat} {k : Nat} (h : bsE L l k = 0) : bsE L l (k + 1) = if vA l k = 0 ∨ vA l k / 2 ^ L ≠ 0 then 3 else if fitsB (vA l k) (l.take k) = false then 8 else 0 := by
  have e2 : bsE L l (k + 1) = if bsE L l k ≠ 0 then bsE L l k else if vA l k = 0 ∨ vA l k / 2 ^ L ≠ 0 then 3 else if fitsB (vA l k) (l.take k) = false then 8 else 0 := rfl
  rw [e2, if_neg (by omega)]
theorem fitB_iff {x y : Nat} : fitB x y = true ↔ x &&& y = 0 ∨ x &&& y = x ∨ x &&& y = y := by
  unfold fitB
  rw [Bool.or_eq_true, Bool.or_eq_true, decide_eq_true_eq, decide_eq_true_eq, decide_eq_true_eq, or_assoc]
theorem fitB_comm (x y : Nat) : fitB x y = fitB y x := by
  rw [Bool.eq_iff_iff, fitB_iff, fitB_iff, Nat.and_comm y x]
  constructor
  · rintro (h | h | h)
    · exact .inl h
    · exact .inr (.inr h)
    · exact .inr (.inl h)
  · rintro (h | h | h)
    · exact .inl h
    · exact .inr (.inr h)
    · exact .inr (.inl h)
theorem fitB_self (x : Nat) : fitB x x = true := fitB_iff.2 (.inr (.inl (Nat.and_self x)))
theorem fitB_all {x L : Nat} (h : x < 2 ^ L) : fitB x (2 ^ L - 1) = true := fitB_iff.2 (.inr (.inl (wi_l.2 (wi_r.1 (sub_all4 h)))))
theorem fitB_one (x k : Nat) : fitB x (2 ^ k) = true := by
  cases q : x.testBit k
  · refine fitB_iff.2 (.inl ?_)
    apply Nat.eq_of_testBit_eq
    intro i
    rw [Nat.testBit_and, Nat.testBit_two_pow, Nat.zero_testBit]
    by_cases e : k = i
    · subst e; rw [q]; rfl
    · simp [e]
  · exact fitB_iff.2 (.inr (.inr (wi_r.2 (one_wi q))))
theorem bsE_ok {L : Nat} {l : List Nat} : ∀ k, k ≤ l.length → bsE L l k = 0 → (∀ x, x ∈ l.take k → x ≠ 0 ∧ x < 2 ^ L) ∧ ∀ x y, x ∈ l.take k → y ∈ l.take k → fitB x y = true
  | 0, _, _ => ⟨fun s hs => by simp at hs, fun s t hs => by simp at hs⟩
  | k + 1, hk, h => by
    have h0 : bsE L l k = 0 := by
      by_cases q : bsE L l k = 0
      · exact q
      · rw [bsE_stop q (k + 1) (by omega)] at h; exact absurd h q
    rw [bsE_next h0] at h
    obtain ⟨a, b⟩ := bsE_ok k (by omega) h0
    have e : l.take (k + 1) = l.take k ++ [vA l k] := by
      rw [List.take_succ_eq_append_getElem (by omega)]
      simp [vA, show k < l.length by omega]
    by_cases q1 : vA l k = 0 ∨ vA l k / 2 ^ L ≠ 0
    · rw [if_pos q1] at h; omega
    · rw [if_neg q1] at h
      by_cases q2 : fitsB (vA l k) (l.take k) = false
      · rw [if_pos q2] at h; omega
      · have q2 : fitsB (vA l k) (l.take k) = true := by cases q : fitsB (vA l k) (l.take k); exact absurd q q2; rfl
        unfold fitsB at q2
        rw [List.all_eq_true] at q2
        have hnew : vA l k ≠ 0 ∧ vA l k < 2 ^ L := by
          refine ⟨fun e => q1 (.inl e), ?_⟩
          have h3 : vA l k / 2 ^ L = 0 := Classical.not_not.1 fun e => q1 (.inr e)
          exact (Nat.div_eq_zero_iff_lt (Nat.two_pow_pos L)).1 h3
        rw [e]
        refine ⟨fun s hs => ?_, fun s t hs ht => ?_⟩
        · rcases List.mem_append.1 hs with hs | hs
          · exact a s hs
          · rw [List.mem_singleton.1 hs]; exact hnew
        · rcases List.mem_append.1 hs with hs | hs <;> rcases List.mem_append.1 ht with ht | ht
          · exact b s t hs ht
          · rw [List.mem_singleton.1 ht, fitB_comm]; exact q2 s hs
          · rw [List.mem_singleton.1 hs]; exact q2 t ht
          · rw [List.mem_singleton.1 hs, List.mem_singleton.1 ht]; exact fitB_self _
/-- Build's error. -/
def bldE (nm : List ByteArray) (l : List Nat) : Int := if 32 < nm.length then 12 else if nm.length = 0 then 5 else if bnE nm nm.length ≠ 0 then bnE nm nm.length else bsE nm.length l l.length
/-- The family of the sets, the single leaves, and all. -/
def bdF (L : Nat) (l : List Nat) : List Nat := sdU ((2 ^ L - 1) :: ((List.range L).map (fun k => 2 ^ k) ++ l))
theorem bdF_mem (L : Nat) (l : List Nat) (x : Nat) : x ∈ bdF L l ↔ (x = 2 ^ L - 1 ∨ (∃ k, k < L ∧ x = 2 ^ k) ∨ x ∈ l) := by
  unfold bdF
  rw [sdU_mem, List.mem_cons, List.mem_append, List.mem_map]
  have e1 : (∃ a, a ∈ List.range L ∧ 2 ^ a = x) ↔ ∃ k, k < L ∧ x = 2 ^ k := by
    constructor
    · rintro ⟨k, hk, rfl⟩; exact ⟨k, List.mem_range.1 hk, rfl⟩
    · rintro ⟨k, hk, rfl⟩; exact ⟨k, List.mem_range.2 hk, rfl⟩
  rw [e1]
theorem bldE_zero {nm : List ByteArray} {l : List Nat} (h : bldE nm l = 0) : nm.length ≤ 32 ∧ 1 ≤ nm.length ∧ bnE nm nm.length = 0 ∧ bsE nm.length l l.length = 0 := by
  unfold bldE at h
  split at h
  · omega
  · split at h
    · omega
    · split at h
      · rename_i h3; exact absurd h h3
      · rename_i h1 h2 h3
        exact ⟨by omega, by omega, Classical.not_not.1 h3, h⟩
theorem bd_of {nm : List ByteArray} {l : List Nat} (h32 : nm.length ≤ 32) (h1 : 1 ≤ nm.length) (hok : ∀ s, s ∈ nm → nmB s = true) (hnd : nm.Nodup) (hx : ∀ x, x ∈ l → x ≠ 0 ∧ x < 2 ^ nm.length) (hf : ∀ x y, x ∈ l → y ∈ l → fitB x y = true) : BlIn (srtB nm) (bdF nm.length l) := by
  refine ⟨?_, by rw [srtB_len]; exact h1, by rw [srtB_len]; exact h32, srtB_pw hnd, fun s hs => hok s ((srtB_mem s nm).1 hs)⟩
  rw [srtB_len]
  have hp := Nat.two_pow_pos nm.length
  have hp1 : 2 ≤ 2 ^ nm.length := by
    have := Nat.pow_le_pow_right (n := 2) (by omega) h1
    simpa using this
  have hlt : ∀ x, x ∈ bdF nm.length l → x ≠ 0 ∧ x < 2 ^ nm.length := fun x hx2 => by
    rcases (bdF_mem _ _ _).1 hx2 with rfl | ⟨k, hk, rfl⟩ | h
    · omega
    · have := Nat.two_pow_pos k
      exact ⟨by omega, Nat.pow_lt_pow_right (by omega) hk⟩
    · exact hx x h
  refine ⟨sdU_pw _, fun x h => (hlt x h).2, fun x h => (hlt x h).1, fun x y h k => ?_, (bdF_mem _ _ _).2 (.inl rfl), fun k hk => (bdF_mem _ _ _).2 (.inr (.inl ⟨k, hk, rfl⟩))⟩
  rcases (bdF_mem _ _ _).1 k with rfl | ⟨j, hj, rfl⟩ | k2
  · exact fitB_all (hlt x h).2
  · exact fitB_one x j
  · rcases (bdF_mem _ _ _).1 h with rfl | ⟨j, hj, rfl⟩ | h2
    · rw [fitB_comm]; exact fitB_all (hlt y k).2
    · rw [fitB_comm]; exact fitB_one y j
    · exact hf x y h2 k2
theorem bd_in {nm : List ByteArray} {l : List Nat} (h : bldE nm l = 0) : BlIn (srtB nm) (bdF nm.length l) := by
  obtain ⟨h32, h1, hn, hs⟩ := bldE_zero h
  obtain ⟨a, b⟩ := bnE_ok nm.length (Nat.le_refl _) hn
  obtain ⟨c, d⟩ := bsE_ok l.length (Nat.le_refl _) hs
  rw [List.take_length] at a b c d
  exact bd_of h32 h1 a b c d
end Go.Proofs.YtfgkjofdgohacaaGreatDoor
namespace Go.Proofs.YtfgkjofdgohacaaGreatDoor
open Go Go.RowKit Go.Shelf Go.Maps
attribute [local go_sem] Oper.semAt_some
theorem results_cc4 {P : Program} {fn : Func} {p q : Tmp} {ty tz : TypeId} (h : fn.results = #[.cell p ty, .cell q tz]) (tmps : Array Value) (w : World) (b c : Nat) (v u : Value) (hp : tmps.getD p undef = .pointer (some ⟨b, 0, none⟩)) (hq : tmps.getD q undef = .pointer (some ⟨c, 0, none⟩)) (hv : (loadVar ty ⟨b, 0, none⟩).run P w = .ok v w) (hu : (loadVar tz ⟨c, 0, none⟩).run P w = .ok u w) :
    (results fn tmps).run P w = .ok (.tuple #[v, u]) w := by
  have hp2 : tmps[p]?.getD undef = .pointer (some ⟨b, 0, none⟩) := by rw [← hp]; simp
  have hq2 : tmps[q]?.getD undef = .pointer (some ⟨c, 0, none⟩) := by rw [← hq]; simp
  simp [results, h, hp2, hq2, asAddr, hv, hu]
theorem load_nds4 {W : World} {b : Nat} {v : Value} (h : Blk W b #[v] 22) : (loadVar 22 ⟨b, 0, none⟩).run Tryz.prog W = .ok v W := by
  have c : W.cell? ⟨b, 0, none⟩ = some v := h.cell 0
  simp [go_sem, c]
theorem load_err4 {W : World} {b : Nat} {v : Value} (h : Blk W b #[v] 24) : (loadVar 24 ⟨b, 0, none⟩).run Tryz.prog W = .ok v W := by
  have c : W.cell? ⟨b, 0, none⟩ = some v := h.cell 0
  simp [go_sem, c]
/-- The result's cells before and between the two stores. -/
theorem bd_cells {W : World} {R4 R5 : Nat} {u0 v0 : Value} (h0 : Blk W R4 #[u0] 22) (h1 : Blk W R5 #[v0] 24) (hne : R5 ≠ R4) (u : Value) :
    W.cell? ⟨R4, 0, none⟩ = some u0 ∧ W.frozen? ⟨R4, 0, none⟩ = false ∧ (W.setCell ⟨R4, 0, none⟩ u).cell? ⟨R5, 0, none⟩ = some v0 ∧ (W.setCell ⟨R4, 0, none⟩ u).frozen? ⟨R5, 0, none⟩ = false :=
  ⟨h0.cell 0, h0.free 0, (h1.other hne 0 u).cell 0, (h1.other hne 0 u).free 0⟩
/-- The end with stored results. -/
theorem bd_ret {W : World} {R : Ending → World → Prop} {R4 R5 : Nat} {tmps : Array Value} {u0 v0 u v : Value} (h0 : Blk W R4 #[u0] 22) (h1 : Blk W R5 #[v0] 24) (hne : R5 ≠ R4) (Ds : List Nat) (hn : Ds.Nodup) (hD : ∀ D ∈ Ds, W.heap[D]? = some (Obj.deferred (some [])))
    (ht0 : tmps.getD 4 undef = .pointer (some ⟨R4, 0, none⟩)) (ht1 : tmps.getD 5 undef = .pointer (some ⟨R5, 0, none⟩)) (hpost : ∀ W', Trn Ds ((W.setCell ⟨R4, 0, none⟩ u).setCell ⟨R5, 0, none⟩ v) W' → R (.returned (.tuple #[u, v])) W') :
    LeavesInM Fence.wide 10 Tryz.prog Tryz.f34 tmps R (dfs Ds) .returning ((W.setCell ⟨R4, 0, none⟩ u).setCell ⟨R5, 0, none⟩ v) := by
  have hD4 : ∀ D ∈ Ds, D ≠ R4 := fun D hd e => by subst e; have := hD D hd; rw [h0] at this; cases this
  have hD5 : ∀ D ∈ Ds, D ≠ R5 := fun D hd e => by subst e; have := hD D hd; rw [h1] at this; cases this
  have k0 : Blk ((W.setCell ⟨R4, 0, none⟩ u).setCell ⟨R5, 0, none⟩ v) R4 #[u] 22 := by
    have := (h0.set 0 u).other hne.symm 0 v
    simpa using this
  have k1 : Blk ((W.setCell ⟨R4, 0, none⟩ u).setCell ⟨R5, 0, none⟩ v) R5 #[v] 24 := by
    have := (h1.other hne 0 u).set 0 v
    simpa using this
  refine leaves_all Ds _ hn (fun D hd => (Below.heap_setCell _ ⟨R5, 0, none⟩ _ _ (hD5 D hd)).trans ((Below.heap_setCell _ ⟨R4, 0, none⟩ _ _ (hD4 D hd)).trans (hD D hd))) fun W' ht => ⟨_, results_cc4 rfl tmps W' R4 R5 _ _ ht0 ht1 (load_nds4 ((ht.block R4 fun q => hD4 R4 q rfl).trans k0)) (load_err4 ((ht.block R5 fun q => hD5 R5 q rfl).trans k1)), hpost W' ht⟩
theorem chk_one (s : ByteArray) : chkE [(-1, s)] = if nmB s = true then 0 else 16 := by
  by_cases q : nmB s = true
  · rw [if_pos q]
    refine chkE_good ⟨by simp, by simp, fun v hv => ?_⟩
    obtain rfl : v = 0 := by simp at hv; exact hv
    exact ⟨by simp [nP], by simp [nP], q, rfl⟩
  · rw [if_neg q]
    refine if_neg fun h => q ?_
    exact (h.2.2 0 (by simp)).2.2.1
theorem one_lt {P : Nat → Prop} (h : P 0) : ∀ v, v < 1 → P v := fun v hv => by
  obtain rfl : v = 0 := by omega
  exact h
/-- What Build answers. -/
def BdPost (nm : List ByteArray) (l : List Nat) (w : World) (e : Ending) (w' : World) : Prop :=
  Below w.heap.size w w' ∧ (bldE nm l ≠ 0 ∧ e = .returned (.tuple #[.slice none 0 0, .int .i64 (bldE nm l)]) ∨ bldE nm l = 0 ∧ ∃ v, e = .returned (.tuple #[v, .int .i64 0]) ∧ w'.ownsRow w.heap.size 56 2 v (bldT (srtB nm) (bdF nm.length l)).length (fl encNd (bldT (srtB nm) (bdF nm.length l))))
theorem BdPost.bad {nm : List ByteArray} {l : List Nat} {w w' : World} {e : Ending} {x : Int} (hx : bldE nm l = x) (h0 : x ≠ 0) (hb : Below w.heap.size w w') (he : e = .returned (.tuple #[.slice none 0 0, .int .i64 x])) : BdPost nm l w e w' :=
  ⟨hb, .inl ⟨by rw [hx]; exact h0, by rw [hx]; exact he⟩⟩
theorem bl_two {w W : World} {R4 R5 : Nat} (h : Below w.heap.size w W) (h4 : w.heap.size ≤ R4) (h5 : w.heap.size ≤ R5) (u v : Value) : Below w.heap.size w ((W.setCell ⟨R4, 0, none⟩ u).setCell ⟨R5, 0, none⟩ v) := bl_set (bl_set h _ _ _ _ h4) _ _ _ _ h5
theorem bd_ret2 {W : World} {R : Ending → World → Prop} {R4 R5 : Nat} {tmps : Array Value} {u v : Value} (k0 : Blk W R4 #[u] 22) (k1 : Blk W R5 #[v] 24) (Ds : List Nat) (hn : Ds.Nodup) (hD : ∀ D ∈ Ds, W.heap[D]? = some (Obj.deferred (some [])))
    (ht0 : tmps.getD 4 undef = .pointer (some ⟨R4, 0, none⟩)) (ht1 : tmps.getD 5 undef = .pointer (some ⟨R5, 0, none⟩)) (hpost : ∀ W', Trn Ds W W' → R (.returned (.tuple #[u, v])) W') :
    LeavesInM Fence.wide 10 Tryz.prog Tryz.f34 tmps R (dfs Ds) .returning W := by
  have hD4 : ∀ D ∈ Ds, D ≠ R4 := fun D hd e => by subst e; have := hD D hd; rw [k0] at this; cases this
  have hD5 : ∀ D ∈ Ds, D ≠ R5 := fun D hd e => by subst e; have := hD D hd; rw [k1] at this; cases this
  exact leaves_all Ds W hn hD fun W' ht => ⟨_, results_cc4 rfl tmps W' R4 R5 _ _ ht0 ht1 (load_nds4 ((ht.block R4 fun q => hD4 R4 q rfl).trans k0)) (load_err4 ((ht.block R5 fun q => hD5 R5 q rfl).trans k1)), hpost W' ht⟩
theorem nm_ok {s : ByteArray} (h : nmB s = true) : s ≠ ByteArray.empty ∧ s.size ≤ maxLen := by
  unfold nmB at h
  simp only [Bool.and_eq_true, decide_eq_true_eq] at h
  refine ⟨fun e => ?_, by unfold maxLen; omega⟩
  rw [e] at h
  exact absurd h.1.2 (by decide)
/-- Between the rounds over the sets. -/
structure BxI (w w3 : World) (R4 R5 S9 n i : Nat) (nm : List ByteArray) (l : List Nat) (Ds : List Nat) (W : World) : Prop where
  e : bsE n l i = 0
  mu : MU W S9 i (addL [] (l.take i))
  mn : MN W (R5 + 1) n nm
  k4 : Blk W R4 #[.slice none 0 0] 22
  k5 : Blk W R5 #[.int .i64 0] 24
  bl : Below w.heap.size w W
  z : w3.heap.size ≤ W.heap.size
  nd : Ds.Nodup
  ds : ∀ D ∈ Ds, w3.heap.size ≤ D ∧ W.heap[D]? = some (Obj.deferred (some []))
/-- The sets that came do not clash with x. -/
def fitsP (x : Nat) (pre : List U64) : Bool := (pre.map Fin.val).all fun y => fitB x y
theorem fitsP_snoc (x : Nat) (pre : List U64) (y : U64) : fitsP x (pre ++ [y]) = (fitsP x pre && fitB x y.val) := by
  unfold fitsP; simp [List.all_append]
theorem fits_set {x : Nat} {l m : List Nat} (h : ∀ y, y ∈ l ↔ y ∈ m) : (l.all fun y => fitB x y) = m.all fun y => fitB x y := by
  rw [Bool.eq_iff_iff, List.all_eq_true, List.all_eq_true]
  exact ⟨fun k y hy => k y ((h y).2 hy), fun k y hy => k y ((h y).1 hy)⟩
/-- A round has returned. -/
structure BdX (w : World) (R4 R5 : Nat) (x : Nat) (Ds : List Nat) (c : Code) (pre : List U64) (W : World) : Prop where
  c : c = .ret
  f : fitsP x pre = false
  k4 : Blk W R4 #[.slice none 0 0] 22
  k5 : Blk W R5 #[.int .i64 8] 24
  bl : Below w.heap.size w W
  ds : ∀ D ∈ Ds, W.heap[D]? = some (Obj.deferred (some []))
/-- A range over the iterator of a row of numbers; a round may return. -/
theorem wp_valsS {g : Operand} {ps : Array Tmp} {assign body : Code} {Q : Exit → Act → World → Prop} {a : Act} {w : World} {X m c base : Nat} {A : Option Addr} {l : List Nat}
    (hg : a.eval g = .func (.func 119) #[] #[.pointer (some ⟨X, 0, none⟩)]) (hX : Blk w X #[.slice A m c] 37) (hR : w.ownsRow base 41 1 (.slice A m c) m (fl encV l)) (hm : l.length = m) (hm2 : m ≤ 1048576) (hlt : ∀ x ∈ l, x < 18446744073709551616) (hps : ps.size = 1)
    (I : List U64 → World → Prop) (Ix : Code → List U64 → World → Prop) (hI : OwnFrom w.heap.size I) (hIx : ∀ c, OwnFrom w.heap.size (Ix c)) (h0 : I [] w) (a₁ : U64 → Act)
    (hassign : ∀ (r : Nat) (x : U64) (W : World) (K : Act → World → Prop), K (a₁ x) W → assign.wpIn (Fence.wide.inRound r) 8 Tryz.prog (Exit.then K (fun _ _ _ => False)) { tmps := (ps.zip #[.int .u64 (x.val : Int)]).foldl (fun t (p, v) => t.setIfInBounds p v) a.tmps, defers := [] } W)
    (hbody : ∀ (r : Nat) (pre : List U64) (x : U64) (W : World), I pre W → pre.length < m → body.wpIn (Fence.wide.inRound r) 8 Tryz.prog (ownPostG w.heap.size (KpV X A) I Ix (pre ++ [x]) W) (a₁ x) W)
    (hdone : ∀ (D : Nat) (xs : List U64) (W : World), w.heap.size ≤ D → xs.map Fin.val = l → I xs W → W.heap[D]? = some (.deferred (some [])) → Q .normal { a with defers := { target := .collected D, args := #[] } :: a.defers } W)
    (hstop : ∀ (D : Nat) (c : Code) (pre : List U64) (W : World), w.heap.size ≤ D → (∃ k, k < m ∧ pre.map Fin.val = l.take (k + 1)) → Ix c pre W → W.heap[D]? = some (.deferred (some [])) → c.wp Tryz.prog Q { a with defers := { target := .collected D, args := #[] } :: a.defers } W) :
    (Code.rangeFunc g ps assign body).wp Tryz.prog Q a w := by
  refine (wpIn_wide (n := 10)).1 ?_
  refine wpIn_rangeFunc_ownG (α := U64) rfl (by omega) (gf := 119) (lb := #[.pointer (some ⟨X, 0, none⟩)]) hg trivial (enters_of Tryz.func119 (by kernel_rfl) rfl)
    (vals64_stops 9 X m c A l w (fun i hi => hlt _ (by
      have h : vA l i = l[i]'(by rw [hm]; exact hi) := by simp [vA, hm, hi]
      rw [h]; exact List.getElem_mem _)) (by omega) hm (by omega) hX (rd_of_owns hR)) (fun h k => ⟨h.1.trans k.1, Nat.le_trans h.2 k.2⟩)
    (fun W l o o' _ hl hc _ => ⟨kpC_put W l o o' hl hc, by simp [World.putObj]⟩) (Below.refl _ _) (fun _ => hps.symm) I Ix hI hIx h0 a₁ hassign hbody hdone ?_
  intro D c pre W hD hS hx hDD
  exact wpIn_wide.2 (hstop D c pre W hD hS hx hDD)
set_option maxRecDepth 100000 in
set_option maxHeartbeats 8000000 in
theorem build_any (a b : Option Addr) (n c m d : Nat) (nm : List ByteArray) (l : List Nat) (w : World) (hn : nm.length = n) (hm : l.length = m) (hN : n ≤ 100000) (hM : m ≤ 1000) (hA : Rd w a (fl encS nm)) (hB : Rd w b (fl encV l)) (hS : ∀ i, i < n → (sA nm i).size ≤ 9223372036854775807) (hF : ∀ i, i < m → vA l i < 18446744073709551616) (hZ : TzG w) :
    Calls Tryz.prog 34 #[.slice a n c, .slice b m d] w (BdPost nm l w) := by
  have HL := Lib.hid hn
  have HM := Lib.hid hm
  have HA := Lib.hid hA
  have HB := Lib.hid hB
  have HS := Lib.hid hS
  have HFV := Lib.hid hF
  have HZ := Lib.hid hZ
  clear hn hm hA hB hS hF hZ
  refine (callsIn_wide (n := 10)).1 ?_
  refine callsIn_of_wp_marks Tryz.func34 rfl trivial ?_ rfl
  simp only [Tryz.ntmps34, List.size_toArray, List.length_cons, List.length_nil, Nat.reduceAdd, Nat.reduceSub, Array.replicate_succ, Array.replicate_zero, List.push_toArray, List.append_toArray, List.nil_append, List.cons_append]
  refine wpIn_wide.2 ?_
  obtain ⟨w1, hw1⟩ : ∃ x, x = (w.alloc (.cells #[.slice none 0 0] 22)).alloc (.cells #[.int .i64 0] 24) := ⟨_, rfl⟩
  obtain ⟨R4, hR4⟩ : ∃ x, x = w.heap.size := ⟨_, rfl⟩
  obtain ⟨R5, hR5⟩ : ∃ x, x = w.heap.size + 1 := ⟨_, rfl⟩
  have HK4 : Hid (Blk w1 R4 #[.slice none 0 0] 22) := by
    show Blk _ _ _ _
    rw [hw1, hR4]; exact (Blk.new w _ _).alloc _
  have HK5 : Hid (Blk w1 R5 #[.int .i64 0] 24) := by
    show Blk _ _ _ _
    rw [hw1, hR5]; exact Blk.new2 w _ _ _
  have HB1 : Hid (Below w.heap.size w w1) := by
    show Below _ _ _
    rw [hw1]; exact bl_alloc (bl_alloc (Below.refl _ w) _) _
  have HR45 : Hid (R5 = R4 + 1) := by show _ = _; omega
  have HRR : Hid (R5 ≠ R4 ∧ w.heap.size ≤ R4 ∧ w.heap.size ≤ R5) := ⟨by omega, by omega, by omega⟩
  have HWZ : Hid (w1.heap.size = R5 + 1) := by show _ = _; rw [hw1, hR5]; simp
  go_upto_region 1 with fail
  rw [← hw1]
  rw [← hR4, show R4 + 1 = R5 by omega]
  clear hw1 hR4 hR5
  by_cases q1 : 32 < n
  · have hE : bldE nm l = 12 := by unfold bldE; rw [HL.out, if_pos q1]
    have HE := Lib.hid hE
    have d1 : decide (32 < (n : Int)) = true := decide_eq_true (by omega)
    obtain ⟨d0, f0, d5, f5⟩ := bd_cells HK4.out HK5.out HRR.out.1 (.slice none 0 0)
    clear q1 hE
    go_wp2_with fail
    refine bd_ret HK4.out HK5.out HRR.out.1 [] List.nodup_nil (fun D h => by cases h) ?_ ?_ ?_
    · rfl
    · rfl
    exact fun W' ht => BdPost.bad HE.out (by decide) (ht.below (bl_two HB1.out HRR.out.2.1 HRR.out.2.2 _ _) (fun D h => by cases h)) rfl
  have d1 : decide (32 < (n : Int)) = false := decide_eq_false (by omega)
  by_cases q2 : n = 0
  · have hE : bldE nm l = 5 := by unfold bldE; rw [HL.out, if_neg q1, if_pos q2]
    have HE := Lib.hid hE
    have d2 : ((n : Int) == 0) = true := by rw [q2]; rfl
    obtain ⟨d0, f0, d5, f5⟩ := bd_cells HK4.out HK5.out HRR.out.1 (.slice none 0 0)
    clear q1 q2 hE
    go_wp2_with fail
    refine bd_ret HK4.out HK5.out HRR.out.1 [] List.nodup_nil (fun D h => by cases h) ?_ ?_ ?_
    · rfl
    · rfl
    exact fun W' ht => BdPost.bad HE.out (by decide) (ht.below (bl_two HB1.out HRR.out.2.1 HRR.out.2.2 _ _) (fun D h => by cases h)) rfl
  have d2 : ((n : Int) == 0) = false := by rw [beq_eq_false_iff_ne]; omega
  have hn32 : n ≤ 32 := by omega
  have HEA : Hid (bldE nm l = if bnE nm n ≠ 0 then bnE nm n else bsE n l m) := by show _ = _; unfold bldE; rw [HL.out, HM.out, if_neg q1, if_neg q2]
  have HN0 : Hid (1 ≤ n) := by show 1 ≤ n; omega
  clear q1 q2
  have hmm := @run_makeMap Tryz.prog
  go_upto_region 6 with fail
  obtain ⟨w2, hw2⟩ : ∃ y, y = w1.alloc (.map #[] 0) := ⟨_, rfl⟩
  have HM2 : Hid (MN w2 (R5 + 1) 0 []) := by
    show MN _ _ _ _
    have h := MN.made w1
    rw [HWZ.out] at h
    rw [hw2]; exact h
  have hb12 : Below w1.heap.size w1 w2 := by rw [hw2]; exact bl_alloc (Below.refl _ _) _
  have H42 := Lib.hid (HK4.out.below hb12)
  have H52 := Lib.hid (HK5.out.below hb12)
  have HB2 := Lib.hid (bl_trans HB1.out hb12)
  rw [← hw2, HWZ.out]
  have HZ2 : Hid (w2.heap.size = R5 + 2) := by show _ = _; rw [hw2, World.size_alloc, HWZ.out]
  clear hw2 hb12 hmm d1 d2 HK4 HK5 HB1
  go_wp2_with fail
  go_loopw [25] (fun y wr => ∃ k : Nat, k ≤ n ∧ y = .int .i64 k ∧ Hid (bnE nm k = 0) ∧ Hid (MN wr (R5 + 1) k (nm.take k)) ∧ Hid (Blk wr R4 #[.slice none 0 0] 22) ∧ Hid (Blk wr R5 #[.int .i64 0] 24) ∧ Hid (Below w.heap.size w wr)) (fun y _ => n - (intOf y).toNat)
  case atStart => exact ⟨0, by omega, rfl, rfl, HM2.out, H42, H52, HB2⟩
  case round =>
    clear HM2 H42 H52 HB2
    obtain ⟨k, hk, rfl, HE0, HMN, HK4, HK5, HBW⟩ := hrel
    by_cases hlt : k < n
    · obtain ⟨bA, oA, rfl, _, hc⟩ := rdS (HA.out.bl HBW.out) (by rw [HL.out]; omega)
      have c1 := hc k (by rw [HL.out]; exact hlt)
      have hsz := HS.out k hlt
      have HNX := Lib.hid (bnE_next HE0.out)
      have HTK : Hid (nm.take (k + 1) = nm.take k ++ [sA nm k]) := take_snocN (by rw [HL.out]; exact hlt)
      have HST : Hid (bnE nm (k + 1) ≠ 0 → bldE nm l = bnE nm (k + 1)) := fun h => by
        have h2 := bnE_stop h n (by omega)
        rw [HEA.out, h2, if_pos h]
      clear hc
      generalize sA nm k = s at *
      have HBN := Lib.hid (bl_alloc (Below.refl _ wr) (.cells #[.int .i64 (-1), .string s] 56))
      have HCK := Lib.hid (check_any (some ⟨wr.heap.size, 0, none⟩) 1 1 [(-1, s)] (wr.alloc (.cells #[.int .i64 (-1), .string s] 56)) rfl (by omega) (rd_of_blk4 (cs := fl encNd [(-1, s)]) (Blk.new wr _ _)) (fun v hv => one_lt (P := fun v => (nS [(-1, s)] v).size ≤ 9223372036854775807) hsz v hv))
      rw [chk_one] at HCK
      by_cases q : nmB s = true
      case neg =>
        have hq : nmB s = false := by cases h : nmB s; rfl; exact absurd h q
        rw [if_neg q] at HCK
        have HE : Hid (bldE nm l = 15) := by
          have h := HNX.out
          rw [if_pos hq] at h
          have h2 := HST.out (by rw [h]; decide)
          show _ = _
          rw [h2, h]
        clear q hq HNX HST
        go_wp2_with fail
        refine HCK.out.mono ?_
        rintro e w3 ⟨rfl, hb3⟩
        have hbb := bl_trans HBN.out hb3
        have HB3 := Lib.hid (bl_trans HBW.out hbb)
        have H43 := Lib.hid (HK4.out.below hbb)
        have H53 := Lib.hid (HK5.out.below hbb)
        obtain ⟨d0, f0, d5, f5⟩ := bd_cells H43.out H53.out HRR.out.1 (.slice none 0 0)
        clear hb3 hbb HCK
        go_wp2_with fail
        refine bd_ret H43.out H53.out HRR.out.1 [] List.nodup_nil (fun D h => by cases h) ?_ ?_ ?_
        · rfl
        · rfl
        exact fun W' ht => BdPost.bad HE.out (by decide) (ht.below (bl_two HB3.out HRR.out.2.1 HRR.out.2.2 _ _) (fun D h => by cases h)) rfl
      case pos =>
        have hq : ¬ nmB s = false := by rw [q]; decide
        rw [if_pos q] at HCK
        rw [if_neg hq] at HNX
        have hs24 : s.size ≤ maxLen := by
          have h := q
          unfold nmB at h
          simp only [Bool.and_eq_true, decide_eq_true_eq] at h
          unfold maxLen; omega
        clear q hq
        go_wp2_with fail
        refine HCK.out.mono ?_
        rintro e w3 ⟨rfl, hb3⟩
        have hbb := bl_trans HBN.out hb3
        have HB3 := Lib.hid (bl_trans HBW.out hbb)
        have H43 := Lib.hid (HK4.out.below hbb)
        have H53 := Lib.hid (HK5.out.below hbb)
        have HM3 := Lib.hid (HMN.out.bl hbb)
        have HH := Lib.hid (hasN_any (R5 + 1) k s (nm.take k) w3 HM3.out hs24)
        clear hb3 hbb HCK HK4 HK5 HMN HBN
        go_wp2_with fail
        refine HH.out.mono ?_
        rintro e w4 ⟨rfl, hw4⟩
        have hb4 : Below w3.heap.size w3 w4 := by rw [hw4]; exact bl_alloc (Below.refl _ _) _
        have HB4 := Lib.hid (bl_trans HB3.out hb4)
        have H44 := Lib.hid (H43.out.below hb4)
        have H54 := Lib.hid (H53.out.below hb4)
        have HM4 := Lib.hid (HM3.out.bl hb4)
        clear hw4 hb4 HH HB3 H43 H53 HM3
        by_cases q : s ∈ nm.take k
        · have HE : Hid (bldE nm l = 6) := by
            have h := HNX.out
            rw [if_pos q] at h
            have h2 := HST.out (by rw [h]; decide)
            show _ = _
            rw [h2, h]
          rw [decide_eq_true q]
          obtain ⟨d0, f0, d5, f5⟩ := bd_cells H44.out H54.out HRR.out.1 (.slice none 0 0)
          clear q HNX HST
          go_wp2_with fail
          refine bd_ret H44.out H54.out HRR.out.1 [] List.nodup_nil (fun D h => by cases h) ?_ ?_ ?_
          · rfl
          · rfl
          exact fun W' ht => BdPost.bad HE.out (by decide) (ht.below (bl_two HB4.out HRR.out.2.1 HRR.out.2.2 _ _) (fun D h => by cases h)) rfl
        · have HE1 : Hid (bnE nm (k + 1) = 0) := by
            have h := HNX.out
            rw [if_neg q] at h
            exact h
          have HAD : Hid (addM (nm.take k) [s] = nm.take (k + 1)) := by
            show _ = _
            rw [HTK.out]
            unfold addM addN
            simp [q]
          rw [decide_eq_false q]
          have HBS := Lib.hid (bl_alloc (Below.refl _ w4) (.cells #[.string s] 9))
          have HPT := Lib.hid (putN_any (R5 + 1) k (nm.take k) (some ⟨w4.heap.size, 0, none⟩) 1 1 [s] (w4.alloc (.cells #[.string s] 9)) (HM4.out.alloc _) rfl (by omega) (by omega) (rd_of_blk4 (cs := fl encS [s]) (Blk.new w4 _ _)) (fun i hi => one_lt (P := fun i => (sA [s] i).size ≤ maxLen) hs24 i hi))
          rw [HAD.out] at HPT
          clear q HNX HST HTK
          go_wp2_with fail
          refine HPT.out.mono ?_
          rintro e w5 ⟨rfl, hm5, hg5⟩
          have hR5b : R5 < w4.heap.size := H54.out.lt
          have H45 : Hid (Blk w5 R4 #[.slice none 0 0] 22) := (H44.out.alloc _).grown hg5 (fun e => by have h1 := Option.some.inj e; have h2 := HR45.out; omega)
          have H55 : Hid (Blk w5 R5 #[.int .i64 0] 24) := (H54.out.alloc _).grown hg5 (fun e => by have := Option.some.inj e; omega)
          have HB5 : Hid (Below w.heap.size w w5) := bl_grown (bl_trans HB4.out HBS.out) hg5 (fun r e => by have h1 := Option.some.inj e; have h2 := HRR.out.2.2; omega)
          have HM5 := Lib.hid hm5
          clear hm5 hg5 HPT
          go_wp2_with fail
          exact ⟨⟨k + 1, by omega, by go_num, HE1, HM5, H45, H55, HB5⟩, by simp [intOf]; omega⟩
    · obtain rfl : k = n := by omega
      have HEB : Hid (bldE nm l = bsE k l m) := by show _ = _; rw [HEA.out, if_neg (by rw [HE0.out]; decide)]
      have hmm := @run_makeMap Tryz.prog
      go_upto_region 16 with fail
      obtain ⟨w3, hw3⟩ : ∃ y, y = wr.alloc (.map #[] 0) := ⟨_, rfl⟩
      obtain ⟨S9, hS9⟩ : ∃ y, y = wr.heap.size := ⟨_, rfl⟩
      have HM3 : Hid (MU w3 S9 0 []) := by
        show MU _ _ _ _
        rw [hw3, hS9]; exact MU.made wr
      have hb3 : Below wr.heap.size wr w3 := by rw [hw3]; exact bl_alloc (Below.refl _ _) _
      have H43 := Lib.hid (HK4.out.below hb3)
      have H53 := Lib.hid (HK5.out.below hb3)
      have HMN3 := Lib.hid (HMN.out.bl hb3)
      have HB3 := Lib.hid (bl_trans HBW.out hb3)
      have HS9 : Hid (S9 < w3.heap.size ∧ R5 + 1 < S9 ∧ R5 < S9) := by
        have h1 := HMN.out.blt
        have h2 := HM3.out.blt
        refine ⟨h2, by omega, by omega⟩
      rw [← hw3, ← hS9]
      clear hw3 hS9 hb3 hmm HK4 HK5 HMN HBW HE0 HEA
      go_wp2_with fail
      refine wp_loop_ghost_k (fun r act W => ∃ (i : Nat) (Ds : List Nat) (u : Nat → Value), r = m - i ∧ i ≤ m ∧ act = { tmps := #[.slice a k c, .slice b m d, u 2, u 3, .pointer (some ⟨R4, 0, none⟩), .pointer (some ⟨R5, 0, none⟩), .map (some (R5 + 1)), u 7, u 8, .map (some S9), u 10, u 11, u 12, u 13, u 14, u 15, u 16, u 17, u 18, u 19, u 20, u 21, u 22, u 23, u 24, u 25, u 26, u 27, u 28, u 29, u 30, u 31, u 32, u 33, u 34, u 35, u 36, u 37, u 38, u 39, u 40, u 41, u 42, .slice b m d, .int .i64 m, .int .i64 i, u 46, u 47, u 48, u 49, u 50, u 51, u 52, u 53, u 54, u 55, u 56, u 57, u 58, u 59, u 60, u 61, u 62, u 63, u 64, u 65, u 66, u 67, u 68, u 69, u 70, u 71, u 72, u 73, u 74, u 75, u 76, u 77, u 78, u 79, u 80, u 81, u 82, u 83, u 84, u 85], defers := dfs Ds } ∧ Hid (BxI w w3 R4 R5 S9 k i nm l Ds W)) m ?start ?round
      case start => exact ⟨0, [], ex_u rfl (by omega) ⟨rfl, HM3.out, by have h := HMN3.out; rwa [List.take_of_length_le (by rw [HL.out]; exact Nat.le_refl _)] at h, H43.out, H53.out, HB3.out, Nat.le_refl _, List.nodup_nil, fun D h => by cases h⟩ rfl⟩
      case round =>
        clear HM3 HMN3 H43 H53 HB3
        rintro r act W ⟨i, Ds, u, rfl, hi, rfl, HI⟩ J' K hJ hK
        by_cases hlt2 : i < m
        · obtain ⟨bB, oB, rfl, _, hc⟩ := rdV (HB.out.bl HI.out.bl) (by rw [HM.out]; omega)
          have c1 := hc i (by rw [HM.out]; exact hlt2)
          have hx := HFV.out i hlt2
          have HNX := Lib.hid (bsE_next HI.out.e)
          have HTK : Hid (l.take (i + 1) = l.take i ++ [vA l i]) := take_snocV (by rw [HM.out]; exact hlt2)
          have HST : Hid (bsE k l (i + 1) ≠ 0 → bldE nm l = bsE k l (i + 1)) := fun h => by
            have h2 := bsE_stop h m (by omega)
            rw [HEB.out, h2]
          clear hc
          generalize vA l i = x at *
          go_upto_region 19 with fail
          obtain ⟨w4, hw4⟩ : ∃ y, y = W.alloc (.cells #[.int .u64 (x : Int)] 41) := ⟨_, rfl⟩
          obtain ⟨BX, hBX⟩ : ∃ y, y = W.heap.size := ⟨_, rfl⟩
          have HX4 : Hid (Blk w4 BX #[.int .u64 (x : Int)] 41) := by
            show Blk _ _ _ _
            rw [hw4, hBX]; exact Blk.new W _ _
          have hb4 : Below W.heap.size W w4 := by rw [hw4]; exact bl_alloc (Below.refl _ _) _
          have HM4 := Lib.hid (HI.out.mu.bl hb4)
          have HN4 := Lib.hid (HI.out.mn.bl hb4)
          have H44 := Lib.hid (HI.out.k4.below hb4)
          have H54 := Lib.hid (HI.out.k5.below hb4)
          have HB4 := Lib.hid (bl_trans HI.out.bl hb4)
          have HND := Lib.hid HI.out.nd
          have HD4 : Hid (∀ D ∈ Ds, w3.heap.size ≤ D ∧ D < BX ∧ w4.heap[D]? = some (Obj.deferred (some []))) := fun D hD => by
            obtain ⟨g1, g2⟩ := HI.out.ds D hD
            have h3 := (Array.getElem?_eq_some_iff.1 g2).1
            exact ⟨g1, by rw [hBX]; exact h3, (hb4.block D h3).trans g2⟩
          have HZ4 : Hid (w3.heap.size ≤ BX ∧ BX < w4.heap.size) := ⟨by rw [hBX]; exact HI.out.z, HX4.out.lt⟩
          rw [← hw4, ← hBX]
          clear hw4 hBX hb4 HI c1
          have c11 : w4.cell? ⟨BX, 0, none⟩ = some (.int .u64 (x : Int)) := HX4.out.cell 0
          by_cases qx : x = 0 ∨ x / 2 ^ k ≠ 0
          · have HE : Hid (bldE nm l = 3) := by
              have h := HNX.out
              rw [if_pos qx] at h
              have h2 := HST.out (by rw [h]; decide)
              show _ = _
              rw [h2, h]
            obtain ⟨d0, f0, d5, f5⟩ := bd_cells H44.out H54.out HRR.out.1 (.slice none 0 0)
            have key : Hid (∀ g1 g2 : Bool, ((x : Int) == 0) = g1 → ((x : Int) / 2 ^ k == 0) = g2 → (g1 = true ∨ g2 = false)) := fun g1 g2 h1 h2 => by
              rcases qx with q | q
              · left; rw [← h1, q]; rfl
              · right; rw [← h2, beq_eq_false_iff_ne]; intro e; exact q (by exact_mod_cast e)
            obtain ⟨g1, hg1⟩ : ∃ g, ((x : Int) == 0) = g := ⟨_, rfl⟩
            obtain ⟨g2, hg2⟩ : ∃ g, ((x : Int) / 2 ^ k == 0) = g := ⟨_, rfl⟩
            have hgg := key.out g1 g2 hg1 hg2
            have hk64 : k < 64 := by omega
            clear qx key HNX HST
            have FIN : Hid (LeavesInM Fence.wide 10 Tryz.prog Tryz.f34 = LeavesInM Fence.wide 10 Tryz.prog Tryz.f34) := rfl
            cases g1
            · obtain rfl : g2 = false := by rcases hgg with h | h; cases h; exact h
              clear hgg FIN
              go_wp2_with fail
              refine bd_ret H44.out H54.out HRR.out.1 Ds HND.out (fun D h => (HD4.out D h).2.2) ?_ ?_ ?_
              · rfl
              · rfl
              exact fun W' ht => BdPost.bad HE.out (by decide) (ht.below (bl_two HB4.out HRR.out.2.1 HRR.out.2.2 _ _) (fun D h => by have h1 := (HD4.out D h).1; have h2 := HS9.out; have h3 := HRR.out.2.2; omega)) rfl
            · clear hgg FIN hg2
              go_wp2_with fail
              refine bd_ret H44.out H54.out HRR.out.1 Ds HND.out (fun D h => (HD4.out D h).2.2) ?_ ?_ ?_
              · rfl
              · rfl
              exact fun W' ht => BdPost.bad HE.out (by decide) (ht.below (bl_two HB4.out HRR.out.2.1 HRR.out.2.2 _ _) (fun D h => by have h1 := (HD4.out D h).1; have h2 := HS9.out; have h3 := HRR.out.2.2; omega)) rfl
          have hx0 : x ≠ 0 := fun e => qx (.inl e)
          have hxL : x / 2 ^ k = 0 := Classical.not_not.1 fun e => qx (.inr e)
          have g1 : ((x : Int) == 0) = false := by rw [beq_eq_false_iff_ne]; omega
          have g2 : ((x : Int) / 2 ^ k == 0) = true := by
            rw [beq_iff_eq]
            exact_mod_cast hxL
          have hk64 : k < 64 := by omega
          have HNX2 : Hid (bsE k l (i + 1) = if fitsB x (l.take i) = false then 8 else 0) := by
            have h := HNX.out
            rw [if_neg qx] at h
            exact h
          have HAL := Lib.hid (allU_any S9 i (addL [] (l.take i)) w4 HM4.out (by have := HM4.out.le; omega))
          have HX0 := Lib.hid hx0
          clear qx hx0 hxL HNX
          go_wp2_with fail
          refine HAL.out.mono ?_
          rintro e w6 ⟨X, a6, c6, rfl, hX6, hBX6, hO6, hb6⟩
          have HX6 := Lib.hid hX6
          have HBX := Lib.hid hBX6
          have HO6 := Lib.hid hO6
          have HB6 := Lib.hid (bl_trans HB4.out hb6)
          have HB46 := Lib.hid hb6
          have HM6 := Lib.hid (HM4.out.bl hb6)
          have HN6 := Lib.hid (HN4.out.bl hb6)
          have H46 := Lib.hid (H44.out.below hb6)
          have H56 := Lib.hid (H54.out.below hb6)
          have HX46 := Lib.hid (HX4.out.below hb6)
          have HD6 : Hid (∀ D ∈ Ds, w3.heap.size ≤ D ∧ D < BX ∧ w6.heap[D]? = some (Obj.deferred (some []))) := fun D hD => by
            obtain ⟨g1, g2, g3⟩ := HD4.out D hD
            exact ⟨g1, g2, (hb6.block D (Array.getElem?_eq_some_iff.1 g3).1).trans g3⟩
          clear hX6 hBX6 hO6 hb6 c11 g1 g2 HAL HM4 HN4 H44 H54 HX4 HD4
          go_wp2_with fail
          refine wp_valsS (a₁ := ?a1) rfl HBX.out HO6.out (sdU_len HM6.out.nd) (by have := HM6.out.le; omega) (fun y hy => HM6.out.lt y ((sdU_mem y _).1 hy)) rfl (fun pre W' => fitsP x pre = true ∧ Below w6.heap.size w6 W') (BdX w R4 R5 x Ds) ?hI ?hIx ⟨rfl, Below.refl _ _⟩ ?assign ?body ?done ?stop
          case hI =>
            rintro pre W1 W2 row ⟨h1, h2⟩ hg hr
            exact ⟨h1, bl_grown h2 hg (fun r e => (hr r e).1)⟩
          case hIx =>
            rintro c0 pre W1 W2 row h hg hr
            refine ⟨h.c, h.f, h.k4.grown hg (fun e => ?_), h.k5.grown hg (fun e => ?_), bl_grown h.bl hg (fun r e => ?_), fun D hD => ?_⟩
            · have h1 := (hr R4 e.symm).1
              have h2 := H46.out.lt
              omega
            · have h1 := (hr R5 e.symm).1
              have h2 := H56.out.lt
              omega
            · have h1 := (hr r e).1
              have h2 := HB6.out.size
              omega
            · have h3 := h.ds D hD
              refine (hg.block D (Array.getElem?_eq_some_iff.1 h3).1 (fun e => ?_)).trans h3
              have h1 := (hr D e.symm).1
              have h2 := (HD6.out D hD).2.1
              have h4 := HZ4.out.2
              have h5 := HB46.out.size
              omega
          case assign =>
            intro r y W0 K0 hK0
            gi_wp2
            repeat (rw [Oper.semAt_some _ _ _ (by intro c h; cases h)]; go_simp; gi_wp2)
            exact hK0
          case stop =>
            rintro D c0 pre W0 hD ⟨q, hq, hpre⟩ hxx hDD
            obtain ⟨rfl, hf, k4, k5, hbl, hds⟩ := hxx
            have HK4 := Lib.hid k4
            have HK5 := Lib.hid k5
            have HBL := Lib.hid hbl
            have HDS := Lib.hid hds
            have HDD := Lib.hid hDD
            have HE : Hid (bldE nm l = 8) := by
              have hfl : fitsB x (l.take i) = false := by
                cases e : fitsB x (l.take i)
                · rfl
                · exfalso
                  unfold fitsB at e
                  rw [List.all_eq_true] at e
                  unfold fitsP at hf
                  rw [List.all_eq_false] at hf
                  obtain ⟨y, hy, hn⟩ := hf
                  rw [hpre] at hy
                  have hy2 := (sdU_mem y _).1 (List.mem_of_mem_take hy)
                  rcases (addL_mem _ _ _).1 hy2 with h | h
                  · cases h
                  · exact hn (e y h)
              have h := HNX2.out
              rw [if_pos hfl] at h
              have h2 := HST.out (by rw [h]; decide)
              show _ = _
              rw [h2, h]
            clear k4 k5 hbl hds hDD hf hpre
            go_wp2_with fail
            refine bd_ret2 (Ds := D :: Ds) HK4.out HK5.out (List.nodup_cons.2 ⟨fun hm => ?_, HND.out⟩) (fun D' hD' => ?_) ?_ ?_ ?_
            · have h1 := (HD6.out D hm).2.1
              have h2 := HZ4.out.2
              have h3 := HB46.out.size
              omega
            · rcases List.mem_cons.1 hD' with rfl | hD'
              · exact HDD.out
              · exact HDS.out D' hD'
            · rfl
            · rfl
            refine fun W' ht => BdPost.bad HE.out (by decide) (ht.below HBL.out (fun D' hD' => ?_)) rfl
            rcases List.mem_cons.1 hD' with rfl | hD'
            · have h1 := HB6.out.size; omega
            · have h1 := (HD6.out D' hD').1; have h2 := HS9.out; have h3 := HRR.out.2.2; omega
          case done =>
            rintro D xs W0 hD hxs ⟨hfit, hbl⟩ hDD
            have HE1 : Hid (bsE k l (i + 1) = 0) := by
              have hfl : fitsB x (l.take i) = true := by
                unfold fitsP at hfit
                rw [hxs] at hfit
                unfold fitsB
                rw [← hfit]
                refine fits_set fun y => ?_
                rw [sdU_mem, addL_mem]
                exact ⟨fun h => .inr h, fun h => h.resolve_left (by simp)⟩
              have h := HNX2.out
              rw [if_neg (by rw [hfl]; decide)] at h
              exact h
            have HBL := Lib.hid hbl
            have HDD := Lib.hid hDD
            have HM0 := Lib.hid (HM6.out.bl hbl)
            have HN0b := Lib.hid (HN6.out.bl hbl)
            have H40 := Lib.hid (H46.out.below hbl)
            have H50 := Lib.hid (H56.out.below hbl)
            have HX0c : W0.cell? ⟨BX, 0, none⟩ = some (.int .u64 (x : Int)) := (HX46.out.below hbl).cell 0
            have HBA := Lib.hid (bl_alloc (Below.refl _ W0) (.cells #[.int .u64 (x : Int)] 41))
            have HPT := Lib.hid (putU_any S9 i (addL [] (l.take i)) (some ⟨W0.heap.size, 0, none⟩) 1 1 [x] (W0.alloc (.cells #[.int .u64 (x : Int)] 41)) (HM0.out.alloc _) rfl (by omega) (by omega) (rd_of_blk4 (cs := fl encV [x]) (Blk.new W0 _ _)) (fun j hj => one_lt (P := fun j => vA [x] j < 18446744073709551616) hx j hj))
            clear hxs hfit hbl hDD
            simp only [Exit.inBlock, Exit.then]
            go_wp2_with fail
            refine HPT.out.mono ?_
            rintro e W5 ⟨rfl, hm5, hg5⟩
            have hS9b : S9 < w3.heap.size := HS9.out.1
            have HIN : Hid (BxI w w3 R4 R5 S9 k (i + 1) nm l (D :: Ds) W5) := by
              have hz6 := HB46.out.size
              have hz0 := HBL.out.size
              have hz4 := HZ4.out
              have hr5 := HS9.out
              have h45 := HR45.out
              refine ⟨HE1.out, ?_, ?_, (H40.out.alloc _).grown hg5 (fun e => by have h1 := Option.some.inj e; omega), (H50.out.alloc _).grown hg5 (fun e => by have h1 := Option.some.inj e; omega), bl_grown (bl_trans (bl_trans HB6.out HBL.out) HBA.out) hg5 (fun r e => by have h1 := Option.some.inj e; have h2 := HRR.out.2.2; omega), ?_, ?_, ?_⟩
              · rw [HTK.out, addL_snoc]
                exact hm5
              · exact (HN0b.out.alloc _).kept hg5 (fun e => by have h1 := Option.some.inj e; omega)
              · have h1 := hg5.size
                have h2 := HBA.out.size
                omega
              · refine List.nodup_cons.2 ⟨fun hm => ?_, HND.out⟩
                have h1 := (HD6.out D hm).2.1
                omega
              · intro D' hD'
                have keyD : ∀ D', D' < W0.heap.size → D' ≠ S9 → W0.heap[D']? = some (Obj.deferred (some [])) → W5.heap[D']? = some (Obj.deferred (some [])) := fun D' hl hne hd =>
                  (hg5.block D' (by have := HBA.out.size; omega) (fun e => hne (Option.some.inj e))).trans ((HBA.out.block D' hl).trans hd)
                rcases List.mem_cons.1 hD' with rfl | hD'
                · have h1 := (Array.getElem?_eq_some_iff.1 HDD.out).1
                  exact ⟨by omega, keyD _ h1 (by omega) HDD.out⟩
                · obtain ⟨g1, g2, g3⟩ := HD6.out D' hD'
                  have g4 := (HBL.out.block D' (by omega)).trans g3
                  exact ⟨g1, keyD D' (by omega) (by omega) g4⟩
            clear hm5 hg5 HPT
            go_wp2_with fail
            exact Handed.intro (m - (i + 1)) (by omega) (hJ _ _ _ ⟨i + 1, D :: Ds, ex_u rfl (by omega) HIN rfl⟩)
          case body =>
            rintro r pre ⟨y, hy⟩ W0 ⟨hfit, hbl⟩ hlen
            have HBL := Lib.hid hbl
            have c11 : W0.cell? ⟨BX, 0, none⟩ = some (.int .u64 (x : Int)) := (HX46.out.below hbl).cell 0
            have HFI : Hid (fitsP x (pre ++ [⟨y, hy⟩]) = fitB x y) := by
              show _ = _
              rw [fitsP_snoc, hfit]; rfl
            have H40 := Lib.hid (H46.out.below hbl)
            have H50 := Lib.hid (H56.out.below hbl)
            have hba := bits_and hx hy
            have HFB : Hid (fitB x y = (decide (x &&& y = 0) || decide (x &&& y = x) || decide (x &&& y = y))) := rfl
            obtain ⟨z, hz⟩ : ∃ z, z = x &&& y := ⟨_, rfl⟩
            rw [← hz] at hba HFB
            clear hbl hfit hlen hz
            dsimp only
            by_cases q1 : z = 0
            · have HOK : Hid (fitsP x (pre ++ [⟨y, hy⟩]) = true) := by show _ = _; rw [HFI.out, HFB.out, decide_eq_true q1]; rfl
              subst q1
              have hba0 : bits BinOp.and IntKind.u64 (x : Int) (y : Int) = 0 := hba
              clear hba HFI HFB
              gi_wp2
              exact ⟨(KeepsOthers.refl _).from _, KpV.refl _ _ _, HOK.out, HBL.out⟩
            · have t1 : ((z : Int) == 0) = false := by rw [beq_eq_false_iff_ne]; omega
              by_cases q2 : z = x
              · have t2 : ((z : Int) == (x : Int)) = true := by rw [q2]; exact beq_self_eq_true _
                have HOK : Hid (fitsP x (pre ++ [⟨y, hy⟩]) = true) := by show _ = _; rw [HFI.out, HFB.out, decide_eq_true q2]; simp
                clear HFI HFB
                gi_wp2
                exact ⟨(KeepsOthers.refl _).from _, KpV.refl _ _ _, HOK.out, HBL.out⟩
              · have t2 : ((z : Int) == (x : Int)) = false := by rw [beq_eq_false_iff_ne]; omega
                by_cases q3 : z = y
                · have t3 : ((z : Int) == (y : Int)) = true := by rw [q3]; exact beq_self_eq_true _
                  have n1 : ((z : Int) != 0) = true := by unfold bne; rw [t1]; rfl
                  have n2 : ((z : Int) != (x : Int)) = true := by unfold bne; rw [t2]; rfl
                  have n3 : ((z : Int) != (y : Int)) = false := by unfold bne; rw [t3]; rfl
                  have HOK : Hid (fitsP x (pre ++ [⟨y, hy⟩]) = true) := by show _ = _; rw [HFI.out, HFB.out, decide_eq_true q3]; simp
                  clear HFI HFB
                  gi_wp2
                  exact ⟨(KeepsOthers.refl _).from _, KpV.refl _ _ _, HOK.out, HBL.out⟩
                · have t3 : ((z : Int) == (y : Int)) = false := by rw [beq_eq_false_iff_ne]; omega
                  have n1 : ((z : Int) != 0) = true := by unfold bne; rw [t1]; rfl
                  have n2 : ((z : Int) != (x : Int)) = true := by unfold bne; rw [t2]; rfl
                  have n3 : ((z : Int) != (y : Int)) = true := by unfold bne; rw [t3]; rfl
                  have HNO : Hid (fitsP x (pre ++ [⟨y, hy⟩]) = false) := by show _ = _; rw [HFI.out, HFB.out, decide_eq_false q1, decide_eq_false q2, decide_eq_false q3]; rfl
                  obtain ⟨d0, f0, d5, f5⟩ := bd_cells H40.out H50.out HRR.out.1 (.slice none 0 0)
                  clear HFI HFB
                  gi_wp2
                  have hlt4 := H46.out.lt
                  have hlt5 := H56.out.lt
                  refine ⟨((KeepsOthers.setCell _ _ _).trans (KeepsOthers.setCell _ _ _)).from _, rfl, HNO.out, ?_, ?_, ?_, fun D hD => ?_⟩
                  · have h := (H40.out.set 0 (.slice none 0 0)).other (show R4 ≠ R5 from HRR.out.1.symm) 0 (.int .i64 8)
                    simpa using h
                  · have h := (H50.out.other (show R5 ≠ R4 from HRR.out.1) 0 (.slice none 0 0)).set 0 (.int .i64 8)
                    simpa using h
                  · exact bl_two (bl_trans HB6.out HBL.out) HRR.out.2.1 HRR.out.2.2 _ _
                  · obtain ⟨g1, g2, g3⟩ := HD6.out D hD
                    have g4 := (HBL.out.block D (by have := HZ4.out.2; have := HB46.out.size; omega)).trans g3
                    have h9 := HS9.out
                    have h45 := HR45.out
                    exact (Below.heap_setCell _ ⟨R5, 0, none⟩ _ D (show D ≠ R5 by omega)).trans ((Below.heap_setCell _ ⟨R4, 0, none⟩ _ D (show D ≠ R4 by omega)).trans g4)
        · obtain rfl : i = m := by omega
          have HEZ : Hid (bldE nm l = 0) := by show _ = _; rw [HEB.out]; exact HI.out.e
          have HIN := Lib.hid (bd_in HEZ.out)
          have hle := HI.out.mn.le
          have HAL := Lib.hid (allN_any (R5 + 1) k nm W HI.out.mn (by omega))
          go_wp2_with fail
          refine HAL.out.mono ?_
          rintro e w5 ⟨X, a5, c5, rfl, hX5, hBX5, hO5, hb5⟩
          have HCV := Lib.hid (colValsN_any X nm.length c5 W.heap.size a5 (srtB nm) w5 (srtB_len nm) (by omega) hBX5 hO5)
          have HB5 := Lib.hid hb5
          clear hX5 hBX5 hO5 hb5 HAL
          go_wp2_with fail
          refine HCV.out.mono ?_
          rintro e w6 ⟨v6, rfl, ho6, hb6⟩
          obtain ⟨a6, c6, rfl⟩ := owns_sl ho6
          have HB6 := Lib.hid (bl_trans HB5.out hb6)
          have HBW6 := Lib.hid (bl_trans HI.out.bl HB6.out)
          have hls : (srtB nm).length = nm.length := srtB_len nm
          have HTB := Lib.hid (tbuild_any a6 nm.length c6 (srtB nm) S9 i (addL [] (l.take i)) (bdF nm.length l) w6 hls (by rw [HL.out]; exact HN0.out) (by rw [HL.out]; exact hn32) (rd_of_owns ho6)
            (fun s hs => (nm_ok (HIN.out.ok s hs)).1) (fun s hs => (nm_ok (HIN.out.ok s hs)).2) HIN.out.nd (HI.out.mu.bl HB6.out) (by omega) (by have h := HIN.out.hier; rw [hls] at h; exact h)
            (fun x => by
              rw [bdF_mem]
              unfold famP
              rw [addL_mem, List.take_of_length_le (by rw [HM.out]; exact Nat.le_refl _)]
              simp) (HZ.out.bl HBW6.out))
          rw [show grw (srtB nm) (bdF nm.length l) 64 (2 ^ nm.length - 1) (-1) ([], 0) = grw (srtB nm) (bdF nm.length l) 64 (2 ^ (srtB nm).length - 1) (-1) ([], 0) by rw [hls]] at HTB
          have H46 := Lib.hid (HI.out.k4.below HB6.out)
          have H56 := Lib.hid (HI.out.k5.below HB6.out)
          have hnk : nm.length = k := HL.out
          rw [hnk] at HTB ⊢
          clear ho6 hb6 HCV hls hnk
          go_wp2_with fail
          refine HTB.out.mono ?_
          rintro e w7 ⟨v7, rfl, ho7, hb7⟩
          obtain ⟨a7, c7, rfl⟩ := owns_sl ho7
          obtain ⟨N7, hN7⟩ : ∃ y, y = (grw (srtB nm) (bdF k l) 64 (2 ^ (srtB nm).length - 1) (-1) ([], 0)).1.length := ⟨_, rfl⟩
          rw [← hN7] at ho7 ⊢
          have HNE := Lib.hid hN7
          clear hN7
          have HO7 := Lib.hid ho7
          have HB7 := Lib.hid (bl_trans HBW6.out hb7)
          have HB67 := Lib.hid (bl_trans HB6.out hb7)
          have H47 := Lib.hid (H46.out.below hb7)
          have H57 := Lib.hid (H56.out.below hb7)
          have HD7 : Hid (∀ D ∈ Ds, w3.heap.size ≤ D ∧ w7.heap[D]? = some (Obj.deferred (some []))) := fun D hD => by
            obtain ⟨g1, g2⟩ := HI.out.ds D hD
            exact ⟨g1, (HB67.out.block D (Array.getElem?_eq_some_iff.1 g2).1).trans g2⟩
          obtain ⟨d0, f0, d5, f5⟩ := bd_cells H47.out H57.out HRR.out.1 (.slice a7 N7 c7)
          clear ho7 hb7 HTB
          go_wp2_with fail
          refine bd_ret H47.out H57.out HRR.out.1 Ds HI.out.nd (fun D h => (HD7.out D h).2) ?_ ?_ ?_
          · rfl
          · rfl
          intro W' ht
          have hwz := HBW6.out.size
          refine ⟨ht.below (bl_two HB7.out HRR.out.2.1 HRR.out.2.2 _ _) (fun D h => by have h1 := (HD7.out D h).1; have h2 := HS9.out; have h3 := HRR.out.2.2; omega), .inr ⟨HEZ.out, .slice a7 N7 c7, rfl, ?_⟩⟩
          have hv4 : (Value.slice a7 N7 c7).ownBlock ≠ some R4 := fun e => by
            have h1 := (HO7.out.lt R4 e).1
            have h2 := H46.out.lt
            omega
          have hv5 : (Value.slice a7 N7 c7).ownBlock ≠ some R5 := fun e => by
            have h1 := (HO7.out.lt R5 e).1
            have h2 := H56.out.lt
            omega
          have h := ownsRow_setCell_other (a := ⟨R5, 0, none⟩) (ownsRow_setCell_other (a := ⟨R4, 0, none⟩) HO7.out hv4 (.slice a7 N7 c7)) hv5 (.int .i64 0)
          have h := ht.owns (fun D hD => ?_) h
          · have h := owns_base4 h hwz
            rw [HNE.out] at h
            rw [HNE.out, HL.out]
            exact h
          · obtain ⟨g1, g2⟩ := HD7.out D hD
            have h9 := HS9.out
            have h45 := HR45.out
            exact (Below.heap_setCell _ ⟨R5, 0, none⟩ _ D (show D ≠ R5 by omega)).trans ((Below.heap_setCell _ ⟨R4, 0, none⟩ _ D (show D ≠ R4 by omega)).trans g2)
end Go.Proofs.YtfgkjofdgohacaaGreatDoor
namespace Go.Proofs.YtfgkjofdgohacaaGreatDoor
open Go Go.RowKit Go.Shelf Go.Maps
theorem bnE_of {nm : List ByteArray} (h1 : ∀ s, s ∈ nm → nmB s = true) (h2 : nm.Nodup) : ∀ k, k ≤ nm.length → bnE nm k = 0
  | 0, _ => rfl
  | k + 1, hk => by
    rw [bnE_next (bnE_of h1 h2 k (by omega))]
    have hm : sA nm k ∈ nm := sA_mem (by omega)
    rw [if_neg (by rw [h1 _ hm]; decide), if_neg]
    intro h
    obtain ⟨i, hi, e⟩ := List.getElem_of_mem h
    rw [List.getElem_take] at e
    rw [List.length_take] at hi
    have e2 : sA nm k = nm[k]'(by omega) := by simp [sA, show k < nm.length by omega]
    rw [e2] at e
    have := (List.getElem_inj h2).1 e
    omega
theorem bsE_of {L : Nat} {l : List Nat} (h1 : ∀ x, x ∈ l → x ≠ 0 ∧ x < 2 ^ L) (h2 : ∀ x y, x ∈ l → y ∈ l → fitB x y = true) : ∀ k, k ≤ l.length → bsE L l k = 0
  | 0, _ => rfl
  | k + 1, hk => by
    rw [bsE_next (bsE_of h1 h2 k (by omega))]
    have hm : vA l k ∈ l := vA_mem4 (by omega)
    obtain ⟨a, b⟩ := h1 _ hm
    rw [if_neg, if_neg]
    · intro h
      have h3 : fitsB (vA l k) (l.take k) = true := by
        unfold fitsB
        rw [List.all_eq_true]
        exact fun y hy => h2 _ _ hm (List.mem_of_mem_take hy)
      rw [h3] at h; cases h
    · rintro (h | h)
      · exact a h
      · exact h (Nat.div_eq_of_lt b)
theorem srtB_id {nm : List ByteArray} (h : nm.Pairwise LtB) : srtB nm = nm :=
  srtB_ext (srtB_pw (h.imp fun h e => by rw [e] at h; exact LtB.irr _ h)) h fun s => srtB_mem s nm
/-- What the law on building back looks at. -/
structure BkOk (t B : List Nd) : Prop where
  ok : TreeOk B
  bd : bldE (nmsL t) (clsL t) = 0
  eqB : bldT (srtB (nmsL t)) (bdF (nmsL t).length (clsL t)) = B
  two : twoE t B = 0
  sm : smV t B = true
  ds : dstV t B = 0
  tr : triV t B = 0
  ce : cnE 1 (fun _ => t) = 0
  st : cnT (cnF 1 (fun _ => t) fun k => decide (k = 1)) t = B
  mj : cnT (cnF 1 (fun _ => t) fun k => decide (1 < 2 * k)) t = B
  len : B.length = (clsL t).length
theorem bk_ok {t : List Nd} (hok : TreeOk t) (h32 : (lvT t).length ≤ 32) : ∃ B, BkOk t B := by
  have hH := cls_hier (t := t) rfl hok
  have hL : (nmsL t).length = (lvT t).length := nmsL_len t
  have hin : BlIn (nmsL t) (clsL t) := ⟨by rw [hL]; exact hH, by rw [hL]; exact lvT_pos hok, by rw [hL]; exact h32, nms_pw rfl hok, fun s hs => nms_nm hok hs⟩
  have hF : bdF (nmsL t).length (clsL t) = clsL t := by
    refine sd_ext (sdU_pw _) (cls_pw t) fun x => ?_
    rw [bdF_mem, hL]
    constructor
    · rintro (rfl | ⟨k, hk, rfl⟩ | h)
      · exact hH.all
      · exact hH.one k hk
      · exact h
    · intro h; exact .inr (.inr h)
  have hbd : bldE (nmsL t) (clsL t) = 0 := by
    unfold bldE
    rw [if_neg (by rw [hL]; omega), if_neg (by rw [hL]; have := lvT_pos hok; omega), if_neg (by rw [bnE_of (fun s hs => nms_nm hok hs) hin.nd _ (Nat.le_refl _)]; decide)]
    exact bsE_of (fun x hx => ⟨hH.ne x hx, by rw [hL]; exact hH.lt x hx⟩) hH.fit _ (Nat.le_refl _)
  have hce : cnE 1 (fun _ => t) = 0 := by
    unfold cnE
    rw [if_neg (by omega), if_neg (by omega), if_neg (by rw [shE_ok fun _ _ => hok]; decide), if_neg (show ¬ 32 < (lvT t).length by omega)]
    exact alE_ok fun _ _ => rfl
  have hv : ∀ x, vtC (fun _ => setU t) 1 x = if x ∈ clsL t then 1 else 0 := fun x => by
    rw [vtC_succ, vtC_zero]
    by_cases h : x ∈ clsL t
    · rw [if_pos ((setU_mem t x).2 h), if_pos h]
    · rw [if_neg fun h2 => h ((setU_mem t x).1 h2), if_neg h]
  have hcn : ∀ p : Nat → Bool, p 1 = true → cnF 1 (fun _ => t) p = clsL t := fun p hp => by
    refine sd_ext (sdU_pw _) (cls_pw t) fun x => ?_
    rw [cnF_mem, hv]
    constructor
    · rintro (rfl | ⟨k, hk, rfl⟩ | ⟨h1, _⟩)
      · exact hH.all
      · exact hH.one k hk
      · by_cases h : x ∈ clsL t
        · exact h
        · rw [if_neg h] at h1; exact absurd rfl h1
    · intro h
      refine .inr (.inr ?_)
      rw [if_pos h]
      exact ⟨by decide, hp⟩
  have htwo : twoE t (bldT (nmsL t) (clsL t)) = 0 := twoE_zero.2 ⟨hok, hin.tok, hin.nml.symm⟩
  have hds : dstV t (bldT (nmsL t) (clsL t)) = 0 := (two_cls htwo).2 hin.cls.symm
  refine ⟨bldT (nmsL t) (clsL t), hin.tok, hbd, by rw [hF, srtB_id (nms_pw rfl hok)], htwo, ?_, hds, (triV_zero htwo).2 hds, hce, ?_, ?_, by rw [hin.tlen, hin.plen]⟩
  · rw [smV_eq htwo, hds]; rfl
  · rw [cnT_bld, hcn _ (by decide)]
  · rw [cnT_bld, hcn _ (by decide)]
end Go.Proofs.YtfgkjofdgohacaaGreatDoor
namespace Go.Proofs.YtfgkjofdgohacaaGreatDoor
open Go Go.RowKit Go.Shelf Go.Maps
theorem nms_sz {t : List Nd} (hok : TreeOk t) : ∀ i, i < (nmsL t).length → (sA (nmsL t) i).size ≤ 9223372036854775807 := fun i hi => by
  have h := (nms_in hok (sA_mem hi)).2
  omega
theorem cls_b64 {t : List Nd} (hok : TreeOk t) : ∀ i, i < (clsL t).length → vA (clsL t) i < 18446744073709551616 := fun i hi => by
  rw [vA_get hi]
  have h1 := (cls_hier (t := t) rfl hok).lt _ (List.getElem_mem hi)
  have h64 : 2 ^ (lvT t).length ≤ 2 ^ 63 := Nat.pow_le_pow_right (by omega) (lvT_le63 hok)
  omega
set_option maxRecDepth 100000 in
set_option maxHeartbeats 8000000 in
theorem back_any (a : Option Addr) (n c : Nat) (t : List Nd) (w : World) (hn : t.length = n) (hN : n ≤ 1152921504606846976) (hA : Rd w a (fl encNd t)) (hS : ∀ v, v < n → (nS t v).size ≤ 9223372036854775807) (hZ : TzG w) :
    Calls Tryz.prog 11 #[.slice a n c] w fun e w' => e = .returned (.bool true) ∧ Below w.heap.size w w' := by
  have ENDW : Hid (∀ W, Below w.heap.size w W → Calls Tryz.prog 14 #[] W fun e w' => e = .returned (.bool true) ∧ Below w.heap.size w w') := fun W hb => (works_any W (hZ.bl hb)).mono fun e w' h => ⟨h.1, bl_trans hb h.2⟩
  have HCK := Lib.hid (check_any a n c t w hn hN hA hS)
  by_cases q1 : 63 < n
  · have d1 : decide (63 < (n : Int)) = true := decide_eq_true (by omega)
    clear HCK hA hS hZ hn q1
    go_enter Tryz.func11, Tryz.ntmps11
    go_wp2_with fail
    refine (ENDW.out _ (Below.refl _ _)).mono ?_
    rintro e w3 ⟨rfl, hb3⟩
    go_wp2_with fail
    go_ret
    exact ⟨rfl, hb3⟩
  have d1 : decide (63 < (n : Int)) = false := decide_eq_false (by omega)
  by_cases hok : TreeOk t
  case neg =>
    rw [show chkE t = 16 from if_neg hok] at HCK
    clear hA hS hZ hn q1 hok
    go_enter Tryz.func11, Tryz.ntmps11
    go_wp2_with fail
    refine HCK.out.mono ?_
    rintro e w2 ⟨rfl, hb2⟩
    have HB2 := Lib.hid hb2
    clear hb2 HCK
    go_wp2_with fail
    refine (ENDW.out _ HB2.out).mono ?_
    rintro e w3 ⟨rfl, hb3⟩
    go_wp2_with fail
    go_ret
    exact ⟨rfl, hb3⟩
  have hn63 : n ≤ 63 := by omega
  rw [chkE_good hok] at HCK
  have C2 : Hid (∀ W, Below w.heap.size w W → _) := fun W hb => wleaves_any a n c t W hn (hA.bl hb) hS hok
  have hL0 := lvT_pos hok
  by_cases q2 : 32 < (lvT t).length
  · have d2 : decide (32 < ((lvT t).length : Int)) = true := decide_eq_true (by omega)
    have d3 : (((lvT t).length : Int) == 0) = false := by rw [beq_eq_false_iff_ne]; omega
    have pn2 : ¬ (lvT t).length = 0 := by omega
    generalize (lvT t).length = L at *
    clear hA hS hZ hn q1 q2 hok hL0
    go_enter Tryz.func11, Tryz.ntmps11
    go_wp2_with fail
    refine HCK.out.mono ?_
    rintro e w2 ⟨rfl, hb2⟩
    have HB2 := Lib.hid hb2
    clear hb2 HCK
    go_wp2_with fail
    refine (C2.out _ HB2.out).mono ?_
    rintro e w3 ⟨v3, rfl, ho3, hb3⟩
    obtain ⟨a3, c3, rfl⟩ := owns_sl ho3
    have HB3 := Lib.hid (bl_trans HB2.out hb3)
    clear ho3 hb3 C2
    go_wp2_with fail
    refine (ENDW.out _ HB3.out).mono ?_
    rintro e w4 ⟨rfl, hb4⟩
    go_wp2_with fail
    go_ret
    exact ⟨rfl, hb4⟩
  obtain ⟨B, hBK⟩ := bk_ok hok (by omega)
  have C1 : Hid (∀ W, Below w.heap.size w W → _) := fun W hb => clades_any a n c t W hn hN (hA.bl hb) hS
  rw [chkE_good hok, clsE_ok hok] at C1
  have HLN : (nmsL t).length = (lvT t).length := nmsL_len t
  have C3 : Hid (∀ W a2 c2 a3 c3, Below w.heap.size w W → Rd W a2 (fl encS (nmsL t)) → Rd W a3 (fl encV (clsL t)) → _) := fun W a2 c2 a3 c3 hb h2 h3 => build_any a2 a3 (lvT t).length c2 (clsL t).length c3 (nmsL t) (clsL t) W HLN rfl (by omega) (by have := cls_len t; omega) h2 h3 (by rw [← HLN]; exact nms_sz hok) (cls_b64 hok) (hZ.bl hb)
  have hB63 : B.length ≤ 63 := hBK.ok.2.1
  have C4 : Hid (∀ W a2 c2, Below w.heap.size w W → Rd W a2 (fl encNd B) → _) := fun W a2 c2 hb h2 => same_any a a2 n c B.length c2 t B W hn rfl hN (by omega) (hA.bl hb) h2 hS (tok_sz hBK.ok)
  have C5 : Hid (∀ W a2 c2, Below w.heap.size w W → Rd W a2 (fl encNd B) → _) := fun W a2 c2 hb h2 => dist_any a a2 n c B.length c2 t B W hn rfl hN (by omega) (hA.bl hb) h2 hS (tok_sz hBK.ok)
  have C6 : Hid (∀ W a2 c2, Below w.heap.size w W → Rd W a2 (fl encNd B) → _) := fun W a2 c2 hb h2 => triples_any a a2 n c B.length c2 t B W hn rfl hN (by omega) (hA.bl hb) h2 hS (tok_sz hBK.ok)
  rw [hBK.sm, hBK.two] at C4
  rw [hBK.ds, hBK.two] at C5
  rw [hBK.tr, hBK.two] at C6
  have HA := Lib.hid hA
  have HS := Lib.hid hS
  have HZ := Lib.hid hZ
  have hn2 := hn
  subst hn2
  have C7 : Hid (∀ W, Below w.heap.size w W → Calls Tryz.prog 21 #[.slice (some ⟨W.heap.size, 0, none⟩) 1 1] (W.alloc (.cells #[.slice a t.length c] 22)) fun e w' => ∃ v, e = .returned (.tuple #[v, .int .i64 0]) ∧ w'.ownsRow (W.alloc (.cells #[.slice a t.length c] 22)).heap.size 56 2 v B.length (fl encNd B) ∧ Below W.heap.size W w') := fun W hb => by
    have hb2 := bl_alloc hb (.cells #[.slice a t.length c] 22)
    refine (strict_any (some ⟨W.heap.size, 0, none⟩) 1 1 (fun _ => t) [(a, t.length, c)] _ _ (by omega) (trsIn_one (Blk.new W _ _) (by omega) (HA.out.bl hb2) HS.out) (cnH_strict 1 _) (HZ.out.bl hb2)).mono ?_
    rintro e w' ⟨h1, ⟨h2, _⟩ | ⟨_, v, rfl, ho⟩⟩
    · exact absurd hBK.ce h2
    · rw [hBK.st] at ho
      exact ⟨v, rfl, ho, bl_trans (bl_alloc (Below.refl _ W) _) h1⟩
  have C8 : Hid (∀ W, Below w.heap.size w W → Calls Tryz.prog 23 #[.slice (some ⟨W.heap.size, 0, none⟩) 1 1] (W.alloc (.cells #[.slice a t.length c] 22)) fun e w' => ∃ v, e = .returned (.tuple #[v, .int .i64 0]) ∧ w'.ownsRow (W.alloc (.cells #[.slice a t.length c] 22)).heap.size 56 2 v B.length (fl encNd B) ∧ Below W.heap.size W w') := fun W hb => by
    have hb2 := bl_alloc hb (.cells #[.slice a t.length c] 22)
    refine (majority_any (some ⟨W.heap.size, 0, none⟩) 1 1 (fun _ => t) [(a, t.length, c)] _ _ (by omega) (trsIn_one (Blk.new W _ _) (by omega) (HA.out.bl hb2) HS.out) (cnH_major 1 _) (HZ.out.bl hb2)).mono ?_
    rintro e w' ⟨h1, ⟨h2, _⟩ | ⟨_, v, rfl, ho⟩⟩
    · exact absurd hBK.ce h2
    · rw [hBK.mj] at ho
      exact ⟨v, rfl, ho, bl_trans (bl_alloc (Below.refl _ W) _) h1⟩
  have HBK := Lib.hid hBK
  have hBC := hBK.len
  obtain ⟨bl0, hbl0⟩ : ∃ k, k = B.length := ⟨_, rfl⟩
  rw [← hbl0] at C4 C5 C6 C7 C8 hB63 hBC
  rw [← hBC] at C1 C3
  have HBL := Lib.hid hbl0.symm
  generalize hLL : (lvT t).length = L at *
  generalize hnn : t.length = n at *
  have d2 : decide (32 < (L : Int)) = false := decide_eq_false (by omega)
  have d3 : ((L : Int) == 0) = false := by rw [beq_eq_false_iff_ne]; omega
  have pn2 : ¬ L = 0 := by omega
  clear hA hS hZ q1 q2 hok hL0 hBK hBC HLN hLL hnn hn hbl0
  go_enter Tryz.func11, Tryz.ntmps11
  go_wp2_with fail
  refine HCK.out.mono ?_
  rintro e w2 ⟨rfl, hb2⟩
  have HB2 := Lib.hid hb2
  clear hb2 HCK
  go_wp2_with fail
  refine (C2.out _ HB2.out).mono ?_
  rintro e w3 ⟨v3, rfl, ho3, hb3⟩
  obtain ⟨a3, c3, rfl⟩ := owns_sl ho3
  have HN3 := Lib.hid (rd_of_owns ho3)
  have HB3 := Lib.hid (bl_trans HB2.out hb3)
  clear ho3 hb3 C2 HB2
  go_wp2_with fail
  refine (C1.out _ HB3.out).mono ?_
  rintro e w4 ⟨v4, rfl, ho4, hb4⟩
  obtain ⟨a4, c4, rfl⟩ := owns_sl ho4
  have HC4 := Lib.hid (rd_of_owns ho4)
  have HN4 := Lib.hid (HN3.out.bl hb4)
  have HB4 := Lib.hid (bl_trans HB3.out hb4)
  clear ho4 hb4 C1 HB3 HN3
  go_wp2_with fail
  refine (C3.out _ a3 c3 a4 c4 HB4.out HN4.out HC4.out).mono ?_
  rintro e w5 ⟨hb5, ⟨hz, _⟩ | ⟨_, v5, rfl, ho5⟩⟩
  · exact absurd HBK.out.bd hz
  rw [HBK.out.eqB, HBL.out] at ho5
  obtain ⟨a5, c5, rfl⟩ := owns_sl ho5
  have HU5 := Lib.hid (rd_of_owns ho5)
  have HB5 := Lib.hid (bl_trans HB4.out hb5)
  clear ho5 hb5 C3 HB4 HN4 HC4
  go_wp2_with fail
  refine (C4.out _ a5 c5 HB5.out HU5.out).mono ?_
  rintro e w6 ⟨rfl, hb6⟩
  have HU6 := Lib.hid (HU5.out.bl hb6)
  have HB6 := Lib.hid (bl_trans HB5.out hb6)
  clear hb6 C4 HB5 HU5
  go_wp2_with fail
  refine (C7.out _ HB6.out).mono ?_
  rintro e w7 ⟨v7, rfl, ho7, hb7⟩
  obtain ⟨a7, c7, rfl⟩ := owns_sl ho7
  have HS7 := Lib.hid (rd_of_owns ho7)
  have HU7 := Lib.hid (HU6.out.bl hb7)
  have HB7 := Lib.hid (bl_trans HB6.out hb7)
  clear ho7 hb7 C7 HB6 HU6
  go_wp2_with fail
  refine (C8.out _ HB7.out).mono ?_
  rintro e w8 ⟨v8, rfl, ho8, hb8⟩
  obtain ⟨a8, c8, rfl⟩ := owns_sl ho8
  have HM8 := Lib.hid (rd_of_owns ho8)
  have HU8 := Lib.hid (HU7.out.bl hb8)
  have HS8 := Lib.hid (HS7.out.bl hb8)
  have HB8 := Lib.hid (bl_trans HB7.out hb8)
  clear ho8 hb8 C8 HB7 HU7 HS7
  go_wp2_with fail
  refine (C5.out _ a7 c7 HB8.out HS8.out).mono ?_
  rintro e w9 ⟨rfl, hb9⟩
  have HU9 := Lib.hid (HU8.out.bl hb9)
  have HS9 := Lib.hid (HS8.out.bl hb9)
  have HM9 := Lib.hid (HM8.out.bl hb9)
  have HB9 := Lib.hid (bl_trans HB8.out hb9)
  clear hb9 C5 HB8 HU8 HS8 HM8
  go_wp2_with fail
  refine (C6.out _ a8 c8 HB9.out HM9.out).mono ?_
  rintro e w10 ⟨rfl, hb10⟩
  have HU := Lib.hid (HU9.out.bl hb10)
  have HSS := Lib.hid (HS9.out.bl hb10)
  have HMM := Lib.hid (HM9.out.bl hb10)
  have HB10 := Lib.hid (bl_trans HB9.out hb10)
  clear hb10 C6 HB9 HU9 HS9 HM9 d1 d2 d3 pn2
  go_wp2_with fail
  go_loopw [18] (fun y wr => ∃ k : Nat, k ≤ bl0 ∧ y = .int .i64 k ∧ ∃ q, wr = w10.drewN q) (fun y _ => bl0 - (intOf y).toNat)
  case atStart => exact ⟨0, by omega, rfl, 0, rfl⟩
  case round =>
    obtain ⟨k, hk, rfl, q, hq⟩ := hrel
    have HQ := Lib.hid hq
    by_cases hlt : k < bl0
    · have hU := (HU.out.drewN q)
      have hSS := (HSS.out.drewN q)
      have hMM := (HMM.out.drewN q)
      rw [← hq] at hU hSS hMM
      obtain ⟨b1, o1, rfl, _, hc1⟩ := rdNd hU (by rw [HBL.out]; omega)
      obtain ⟨b2, o2, rfl, _, hc2⟩ := rdNd hSS (by rw [HBL.out]; omega)
      obtain ⟨b3, o3, rfl, _, hc3⟩ := rdNd hMM (by rw [HBL.out]; omega)
      obtain ⟨G1, G2⟩ := hc1 k (by rw [HBL.out]; omega)
      obtain ⟨G3, G4⟩ := hc2 k (by rw [HBL.out]; omega)
      obtain ⟨G5, G6⟩ := hc3 k (by rw [HBL.out]; omega)
      clear hc1 hc2 hc3 hU hSS hMM hq
      generalize nP B k = p at *
      generalize nS B k = s at *
      have hgd := guardNd
      have hn1 : ∀ W, (binOp .neq 56 (.agg #[.int .i64 p, .string s]) (.agg #[.int .i64 p, .string s])).run Tryz.prog W = .ok (.bool false) W := fun W => by rw [neqNd]; simp
      go_wp2_with fail
      go_quiet (fail)
      go_wp2_with fail
      exact ⟨⟨k + 1, by omega, by go_num, q + nq, by rw [HQ.out, drewN_add]⟩, by simp [intOf]; omega⟩
    · obtain rfl : k = bl0 := by omega
      have HBR : Hid (Below w.heap.size w wr) := by show Below _ _ _; rw [hq]; exact bl_drewN HB10.out q
      clear hq HU HSS HMM
      go_wp2_with fail
      refine (ENDW.out _ HBR.out).mono ?_
      rintro e w11 ⟨rfl, hb11⟩
      go_wp2_with fail
      go_ret
      exact ⟨rfl, hb11⟩
end Go.Proofs.YtfgkjofdgohacaaGreatDoor
