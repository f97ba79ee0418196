/- A drawn region: reads first, then operations that keep a condition, of which two at a time may come up; then the forced end. -/
import Derived.Test.YtnabbmdhhddfbaaDoorA1
namespace Go.Proofs.YtnabbmdhhddfbaaDoor
open Go
section
variable {P : Program} {ops : Array Oper} {md : Region.Mode} {C : World → Prop}

/-- Whatever order is picked for the first f operations; then L. -/
def anyLQ (P : Program) (md : Region.Mode) (ops : Array Oper) (C : World → Prop) (n : Nat) (L : Array Bool → Act → Prop) : Nat → Array Bool → Act → Prop
  | 0, listed, a => L listed a
  | f + 1, listed, a => Region.ready md ops listed ≠ [] ∧ ∀ i ∈ Region.ready md ops listed, i < n ∧ qOp P ops C i (anyLQ P md ops C n L f (listed.setIfInBounds i true)) a

theorem any_of_LQ {n g : Nat} {L : Array Bool → Act → Prop} {Q' : Exit → Act → World → Prop} (hL : ∀ listed a w, C w → L listed a → wpAny P md ops Q' g listed a w) :
    ∀ (f : Nat) (listed : Array Bool) (a : Act) (w : World), C w → anyLQ P md ops C n L f listed a → wpAny P md ops Q' (f + g) listed a w
  | 0, listed, a, w, hC, h => by rw [Nat.zero_add]; exact hL _ _ _ hC h
  | f + 1, listed, a, w, hC, h => by
    rw [show f + 1 + g = (f + g) + 1 by omega]
    exact ⟨fun h0 => absurd h0 h.1, fun i hi => wpOp_of_qOp hC (fun a' w' hw' h' => any_of_LQ hL f _ a' w' hw' h') (h.2 i hi).2⟩

theorem anyLQ_first {n i : Nat} {oi : Oper} {v : Value} {L : Array Bool → Act → Prop} (hi : ops[i]? = some oi) (hsel : ∀ (j : Nat) (o : Oper) cs b, ops[j]? = some o → o.op ≠ .select cs b)
    (hs : Region.sinkB md ops n = true) (hc : Region.chainB md ops n = true) (hn : n < ops.size) (hin : i < n)
    (hdone : ∀ listed a, L listed a → ∀ j ∈ Region.ready md ops listed, n ≤ j) :
    ∀ (f : Nat) (listed : Array Bool) (a : Act), HeadInv md ops n listed →
      (∀ j oj, ops[j]? = some oj → j ≠ i → listed.getD j true = false → (∀ e ∈ oj.after, Region.binds md e = true → e.on ≠ i) → oi.apart ops oj = true) →
      i ∈ Region.ready md ops listed → YieldsIn P ops C oi v a →
      anyLQ P md ops C n L f (listed.setIfInBounds i true) (a.put oi.dst v) → anyLQ P md ops C n L (f + 1) listed a := by
  intro f
  induction f with
  | zero =>
    intro listed a inv _ hr hy H
    have hun := (mem_ready.1 hr).1
    refine ⟨fun h => (by rw [h] at hr; cases hr), fun j hj => ?_⟩
    have hjn : j < n := by
      rcases Nat.lt_or_ge j n with h | h
      · exact h
      · exact absurd hj (tail_waits hs hc hn inv _ i rfl hin hun j h)
    refine ⟨hjn, ?_⟩
    by_cases hji : j = i
    · subst hji; exact hy.qOp hi H
    · have := hdone _ _ H j (ready_mono hj hji)
      omega
  | succ f ih =>
    intro listed a inv hfree hr hy H
    have hun := (mem_ready.1 hr).1
    refine ⟨fun h => (by rw [h] at hr; cases hr), fun j hj => ?_⟩
    have hjn : j < n := by
      rcases Nat.lt_or_ge j n with h | h
      · exact h
      · exact absurd hj (tail_waits hs hc hn inv _ i rfl hin hun j h)
    refine ⟨hjn, ?_⟩
    by_cases hji : j = i
    · subst hji; exact hy.qOp hi H
    · have h1 := (H.2 j (ready_mono hj hji)).2
      obtain ⟨hjun, oj, hoj, hall⟩ := mem_ready.1 hj
      have hnot : ∀ e ∈ oj.after, Region.binds md e = true → e.on ≠ i := fun e he hb heq => by
        have h1 := hall e he hb
        rw [heq, getD_both hun] at h1
        cases h1
      have h2 := qOp_put hoj (hfree j oj hoj hji hjun hnot) (fun cs b => hsel i oi cs b hi) (fun cs b => hsel j oj cs b hoj) hy h1
      have hfree' : ∀ k ok, ops[k]? = some ok → k ≠ i → (listed.setIfInBounds j true).getD k true = false →
          (∀ e ∈ ok.after, Region.binds md e = true → e.on ≠ i) → oi.apart ops ok = true := fun k ok hk hki hun hno => by
        refine hfree k ok hk hki ?_ hno
        by_cases hjk : j = k
        · subst hjk; exact hjun
        · rw [getD_set_ne true hjk] at hun; exact hun
      refine qOp_mono (fun a' h3 => ih (listed.setIfInBounds j true) a' (inv.set hj hjn) hfree' (ready_mono hr (Ne.symm hji)) h3.1 ?_) h2
      rw [Array.setIfInBounds_comm _ _ hji]
      exact h3.2

theorem anyLQ_lex {n g : Nat} {Lq : Act → Prop} (hsel : Region.noSelect ops = true) (hs : Region.sinkB md ops n = true) (hc : Region.chainB md ops n = true) (hn : n < ops.size) :
    ∀ (l : List Oper) (k : Nat) (listed : Array Bool) (a : Act), (∀ j, j < l.length → l[j]? = ops[k + j]?) → k + l.length = n → HeadInv md ops n listed →
    Region.lexHead md ops g l.length k listed = true → wpQuiet P ops C Lq l a →
    anyLQ P md ops C n (fun listed' a' => Region.seqB md ops g n listed' = true ∧ Lq a') l.length listed a
  | [], k, listed, a, _, hk, _, hB, h => by
    have : k = n := by simpa using hk
    subst this
    exact ⟨by simpa [Region.lexHead] using hB, h⟩
  | o :: l, k, listed, a, hl, hk, inv, hB, h => by
    have h0 : ops[k]? = some o := by simpa using (hl 0 (by simp)).symm
    simp only [List.length_cons, Region.lexHead, Bool.and_eq_true] at hB
    obtain ⟨⟨hr, hf⟩, hB'⟩ := hB
    have hkn : k < n := by simp only [List.length_cons] at hk; omega
    have hr' : k ∈ Region.ready md ops listed := by simpa using hr
    have hst : qOp P ops C k (wpQuiet P ops C Lq l) a := by unfold qOp; simp only [h0]; exact h
    obtain ⟨v, hy, hK⟩ := yieldsIn_of_qOp h0 hst
    exact anyLQ_first h0 (Region.noSelect_spec hsel) hs hc hn hkn (fun listed' a' hL => seqB_ready hL.1) l.length listed a inv (Region.free_spec h0 hf) hr' hy
      (anyLQ_lex hsel hs hc hn l (k + 1) _ _ (fun j hj => by have := hl (j + 1) (by simp; omega); simpa [Nat.add_assoc, Nat.add_comm 1 j] using this) (by simp only [List.length_cons] at hk; omega) (inv.set hr' hkn) hB' hK)

/-- ONE WALK OF THE TEXT's ORDER: the head quiet in the class C, then the forced tail from any world of the class. -/
theorem wp_quiet_tail {id : Nat} {Q : Exit → Act → World → Prop} {a : Act} {w : World} {l : List Oper} (n : Nat) (hm : P.follows .mixedOrders = true) (hB : Region.lexTailB .any l.toArray n = true) (hC : C { w with drawn := w.drawn + 1 })
    (h : wpQuiet P l.toArray C (fun a' => ∀ w', C w' → wpList P l.toArray Q (l.drop n) a' w') (l.take n) a) : (Code.region id l.toArray true).wp P Q a w := by
  simp only [Region.lexTailB, Bool.and_eq_true, decide_eq_true_eq] at hB
  obtain ⟨⟨⟨⟨hsel, hn⟩, hs⟩, hc⟩, hlex⟩ := hB
  have hn' : n < l.length := by simpa using hn
  have htl : (l.take n).length = n := by simp; omega
  have hdl : (l.drop n).length = l.toArray.size - n := by simp
  have inv0 : HeadInv .any l.toArray n (Array.replicate l.toArray.size false) :=
    ⟨by simp, fun j oj _ hl => (by rw [getD_replicate_false] at hl; cases hl), fun t _ ht => getD_in (by simpa using ht) (getD_replicate_false _ _)⟩
  have H := anyLQ_lex (md := .any) (C := C) (g := l.toArray.size - n) hsel hs hc hn (l.take n) 0 _ a (fun j hj => by
    have hj' : j < n := by rw [htl] at hj; exact hj
    simp [hj']) (by simpa using htl) inv0 (by rw [htl]; exact hlex) h
  refine wp_region_any hm ?_
  have := any_of_LQ (Q' := Q) (C := C) (g := l.toArray.size - n) (fun listed a' w' hw' hL => by
    have := wpAny_of_seq (md := .any) (Q' := Q) (l.drop n) n listed a' w' (fun j => by simp [List.getElem?_drop]) (by rw [hdl]; exact hL.1) (hL.2 w' hw')
    rwa [hdl] at this) _ _ _ _ hC H
  rw [htl, show n + (l.toArray.size - n) = l.toArray.size by omega] at this
  exact this

/-- .. at the class 'w after some draws'. -/
theorem wp_quiet_tail_lit {id : Nat} {Q : Exit → Act → World → Prop} {a : Act} {w : World} {l : List Oper} (n : Nat) (hm : P.follows .mixedOrders = true) (hB : Region.lexTailB .any l.toArray n = true)
    (h : wpQuiet P l.toArray (fun w' => ∃ m, w' = w.drewN m) (fun a' => ∀ w', (∃ m, w' = w.drewN m) → wpList P l.toArray Q (l.drop n) a' w') (l.take n) a) : (Code.region id l.toArray true).wp P Q a w :=
  wp_quiet_tail (C := fun w' => ∃ m, w' = w.drewN m) n hm hB ⟨1, rfl⟩ h
end

open Go.RowKit
/-- A world that keeps all that lay in W. -/
structure Wb (W : World) where
  w : World
  h : Below W.heap.size W w
instance (W : World) : Inhabited (Wb W) := ⟨⟨W, Below.refl _ _⟩⟩
section
variable {P : Program}
/-- The class of these worlds: a call that lays blocks of its own stays in it. -/
theorem wp_quiet_wb {id : Nat} {Q : Exit → Act → World → Prop} {a : Act} {w : World} {l : List Oper} (hm : P.follows .mixedOrders = true) (hB : Region.lexB .any l.toArray = true)
    (h : wpQuiet P l.toArray (fun w' => ∃ i : Wb w, w' = i.w) (fun a' => ∀ w', (∃ i : Wb w, w' = i.w) → Q .normal a' w') l a) : (Code.region id l.toArray true).wp P Q a w :=
  wp_region_quiet (C := fun w' => ∃ i : Wb w, w' = i.w) hm hB ⟨⟨{ w with drawn := w.drawn + 1 }, (Below.refl w.heap.size w).drew⟩, rfl⟩ (by simpa using h)
theorem wp_quiet_wb_tail {id : Nat} {Q : Exit → Act → World → Prop} {a : Act} {w : World} {l : List Oper} (n : Nat) (hm : P.follows .mixedOrders = true) (hB : Region.lexTailB .any l.toArray n = true)
    (h : wpQuiet P l.toArray (fun w' => ∃ i : Wb w, w' = i.w) (fun a' => ∀ w', (∃ i : Wb w, w' = i.w) → wpList P l.toArray Q (l.drop n) a' w') (l.take n) a) : (Code.region id l.toArray true).wp P Q a w :=
  wp_quiet_tail (C := fun w' => ∃ i : Wb w, w' = i.w) n hm hB ⟨⟨{ w with drawn := w.drawn + 1 }, (Below.refl w.heap.size w).drew⟩, rfl⟩ h
theorem quiet_of_wb {f : FuncId} {args : Array Value} {W : World} {i : Wb W} {v : Value} (h : Calls P f args i.w fun e w' => e = .returned v ∧ Below i.w.heap.size i.w w') :
    Calls P f args i.w fun e w'' => e = .returned v ∧ ∃ j : Wb W, w'' = j.w :=
  h.mono fun _ w' ⟨he, hb⟩ => ⟨he, ⟨w', i.h.trans (hb.mono i.h.size)⟩, rfl⟩
theorem quiet_of_wb_drew {f : FuncId} {args : Array Value} {W : World} {i : Wb W} {v : Value} (h : Calls P f args i.w fun e w' => e = .returned v ∧ ∃ n, w' = i.w.drewN n) :
    Calls P f args i.w fun e w'' => e = .returned v ∧ ∃ j : Wb W, w'' = j.w :=
  h.mono fun _ w' ⟨he, n, hb⟩ => ⟨he, ⟨w', hb ▸ ⟨i.h.os, i.h.tape, i.h.output, i.h.size, i.h.block⟩⟩, rfl⟩
theorem wb_cell {W : World} {b o : Nat} {v : Value} (h : W.cell? ⟨b, o, none⟩ = some v) (hb : b < W.heap.size) : ∀ i : Wb W, i.w.cell? ⟨b, o, none⟩ = some v := fun i => (i.h.cell (p := ⟨b, o, none⟩) hb).trans h
end
/-- Two cells below are kept by a call. -/
theorem hold2 {W W' : World} {b o o' : Nat} {u1 u2 : Value} (hb : Below W.heap.size W W') (h : b < W.heap.size) (h1 : W.cell? ⟨b, o, none⟩ = some u1) (h2 : W.cell? ⟨b, o', none⟩ = some u2) :
    W'.cell? ⟨b, o, none⟩ = some u1 ∧ W'.cell? ⟨b, o', none⟩ = some u2 ∧ W.heap.size ≤ W'.heap.size :=
  ⟨(hb.cell (p := ⟨b, o, none⟩) h).trans h1, (hb.cell (p := ⟨b, o', none⟩) h).trans h2, hb.size⟩
end Go.Proofs.YtnabbmdhhddfbaaDoor
namespace Go.Proofs.YtnabbmdhhddfbaaDoor
open Go
section
variable {P : Program} {ops : Array Oper} {md : Region.Mode} {S : World → Prop} {Q : Exit → Act → World → Prop}
/-- Which operations may come up, one after another. -/
inductive OT where
  | leaf : OT
  | one : Nat → OT → OT
  | two : Nat → OT → Nat → OT → OT
def OT.dep : OT → Nat → Bool
  | .leaf, f => f == 0
  | .one _ t, f => f != 0 && t.dep (f - 1)
  | .two _ t _ u, f => f != 0 && t.dep (f - 1) && u.dep (f - 1)
def midG (P : Program) (ops : Array Oper) (Q : Exit → Act → World → Prop) (S : World → Prop) (K : Act → World → Prop) : OT → Act → World → Prop
  | .leaf, a, w => K a w
  | .one k t, a, w => wpOp P ops Q k (fun a' w' => S w' ∧ midG P ops Q S K t a' w') a w
  | .two k t j u, a, w => wpOp P ops Q k (fun a' w' => S w' ∧ midG P ops Q S K t a' w') a w ∧ wpOp P ops Q j (fun a' w' => S w' ∧ midG P ops Q S K u a' w') a w
def seqG (md : Region.Mode) (ops : Array Oper) (n : Nat) : OT → Array Bool → Bool
  | .leaf, listed => Region.seqB md ops (ops.size - n) n listed
  | .one k t, listed => decide (Region.ready md ops listed = [k]) && decide (k < n) && seqG md ops n t (listed.setIfInBounds k true)
  | .two k t j u, listed => decide (Region.ready md ops listed = [k, j]) && decide (k < n) && decide (j < n) && seqG md ops n t (listed.setIfInBounds k true) && seqG md ops n u (listed.setIfInBounds j true)
def headG (md : Region.Mode) (ops : Array Oper) (n : Nat) (t : OT) : List Nat → Array Bool → Bool
  | [], listed => seqG md ops n t listed
  | k :: is, listed => (Region.ready md ops listed).contains k && Region.free md ops listed k && decide (k < n) && headG md ops n t is (listed.setIfInBounds k true)
def orderG (md : Region.Mode) (ops : Array Oper) (n : Nat) (is : List Nat) (t : OT) : Bool :=
  Region.noSelect ops && decide (is.length ≤ n) && t.dep (n - is.length) && decide (n < ops.size) && Region.sinkB md ops n && Region.chainB md ops n && headG md ops n t is (Array.replicate ops.size false)
theorem anyG_seq {n : Nat} {K : Act → World → Prop} : ∀ (t : OT) (f : Nat) (listed : Array Bool) (a : Act) (w : World), t.dep f = true → seqG md ops n t listed = true → midG P ops Q S K t a w → anyT P md ops Q S n K f listed a w
  | .leaf, f, listed, a, w, hd, hB, h => by
    obtain rfl : f = 0 := by simpa [OT.dep] using hd
    exact ⟨hB, h⟩
  | .one k t, f, listed, a, w, hd, hB, h => by
    simp only [OT.dep, Bool.and_eq_true, bne_iff_ne] at hd
    obtain ⟨g, rfl⟩ : ∃ g, f = g + 1 := ⟨f - 1, by omega⟩
    rw [seqG] at hB
    simp only [Bool.and_eq_true, decide_eq_true_eq] at hB
    obtain ⟨⟨h1, h2⟩, h3⟩ := hB
    refine ⟨fun h0 => (by rw [h1] at h0; cases h0), fun i hi => ?_⟩
    rw [h1] at hi
    obtain rfl : i = k := by simpa using hi
    exact ⟨h2, wpOp_mono (fun a' w' h' => ⟨h'.1, anyG_seq t g _ a' w' (by simpa using hd.2) h3 h'.2⟩) h⟩
  | .two k t j u, f, listed, a, w, hd, hB, h => by
    simp only [OT.dep, Bool.and_eq_true, bne_iff_ne] at hd
    obtain ⟨g, rfl⟩ : ∃ g, f = g + 1 := ⟨f - 1, by omega⟩
    rw [seqG] at hB
    simp only [Bool.and_eq_true, decide_eq_true_eq] at hB
    obtain ⟨⟨⟨⟨h1, h2⟩, h2'⟩, h3⟩, h4⟩ := hB
    refine ⟨fun h0 => (by rw [h1] at h0; cases h0), fun i hi => ?_⟩
    rw [h1] at hi
    have hi' : i = k ∨ i = j := by simpa using hi
    rcases hi' with rfl | rfl
    · exact ⟨h2, wpOp_mono (fun a' w' h' => ⟨h'.1, anyG_seq t g _ a' w' (by simpa using hd.1.2) h3 h'.2⟩) h.1⟩
    · exact ⟨h2', wpOp_mono (fun a' w' h' => ⟨h'.1, anyG_seq u g _ a' w' (by simpa using hd.2) h4 h'.2⟩) h.2⟩
theorem anyG_head {n : Nat} {K : Act → World → Prop} (hsel : Region.noSelect ops = true) (hs : Region.sinkB md ops n = true) (hc : Region.chainB md ops n = true) (hn : n < ops.size)
    (hQ : ∀ c a d v w, Q (.panic c) (Act.put a d v) w → Q (.panic c) a w) {t : OT} {f : Nat} (hd : t.dep f = true) :
    ∀ (is : List Nat) (listed : Array Bool) (a : Act) (w : World), HeadInv md ops n listed → headG md ops n t is listed = true → S w →
      headT P ops S (fun a' => midG P ops Q S K t a' w) is a → anyT P md ops Q S n K (is.length + f) listed a w
  | [], listed, a, w, _, hB, _, h => by
    rw [List.length_nil, Nat.zero_add]
    exact anyG_seq t f listed a w hd hB h
  | i :: is, listed, a, w, inv, hB, hS, h => by
    rw [headG] at hB
    simp only [Bool.and_eq_true, decide_eq_true_eq] at hB
    obtain ⟨⟨⟨h1, h2⟩, h3⟩, h4⟩ := hB
    obtain ⟨o, v, ho, hy, hk⟩ := h
    have hr : i ∈ Region.ready md ops listed := by simpa using h1
    have := anyT_first ho (Region.noSelect_spec hsel) hs hc hn h3 (fun c a w => hQ c a _ _ w) (is.length + f) listed a w inv (Region.free_spec ho h2) hr hy hS (anyG_head hsel hs hc hn hQ hd is _ _ w (inv.set hr h3) h4 hS hk)
    rw [List.length_cons, show is.length + 1 + f = is.length + f + 1 by omega]
    exact this
/-- Reads first, then a tree of operations that keep S, then the forced end. -/
theorem wp_region_tree {id : Nat} {a : Act} {w : World} {l : List Oper} (n : Nat) (is : List Nat) (t : OT) (hm : P.follows .mixedOrders = true) (hB : orderG .any l.toArray n is t = true)
    (hS : S w.drew)
    (h : headT P l.toArray S (fun a' => midG P l.toArray (NoPanic Q) S (wpList P l.toArray (NoPanic Q) (l.drop n)) t a' w.drew) is a) : (Code.region id l.toArray true).wp P Q a w := by
  simp only [orderG, Bool.and_eq_true, decide_eq_true_eq] at hB
  obtain ⟨⟨⟨⟨⟨⟨hsel, hlen⟩, hd⟩, hn⟩, hs⟩, hc⟩, hB⟩ := hB
  have inv0 : HeadInv .any l.toArray n (Array.replicate l.toArray.size false) :=
    ⟨by simp, fun j oj _ hl => (by rw [getD_replicate_false] at hl; cases hl), fun t _ ht => getD_in (by simpa using ht) (getD_replicate_false _ _)⟩
  refine wp_region_noPanic (wp_region_any hm ?_)
  have hdl : (l.drop n).length = l.toArray.size - n := by simp
  have := any_of_T (Q := NoPanic Q) (g := l.toArray.size - n) (fun listed a' w' h1 h2 => by
    have := wpAny_of_seq (md := .any) (Q' := NoPanic Q) (l.drop n) n listed a' w' (fun j => by simp [List.getElem?_drop]) (by rw [hdl]; exact h1) h2
    rwa [hdl] at this) _ _ _ _ (anyG_head (Q := NoPanic Q) hsel hs hc hn (fun _ _ _ _ _ h => h) hd is _ a w.drew inv0 hB hS h)
  rw [show is.length + (n - is.length) = n by omega, show n + (l.toArray.size - n) = l.toArray.size by omega] at this
  exact this
theorem midG_leaf {K : Act → World → Prop} {a : Act} {w : World} (h : K a w) : midG P ops Q S K .leaf a w := h
theorem midG_one {l : List Oper} {K : Act → World → Prop} {a : Act} {w : World} {k : Nat} {t : OT} {o : Oper} {r : List Oper} (ho : l.drop k = o :: r)
    (h : ∀ K' : Act → World → Prop, Shut (∀ a w, S w → (S w → midG P l.toArray Q S K t a w) → K' a w) → if Region.wanted o (yielded l.toArray a.tmps) = true then Oper.wp P o a w K' Q else K' (a.put o.dst undef) w) : midG P l.toArray Q S K (.one k t) a w :=
  wpOp_step (get_of_drop ho) (fun K' hK => h K' (fun a w hS hW => hK a w ⟨hS, hW hS⟩))
theorem midG_two {l : List Oper} {K : Act → World → Prop} {a : Act} {w : World} {k j : Nat} {t u : OT}
    (h1 : midG P l.toArray Q S K (.one k t) a w) (h2 : midG P l.toArray Q S K (.one j u) a w) : midG P l.toArray Q S K (.two k t j u) a w := ⟨h1, h2⟩
end
open Go.RowKit in
theorem rd_block {w w' : World} {a : Option Addr} {cs : List Value} (h : Rd w a cs) (hs : w.heap.size ≤ w'.heap.size) (hb : ∀ b off, a = some ⟨b, off, none⟩ → b < w.heap.size → w'.heap[b]? = w.heap[b]?) : Rd w' a cs := by
  intro h0
  obtain ⟨b, off, e, hlt, hc⟩ := h h0
  refine ⟨b, off, e, Nat.lt_of_lt_of_le hlt hs, fun i hi => ?_⟩
  rw [← hc i hi]
  simp only [World.cell?]
  rw [hb b off e hlt]
theorem own_ne {g X n c : Nat} (d : g ≠ X) : (Value.slice (some ⟨g, 0, none⟩) n c).ownBlock ≠ some X := fun e => d (Option.some.inj (show some g = some X from e))
end Go.Proofs.YtnabbmdhhddfbaaDoor
