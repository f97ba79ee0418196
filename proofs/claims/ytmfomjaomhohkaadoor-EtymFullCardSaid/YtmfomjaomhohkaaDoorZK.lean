/- A drawn region: reads first, then operations that keep a condition, of which two at a time may come up; then the forced end. EtymWays: the plain part. EtymWays: the walk. -/
import Derived.Test.YtmfomjaomhohkaaDoorZA
import Derived.Test.YtmfomjaomhohkaaDoorZG
import Derived.Test.YtmfomjaomhohkaaDoorZI
import Derived.Test.YtmfomjaomhohkaaDoorZJ
namespace Go.Proofs.YtmfomjaomhohkaaDoor
open Go
section
variable {P : Program} {ops : Array Oper} {md : Region.Mode} {C : World → Prop}

/-- Whatever order is picked for the first f operations; then L. -/
def anyLQ (P : Program) (md : Region.Mode) (ops : Array Oper) (C : World → Prop) (n : Nat) (L : Array Bool → Act → Prop) : Nat → Array Bool → Act → Prop
  | 0, listed, a => L listed a
  | f + 1, listed, a => Region.ready md ops listed ≠ [] ∧ ∀ i ∈ Region.ready md ops listed, i < n ∧ qOp P ops C i (anyLQ P md ops C n L f (listed.setIfInBounds i true)) a

theorem any_of_LQ {n g : Nat} {L : Array Bool → Act → Prop} {Q' : Exit → Act → World → Prop} (hL : ∀ listed a w, C w → L listed a → wpAny P md ops Q' g listed a w) :
    ∀ (f : Nat) (listed : Array Bool) (a : Act) (w : World), C w → anyLQ P md ops C n L f listed a → wpAny P md ops Q' (f + g) listed a w
  | 0, listed, a, w, hC, h => by rw [Nat.zero_add]; exact hL _ _ _ hC h
  | f + 1, listed, a, w, hC, h => by
    rw [show f + 1 + g = (f + g) + 1 by omega]
    exact ⟨fun h0 => absurd h0 h.1, fun i hi => wpOp_of_qOp hC (fun a' w' hw' h' => any_of_LQ hL f _ a' w' hw' h') (h.2 i hi).2⟩

theorem anyLQ_first {n i : Nat} {oi : Oper} {v : Value} {L : Array Bool → Act → Prop} (hi : ops[i]? = some oi) (hsel : ∀ (j : Nat) (o : Oper) cs b, ops[j]? = some o → o.op ≠ .select cs b)
    (hs : Region.sinkB md ops n = true) (hc : Region.chainB md ops n = true) (hn : n < ops.size) (hin : i < n)
    (hdone : ∀ listed a, L listed a → ∀ j ∈ Region.ready md ops listed, n ≤ j) :
    ∀ (f : Nat) (listed : Array Bool) (a : Act), HeadInv md ops n listed →
      (∀ j oj, ops[j]? = some oj → j ≠ i → listed.getD j true = false → (∀ e ∈ oj.after, Region.binds md e = true → e.on ≠ i) → oi.apart ops oj = true) →
      i ∈ Region.ready md ops listed → YieldsIn P ops C oi v a →
      anyLQ P md ops C n L f (listed.setIfInBounds i true) (a.put oi.dst v) → anyLQ P md ops C n L (f + 1) listed a := by
  intro f
  induction f with
  | zero =>
    intro listed a inv _ hr hy H
    have hun := (mem_ready.1 hr).1
    refine ⟨fun h => (by rw [h] at hr; cases hr), fun j hj => ?_⟩
    have hjn : j < n := by
      rcases Nat.lt_or_ge j n with h | h
      · exact h
      · exact absurd hj (tail_waits hs hc hn inv _ i rfl hin hun j h)
    refine ⟨hjn, ?_⟩
    by_cases hji : j = i
    · subst hji; exact hy.qOp hi H
    · have := hdone _ _ H j (ready_mono hj hji)
      omega
  | succ f ih =>
    intro listed a inv hfree hr hy H
    have hun := (mem_ready.1 hr).1
    refine ⟨fun h => (by rw [h] at hr; cases hr), fun j hj => ?_⟩
    have hjn : j < n := by
      rcases Nat.lt_or_ge j n with h | h
      · exact h
      · exact absurd hj (tail_waits hs hc hn inv _ i rfl hin hun j h)
    refine ⟨hjn, ?_⟩
    by_cases hji : j = i
    · subst hji; exact hy.qOp hi H
    · have h1 := (H.2 j (ready_mono hj hji)).2
      obtain ⟨hjun, oj, hoj, hall⟩ := mem_ready.1 hj
      have hnot : ∀ e ∈ oj.after, Region.binds md e = true → e.on ≠ i := fun e he hb heq => by
        have h1 := hall e he hb
        rw [heq, getD_both hun] at h1
        cases h1
      have h2 := qOp_put hoj (hfree j oj hoj hji hjun hnot) (fun cs b => hsel i oi cs b hi) (fun cs b => hsel j oj cs b hoj) hy h1
      have hfree' : ∀ k ok, ops[k]? = some ok → k ≠ i → (listed.setIfInBounds j true).getD k true = false →
          (∀ e ∈ ok.after, Region.binds md e = true → e.on ≠ i) → oi.apart ops ok = true := fun k ok hk hki hun hno => by
        refine hfree k ok hk hki ?_ hno
        by_cases hjk : j = k
        · subst hjk; exact hjun
        · rw [Go.getD_set_ne true hjk] at hun; exact hun
      refine qOp_mono (fun a' h3 => ih (listed.setIfInBounds j true) a' (inv.set hj hjn) hfree' (ready_mono hr (Ne.symm hji)) h3.1 ?_) h2
      rw [Array.setIfInBounds_comm _ _ hji]
      exact h3.2

theorem anyLQ_lex {n g : Nat} {Lq : Act → Prop} (hsel : Region.noSelect ops = true) (hs : Region.sinkB md ops n = true) (hc : Region.chainB md ops n = true) (hn : n < ops.size) :
    ∀ (l : List Oper) (k : Nat) (listed : Array Bool) (a : Act), (∀ j, j < l.length → l[j]? = ops[k + j]?) → k + l.length = n → HeadInv md ops n listed →
    Region.lexHead md ops g l.length k listed = true → wpQuiet P ops C Lq l a →
    anyLQ P md ops C n (fun listed' a' => Region.seqB md ops g n listed' = true ∧ Lq a') l.length listed a
  | [], k, listed, a, _, hk, _, hB, h => by
    have : k = n := by simpa using hk
    subst this
    exact ⟨by simpa [Region.lexHead] using hB, h⟩
  | o :: l, k, listed, a, hl, hk, inv, hB, h => by
    have h0 : ops[k]? = some o := by simpa using (hl 0 (by simp)).symm
    simp only [List.length_cons, Region.lexHead, Bool.and_eq_true] at hB
    obtain ⟨⟨hr, hf⟩, hB'⟩ := hB
    have hkn : k < n := by simp only [List.length_cons] at hk; omega
    have hr' : k ∈ Region.ready md ops listed := by simpa using hr
    have hst : qOp P ops C k (wpQuiet P ops C Lq l) a := by unfold qOp; simp only [h0]; exact h
    obtain ⟨v, hy, hK⟩ := yieldsIn_of_qOp h0 hst
    exact anyLQ_first h0 (Region.noSelect_spec hsel) hs hc hn hkn (fun listed' a' hL => seqB_ready hL.1) l.length listed a inv (Region.free_spec h0 hf) hr' hy
      (anyLQ_lex hsel hs hc hn l (k + 1) _ _ (fun j hj => by have := hl (j + 1) (by simp; omega); simpa [Nat.add_assoc, Nat.add_comm 1 j] using this) (by simp only [List.length_cons] at hk; omega) (inv.set hr' hkn) hB' hK)

/-- ONE WALK OF THE TEXT's ORDER: the head quiet in the class C, then the forced tail from any world of the class. -/
theorem wp_quiet_tail {id : Nat} {Q : Exit → Act → World → Prop} {a : Act} {w : World} {l : List Oper} (n : Nat) (hm : P.follows .mixedOrders = true) (hB : Region.lexTailB .any l.toArray n = true) (hC : C { w with drawn := w.drawn + 1 })
    (h : wpQuiet P l.toArray C (fun a' => ∀ w', C w' → wpList P l.toArray Q (l.drop n) a' w') (l.take n) a) : (Code.region id l.toArray true).wp P Q a w := by
  simp only [Region.lexTailB, Bool.and_eq_true, decide_eq_true_eq] at hB
  obtain ⟨⟨⟨⟨hsel, hn⟩, hs⟩, hc⟩, hlex⟩ := hB
  have hn' : n < l.length := by simpa using hn
  have htl : (l.take n).length = n := by simp; omega
  have hdl : (l.drop n).length = l.toArray.size - n := by simp
  have inv0 : HeadInv .any l.toArray n (Array.replicate l.toArray.size false) :=
    ⟨by simp, fun j oj _ hl => (by rw [getD_replicate_false] at hl; cases hl), fun t _ ht => getD_in (by simpa using ht) (getD_replicate_false _ _)⟩
  have H := anyLQ_lex (md := .any) (C := C) (g := l.toArray.size - n) hsel hs hc hn (l.take n) 0 _ a (fun j hj => by
    have hj' : j < n := by rw [htl] at hj; exact hj
    simp [hj']) (by simpa using htl) inv0 (by rw [htl]; exact hlex) h
  refine wp_region_any hm ?_
  have := any_of_LQ (Q' := Q) (C := C) (g := l.toArray.size - n) (fun listed a' w' hw' hL => by
    have := wpAny_of_seq (md := .any) (Q' := Q) (l.drop n) n listed a' w' (fun j => by simp [List.getElem?_drop]) (by rw [hdl]; exact hL.1) (hL.2 w' hw')
    rwa [hdl] at this) _ _ _ _ hC H
  rw [htl, show n + (l.toArray.size - n) = l.toArray.size by omega] at this
  exact this

/-- .. at the class 'w after some draws'. -/
theorem wp_quiet_tail_lit {id : Nat} {Q : Exit → Act → World → Prop} {a : Act} {w : World} {l : List Oper} (n : Nat) (hm : P.follows .mixedOrders = true) (hB : Region.lexTailB .any l.toArray n = true)
    (h : wpQuiet P l.toArray (fun w' => ∃ m, w' = w.drewN m) (fun a' => ∀ w', (∃ m, w' = w.drewN m) → wpList P l.toArray Q (l.drop n) a' w') (l.take n) a) : (Code.region id l.toArray true).wp P Q a w :=
  wp_quiet_tail (C := fun w' => ∃ m, w' = w.drewN m) n hm hB ⟨1, rfl⟩ h
end

open Go.RowKit
/-- A world that keeps all that lay in W. -/
structure Wb (W : World) where
  w : World
  h : Below W.heap.size W w
instance (W : World) : Inhabited (Wb W) := ⟨⟨W, Below.refl _ _⟩⟩
section
variable {P : Program}
/-- The class of these worlds: a call that lays blocks of its own stays in it. -/
theorem wp_quiet_wb {id : Nat} {Q : Exit → Act → World → Prop} {a : Act} {w : World} {l : List Oper} (hm : P.follows .mixedOrders = true) (hB : Region.lexB .any l.toArray = true)
    (h : wpQuiet P l.toArray (fun w' => ∃ i : Wb w, w' = i.w) (fun a' => ∀ w', (∃ i : Wb w, w' = i.w) → Q .normal a' w') l a) : (Code.region id l.toArray true).wp P Q a w :=
  wp_region_quiet (C := fun w' => ∃ i : Wb w, w' = i.w) hm hB ⟨⟨{ w with drawn := w.drawn + 1 }, (Below.refl w.heap.size w).drew⟩, rfl⟩ (by simpa using h)
theorem wp_quiet_wb_tail {id : Nat} {Q : Exit → Act → World → Prop} {a : Act} {w : World} {l : List Oper} (n : Nat) (hm : P.follows .mixedOrders = true) (hB : Region.lexTailB .any l.toArray n = true)
    (h : wpQuiet P l.toArray (fun w' => ∃ i : Wb w, w' = i.w) (fun a' => ∀ w', (∃ i : Wb w, w' = i.w) → wpList P l.toArray Q (l.drop n) a' w') (l.take n) a) : (Code.region id l.toArray true).wp P Q a w :=
  wp_quiet_tail (C := fun w' => ∃ i : Wb w, w' = i.w) n hm hB ⟨⟨{ w with drawn := w.drawn + 1 }, (Below.refl w.heap.size w).drew⟩, rfl⟩ h
theorem quiet_of_wb {f : FuncId} {args : Array Value} {W : World} {i : Wb W} {v : Value} (h : Calls P f args i.w fun e w' => e = .returned v ∧ Below i.w.heap.size i.w w') :
    Calls P f args i.w fun e w'' => e = .returned v ∧ ∃ j : Wb W, w'' = j.w :=
  h.mono fun _ w' ⟨he, hb⟩ => ⟨he, ⟨w', i.h.trans (hb.mono i.h.size)⟩, rfl⟩
theorem quiet_of_wb_drew {f : FuncId} {args : Array Value} {W : World} {i : Wb W} {v : Value} (h : Calls P f args i.w fun e w' => e = .returned v ∧ ∃ n, w' = i.w.drewN n) :
    Calls P f args i.w fun e w'' => e = .returned v ∧ ∃ j : Wb W, w'' = j.w :=
  h.mono fun _ w' ⟨he, _, hb⟩ => ⟨he, ⟨w', hb ▸ ⟨i.h.os, i.h.tape, i.h.output, i.h.size, i.h.block⟩⟩, rfl⟩
theorem wb_cell {W : World} {b o : Nat} {v : Value} (h : W.cell? ⟨b, o, none⟩ = some v) (hb : b < W.heap.size) : ∀ i : Wb W, i.w.cell? ⟨b, o, none⟩ = some v := fun i => (i.h.cell (p := ⟨b, o, none⟩) hb).trans h
end
/-- Two cells below are kept by a call. -/
theorem hold2 {W W' : World} {b o o' : Nat} {u1 u2 : Value} (hb : Below W.heap.size W W') (h : b < W.heap.size) (h1 : W.cell? ⟨b, o, none⟩ = some u1) (h2 : W.cell? ⟨b, o', none⟩ = some u2) :
    W'.cell? ⟨b, o, none⟩ = some u1 ∧ W'.cell? ⟨b, o', none⟩ = some u2 ∧ W.heap.size ≤ W'.heap.size :=
  ⟨(hb.cell (p := ⟨b, o, none⟩) h).trans h1, (hb.cell (p := ⟨b, o', none⟩) h).trans h2, hb.size⟩
end Go.Proofs.YtmfomjaomhohkaaDoor
namespace Go.Proofs.YtmfomjaomhohkaaDoor
open Go
section
variable {P : Program} {ops : Array Oper} {md : Region.Mode} {S : World → Prop} {Q : Exit → Act → World → Prop}
/-- Which operations may come up, one after another. -/
inductive OT where
  | leaf : OT
  | one : Nat → OT → OT
  | two : Nat → OT → Nat → OT → OT
def OT.dep : OT → Nat → Bool
  | .leaf, f => f == 0
  | .one _ t, f => f != 0 && t.dep (f - 1)
  | .two _ t _ u, f => f != 0 && t.dep (f - 1) && u.dep (f - 1)
def midG (P : Program) (ops : Array Oper) (Q : Exit → Act → World → Prop) (S : World → Prop) (K : Act → World → Prop) : OT → Act → World → Prop
  | .leaf, a, w => K a w
  | .one k t, a, w => wpOp P ops Q k (fun a' w' => S w' ∧ midG P ops Q S K t a' w') a w
  | .two k t j u, a, w => wpOp P ops Q k (fun a' w' => S w' ∧ midG P ops Q S K t a' w') a w ∧ wpOp P ops Q j (fun a' w' => S w' ∧ midG P ops Q S K u a' w') a w
def seqG (md : Region.Mode) (ops : Array Oper) (n : Nat) : OT → Array Bool → Bool
  | .leaf, listed => Region.seqB md ops (ops.size - n) n listed
  | .one k t, listed => decide (Region.ready md ops listed = [k]) && decide (k < n) && seqG md ops n t (listed.setIfInBounds k true)
  | .two k t j u, listed => decide (Region.ready md ops listed = [k, j]) && decide (k < n) && decide (j < n) && seqG md ops n t (listed.setIfInBounds k true) && seqG md ops n u (listed.setIfInBounds j true)
def headG (md : Region.Mode) (ops : Array Oper) (n : Nat) (t : OT) : List Nat → Array Bool → Bool
  | [], listed => seqG md ops n t listed
  | k :: is, listed => (Region.ready md ops listed).contains k && Region.free md ops listed k && decide (k < n) && headG md ops n t is (listed.setIfInBounds k true)
def orderG (md : Region.Mode) (ops : Array Oper) (n : Nat) (is : List Nat) (t : OT) : Bool :=
  Region.noSelect ops && decide (is.length ≤ n) && t.dep (n - is.length) && decide (n < ops.size) && Region.sinkB md ops n && Region.chainB md ops n && headG md ops n t is (Array.replicate ops.size false)
theorem anyG_seq {n : Nat} {K : Act → World → Prop} : ∀ (t : OT) (f : Nat) (listed : Array Bool) (a : Act) (w : World), t.dep f = true → seqG md ops n t listed = true → midG P ops Q S K t a w → anyT P md ops Q S n K f listed a w
  | .leaf, f, listed, a, w, hd, hB, h => by
    obtain rfl : f = 0 := by simpa [OT.dep] using hd
    exact ⟨hB, h⟩
  | .one k t, f, listed, a, w, hd, hB, h => by
    simp only [OT.dep, Bool.and_eq_true, bne_iff_ne] at hd
    obtain ⟨g, rfl⟩ : ∃ g, f = g + 1 := ⟨f - 1, by omega⟩
    rw [seqG] at hB
    simp only [Bool.and_eq_true, decide_eq_true_eq] at hB
    obtain ⟨⟨h1, h2⟩, h3⟩ := hB
    refine ⟨fun h0 => (by rw [h1] at h0; cases h0), fun i hi => ?_⟩
    rw [h1] at hi
    obtain rfl : i = k := by simpa using hi
    exact ⟨h2, wpOp_mono (fun a' w' h' => ⟨h'.1, anyG_seq t g _ a' w' (by simpa using hd.2) h3 h'.2⟩) h⟩
  | .two k t j u, f, listed, a, w, hd, hB, h => by
    simp only [OT.dep, Bool.and_eq_true, bne_iff_ne] at hd
    obtain ⟨g, rfl⟩ : ∃ g, f = g + 1 := ⟨f - 1, by omega⟩
    rw [seqG] at hB
    simp only [Bool.and_eq_true, decide_eq_true_eq] at hB
    obtain ⟨⟨⟨⟨h1, h2⟩, h2'⟩, h3⟩, h4⟩ := hB
    refine ⟨fun h0 => (by rw [h1] at h0; cases h0), fun i hi => ?_⟩
    rw [h1] at hi
    have hi' : i = k ∨ i = j := by simpa using hi
    rcases hi' with rfl | rfl
    · exact ⟨h2, wpOp_mono (fun a' w' h' => ⟨h'.1, anyG_seq t g _ a' w' (by simpa using hd.1.2) h3 h'.2⟩) h.1⟩
    · exact ⟨h2', wpOp_mono (fun a' w' h' => ⟨h'.1, anyG_seq u g _ a' w' (by simpa using hd.2) h4 h'.2⟩) h.2⟩
theorem anyG_head {n : Nat} {K : Act → World → Prop} (hsel : Region.noSelect ops = true) (hs : Region.sinkB md ops n = true) (hc : Region.chainB md ops n = true) (hn : n < ops.size)
    (hQ : ∀ c a d v w, Q (.panic c) (Act.put a d v) w → Q (.panic c) a w) {t : OT} {f : Nat} (hd : t.dep f = true) :
    ∀ (is : List Nat) (listed : Array Bool) (a : Act) (w : World), HeadInv md ops n listed → headG md ops n t is listed = true → S w →
      headT P ops S (fun a' => midG P ops Q S K t a' w) is a → anyT P md ops Q S n K (is.length + f) listed a w
  | [], listed, a, w, _, hB, _, h => by
    rw [List.length_nil, Nat.zero_add]
    exact anyG_seq t f listed a w hd hB h
  | i :: is, listed, a, w, inv, hB, hS, h => by
    rw [headG] at hB
    simp only [Bool.and_eq_true, decide_eq_true_eq] at hB
    obtain ⟨⟨⟨h1, h2⟩, h3⟩, h4⟩ := hB
    obtain ⟨o, v, ho, hy, hk⟩ := h
    have hr : i ∈ Region.ready md ops listed := by simpa using h1
    have := anyT_first ho (Region.noSelect_spec hsel) hs hc hn h3 (fun c a w => hQ c a _ _ w) (is.length + f) listed a w inv (Region.free_spec ho h2) hr hy hS (anyG_head hsel hs hc hn hQ hd is _ _ w (inv.set hr h3) h4 hS hk)
    rw [List.length_cons, show is.length + 1 + f = is.length + f + 1 by omega]
    exact this
/-- Reads first, then a tree of operations that keep S, then the forced end. -/
theorem wp_region_tree {id : Nat} {a : Act} {w : World} {l : List Oper} (n : Nat) (is : List Nat) (t : OT) (hm : P.follows .mixedOrders = true) (hB : orderG .any l.toArray n is t = true)
    (hS : S w.drew)
    (h : headT P l.toArray S (fun a' => midG P l.toArray (NoPanic Q) S (wpList P l.toArray (NoPanic Q) (l.drop n)) t a' w.drew) is a) : (Code.region id l.toArray true).wp P Q a w := by
  simp only [orderG, Bool.and_eq_true, decide_eq_true_eq] at hB
  obtain ⟨⟨⟨⟨⟨⟨hsel, hlen⟩, hd⟩, hn⟩, hs⟩, hc⟩, hB⟩ := hB
  have inv0 : HeadInv .any l.toArray n (Array.replicate l.toArray.size false) :=
    ⟨by simp, fun j oj _ hl => (by rw [getD_replicate_false] at hl; cases hl), fun t _ ht => getD_in (by simpa using ht) (getD_replicate_false _ _)⟩
  refine wp_region_noPanic (wp_region_any hm ?_)
  have hdl : (l.drop n).length = l.toArray.size - n := by simp
  have := any_of_T (Q := NoPanic Q) (g := l.toArray.size - n) (fun listed a' w' h1 h2 => by
    have := wpAny_of_seq (md := .any) (Q' := NoPanic Q) (l.drop n) n listed a' w' (fun j => by simp [List.getElem?_drop]) (by rw [hdl]; exact h1) h2
    rwa [hdl] at this) _ _ _ _ (anyG_head (Q := NoPanic Q) hsel hs hc hn (fun _ _ _ _ _ h => h) hd is _ a w.drew inv0 hB hS h)
  rw [show is.length + (n - is.length) = n by omega, show n + (l.toArray.size - n) = l.toArray.size by omega] at this
  exact this
theorem midG_leaf {K : Act → World → Prop} {a : Act} {w : World} (h : K a w) : midG P ops Q S K .leaf a w := h
theorem midG_one {l : List Oper} {K : Act → World → Prop} {a : Act} {w : World} {k : Nat} {t : OT} {o : Oper} {r : List Oper} (ho : l.drop k = o :: r)
    (h : ∀ K' : Act → World → Prop, Shut (∀ a w, S w → (S w → midG P l.toArray Q S K t a w) → K' a w) → if Region.wanted o (yielded l.toArray a.tmps) = true then Oper.wp P o a w K' Q else K' (a.put o.dst undef) w) : midG P l.toArray Q S K (.one k t) a w :=
  wpOp_step (get_of_drop ho) (fun K' hK => h K' (fun a w hS hW => hK a w ⟨hS, hW hS⟩))
theorem midG_two {l : List Oper} {K : Act → World → Prop} {a : Act} {w : World} {k j : Nat} {t u : OT}
    (h1 : midG P l.toArray Q S K (.one k t) a w) (h2 : midG P l.toArray Q S K (.one j u) a w) : midG P l.toArray Q S K (.two k t j u) a w := ⟨h1, h2⟩
end
open Go.RowKit in
theorem rd_block {w w' : World} {a : Option Addr} {cs : List Value} (h : Rd w a cs) (hs : w.heap.size ≤ w'.heap.size) (hb : ∀ b off, a = some ⟨b, off, none⟩ → b < w.heap.size → w'.heap[b]? = w.heap[b]?) : Rd w' a cs := by
  intro h0
  obtain ⟨b, off, e, hlt, hc⟩ := h h0
  refine ⟨b, off, e, Nat.lt_of_lt_of_le hlt hs, fun i hi => ?_⟩
  rw [← hc i hi]
  simp only [World.cell?]
  rw [hb b off e hlt]
theorem own_ne {g X n c : Nat} (d : g ≠ X) : (Value.slice (some ⟨g, 0, none⟩) n c).ownBlock ≠ some X := fun e => d (Option.some.inj (show some g = some X from e))
end Go.Proofs.YtmfomjaomhohkaaDoor
namespace Go.Proofs.YtmfomjaomhohkaaDoor
open Go Go.RowKit Go.Shelf
theorem Way.snoc {ls : List Lk} {n m d x : Nat} (h : Way ls n d x) (hm : n ∈ upL ls m) : Way ls m (d + 1) x := by
  induction h with
  | zero => exact .step hm .zero
  | step h _ ih => exact .step h ih
theorem Way.last {ls : List Lk} {m d x : Nat} (h : Way ls m (d + 1) x) : ∃ b, b ∈ upL ls m ∧ Way ls b d x := by
  obtain ⟨e, he⟩ : ∃ e, e = d + 1 := ⟨_, rfl⟩
  rw [← he] at h
  induction h generalizing d with
  | zero => omega
  | @step d2 a b h1 h2 ih =>
    cases h2 with
    | zero =>
      have : d = 0 := by omega
      subst this
      exact ⟨a, h1, .zero⟩
    | @step d3 _ c h3 h4 =>
      obtain ⟨q, h5, h6⟩ := ih (d := d3) rfl
      have : d = d3 + 1 := by omega
      subst this
      exact ⟨q, h5, .step h1 h6⟩
/-- What least says: the length of the shortest way, or 1000. -/
noncomputable def lsT (ls : List Lk) (S a k : Nat) : Nat := if a ∈ abL ls S k then dst ls k a else 1000
/-- ... after i links. -/
noncomputable def lsP (ls : List Lk) (S a k i : Nat) : Nat := (List.range i).foldl (fun acc j => if lT ls j = (k : Int) then min acc (lsT ls S a (lF ls j).toNat + 1) else acc) (if k = a then 0 else 1000)
theorem lsP_succ (ls : List Lk) (S a k i : Nat) : lsP ls S a k (i + 1) = if lT ls i = (k : Int) then min (lsP ls S a k i) (lsT ls S a (lF ls i).toNat + 1) else lsP ls S a k i := by
  unfold lsP
  rw [List.range_succ, List.foldl_append]; rfl
theorem lsP_start (ls : List Lk) (S a k : Nat) : ∀ i, lsP ls S a k i ≤ if k = a then 0 else 1000
  | 0 => Nat.le_refl _
  | i + 1 => by
    have := lsP_start ls S a k i
    rw [lsP_succ]
    split
    · omega
    · exact this
theorem lsP_le (ls : List Lk) (S a k : Nat) : ∀ i j, j < i → lT ls j = (k : Int) → lsP ls S a k i ≤ lsT ls S a (lF ls j).toNat + 1
  | 0, _, h, _ => by omega
  | i + 1, j, h, e => by
    rw [lsP_succ]
    by_cases q : j = i
    · subst q; rw [if_pos e]; omega
    · have := lsP_le ls S a k i j (by omega) e
      split <;> omega
theorem lsT_step {ls : List Lk} {S a k j : Nat} (hA : Asc ls S) (hS : S ≤ 10) (_ : a < S) (hk : k < S) (hj : j < ls.length) (e : lT ls j = (k : Int)) : lsT ls S a k ≤ lsT ls S a (lF ls j).toNat + 1 := by
  obtain ⟨p, q, h1, h2, h3, h4⟩ := hA.at hj
  have hu : p ∈ upL ls k := upL_mem.2 ⟨j, hj, e, by rw [h1]; rfl⟩
  rw [h1, Int.toNat_natCast]
  have hp : p < S := by omega
  unfold lsT
  by_cases q1 : a ∈ abL ls S p
  · have u1 := (ab_iff hA.lkin hp).1 q1
    rw [if_pos q1, if_pos ((ab_iff hA.lkin hk).2 (u1.trans (.step hu (.refl _))))]
    exact dst_le ((dst_way u1).snoc hu)
  · rw [if_neg q1]
    split
    · rename_i q2
      have := dst_bd hA.lkin hk q2
      omega
    · omega
theorem lsP_ge {ls : List Lk} {S a k : Nat} (hA : Asc ls S) (hS : S ≤ 10) (ha : a < S) (hk : k < S) : ∀ i, i ≤ ls.length → lsT ls S a k ≤ lsP ls S a k i
  | 0, _ => by
    show _ ≤ if k = a then 0 else 1000
    unfold lsT
    by_cases q : k = a
    · subst q; rw [if_pos (ab_self _ _ _), dst_self]; omega
    · rw [if_neg q]
      split
      · rename_i q2
        have := dst_bd hA.lkin hk q2
        omega
      · omega
  | i + 1, h => by
    have h1 := lsP_ge hA hS ha hk i (by omega)
    rw [lsP_succ]
    split
    · rename_i e
      have := lsT_step hA hS ha hk (show i < ls.length by omega) e
      omega
    · exact h1
theorem lsP_full {ls : List Lk} {S a k : Nat} (hA : Asc ls S) (hS : S ≤ 10) (ha : a < S) (hk : k < S) : lsP ls S a k ls.length = lsT ls S a k := by
  refine Nat.le_antisymm ?_ (lsP_ge hA hS ha hk _ (Nat.le_refl _))
  have h0 := lsP_start ls S a k ls.length
  unfold lsT
  by_cases q : a ∈ abL ls S k
  · rw [if_pos q]
    by_cases e : k = a
    · rw [if_pos e] at h0; omega
    · have hw := dst_way ((ab_iff hA.lkin hk).1 q)
      obtain ⟨d, hd⟩ : ∃ d, d = dst ls k a := ⟨_, rfl⟩
      rw [← hd] at hw ⊢
      cases d with
      | zero => cases hw; exact absurd rfl e
      | succ d =>
        obtain ⟨b, hb, hw2⟩ := hw.last
        obtain ⟨j, hj, e2, e3⟩ := upL_mem.1 hb
        have hbk := hA.up_lt hb
        have h1 := lsP_le ls S a k ls.length j hj e2
        rw [e3] at h1
        unfold lsT at h1
        rw [if_pos ((ab_iff hA.lkin (show b < S by omega)).2 hw2.up)] at h1
        have := dst_le hw2
        omega
  · rw [if_neg q]
    by_cases e : k = a
    · subst e; exact absurd (ab_self _ _ _) q
    · rw [if_neg e] at h0; exact h0
theorem lsT_bd {ls : List Lk} {S a k : Nat} (hA : Asc ls S) (hS : S ≤ 10) (hk : k < S) : lsT ls S a k ≤ 1000 := by
  unfold lsT
  split
  · rename_i q
    have := dst_bd hA.lkin hk q
    omega
  · omega
/-- A chain of links from a to n. -/
inductive ChK (ls : List Lk) (n : Nat) : Nat → List Nat → Prop
  | nil : ChK ls n n []
  | cons {a k : Nat} {t : List Nat} (hk : k < ls.length) (hf : lF ls k = (a : Int)) (h : ChK ls n (tW ls k) t) : ChK ls n a (k :: t)
theorem pth_ok {ls : List Lk} {N n : Nat} (hi : LkIn ls N) (hn : n < N) : ∀ m a, a ∈ abL ls N n → dst ls n a = m → (pthK ls (farL ls N n) n m a).length = m ∧ ChK ls n a (pthK ls (farL ls N n) n m a)
  | 0, a, ha, hd => by
    have e := dst_zero ((ab_iff hi hn).1 ha) hd
    subst e
    exact ⟨rfl, .nil⟩
  | m + 1, a, ha, hd => by
    have hne : a ≠ n := fun e => by rw [e, dst_self] at hd; omega
    rw [pthK, if_neg hne]
    obtain ⟨b, hb, hu, hdb⟩ := dst_down ((ab_iff hi hn).1 ha) hd
    obtain ⟨k0, hk0, e0⟩ := up_to hi hb
    have hf0 : farL ls N n a = (m : Int) + 1 := by rw [far_eq hi hn a, if_pos ha, hd]; omega
    cases hf : (toK ls a).find? (fun k => decide (farL ls N n (tW ls k) = farL ls N n a - 1)) with
    | none =>
      rw [List.find?_eq_none] at hf
      have h1 := hf k0 hk0
      rw [e0, far_eq hi hn b, if_pos ((ab_iff hi hn).2 hu), hdb, hf0] at h1
      simp at h1
    | some k =>
      have h1 := List.find?_some hf
      have h2 := List.mem_of_find?_eq_some hf
      simp only [decide_eq_true_eq] at h1
      rw [hf0, far_eq hi hn] at h1
      by_cases hk : tW ls k ∈ abL ls N n
      · rw [if_pos hk] at h1
        obtain ⟨g1, g2⟩ := toK_mem.1 h2
        obtain ⟨g3, g4⟩ := pth_ok hi hn m (tW ls k) hk (by omega)
        exact ⟨by dsimp only; rw [List.length_cons, g3], .cons g1 g2 g4⟩
      · rw [if_neg hk] at h1
        omega
/-- The word behind i links. -/
def atW (ls : List Lk) (a : Nat) (t : List Nat) (i : Nat) : Nat := if i = 0 then a else tW ls (t.getD (i - 1) 0)
theorem ChK.at {ls : List Lk} {n a : Nat} {t : List Nat} (h : ChK ls n a t) : (∀ i, i < t.length → t.getD i 0 < ls.length ∧ lF ls (t.getD i 0) = (atW ls a t i : Int)) ∧ atW ls a t t.length = n := by
  induction h with
  | nil => exact ⟨fun i h => absurd h (by simp), rfl⟩
  | @cons a k t hk hf _ ih =>
    obtain ⟨h1, h2⟩ := ih
    have hat : ∀ i, atW ls a (k :: t) (i + 1) = atW ls (tW ls k) t i := fun i => by
      unfold atW
      rw [if_neg (by omega)]
      cases i with
      | zero => rfl
      | succ i => rw [if_neg (by omega)]; rfl
    refine ⟨fun i hi => ?_, ?_⟩
    · cases i with
      | zero => exact ⟨hk, hf⟩
      | succ i =>
        have := h1 i (by simpa using hi)
        rw [hat]; exact this
    · rw [List.length_cons, hat]; exact h2
end Go.Proofs.YtmfomjaomhohkaaDoor
namespace Go.Proofs.YtmfomjaomhohkaaDoor
open Go Go.RowKit Go.Shelf
theorem ints_madeQ (n : Nat) : madeCells #[Value.int .i64 0] n = ofF n (fun _ => .int .i64 0) := by
  apply Array.ext
  · simp [madeCells, ofF]
  · intro i h1 h2
    simp [madeCells, ofF, Nat.mod_one]
theorem map_getDQ {α β : Type} (f : α → β) (t : List α) (i : Nat) (h : i < t.length) (d : α) (d' : β) : (t.map f).getD i d' = f (t.getD i d) := by
  rw [List.getD_eq_getElem?_getD, List.getElem?_map, List.getElem?_eq_getElem h, List.getD_eq_getElem?_getD, List.getElem?_eq_getElem h]; rfl
theorem pthL_no {ls : List Lk} {S T A : Nat} (h : ¬ A ∈ abL ls S T) : pthL ls S T A = [] := by unfold pthL; rw [if_neg h]
set_option maxHeartbeats 16000000 in
set_option maxRecDepth 100000 in
theorem ways_any (x : Nat) (a : Option Addr) (n c : Nat) (l : List T3) (u v : Nat) (w : World) (hx : x < 256) (hl : l.length = n) (hn : n ≤ 1152921504606846976) (hA : Rd w a (fl enc3 l)) (hF : ∀ t ∈ l, t.1 < 256 ∧ t.2.1 < 256 ∧ t.2.2 < 256) (hu : u < 256) (hv : v < 256) :
    Calls Tryd.prog 4 #[.int .u8 x, .slice a n c, .int .u8 u, .int .u8 v] w fun e w' => e = .returned (.bool true) ∧ Below w.heap.size w w' := by
  have HGW := Lib.hid (grown_any x (grS x) rfl a n c l w hx hl hn hA hF)
  have hS10 : grS x ≤ 10 := by unfold grS; omega
  have hS1 : 1 ≤ grS x := by unfold grS; omega
  have HAS : Hid (Asc (grL (grS x) l) (grS x)) := asc_grL (by omega) l
  have HLE : Hid ((grE (grS x)).length = grS x) := grE_len _
  obtain ⟨S, hS⟩ : ∃ y, y = grS x := ⟨_, rfl⟩
  rw [← hS] at HGW HAS HLE hS10 hS1
  have hm20 := grL_len S l
  obtain ⟨ls, hls⟩ : ∃ y, y = grL S l := ⟨_, rfl⟩
  rw [← hls] at HGW HAS hm20
  clear hl hn hA hF hS hls
  obtain ⟨T, hAe⟩ : ∃ y, y = u % S := ⟨_, rfl⟩
  obtain ⟨A, hBe⟩ : ∃ y, y = v % S := ⟨_, rfl⟩
  have hp : ((u : Nat) : Int) % (S : Int) = ((T : Nat) : Int) := by rw [hAe]; exact (Int.natCast_emod u S).symm
  have hq : ((v : Nat) : Int) % (S : Int) = ((A : Nat) : Int) := by rw [hBe]; exact (Int.natCast_emod v S).symm
  have hTS : T < S := by rw [hAe]; exact Nat.mod_lt _ (by omega)
  have hAS : A < S := by rw [hBe]; exact Nat.mod_lt _ (by omega)
  have hS0 : (S : Int) ≠ 0 := by omega
  clear hAe hBe
  go_enter Tryd.func4, Tryd.ntmps4
  go_wp2_with fail
  refine HGW.out.mono ?_
  rintro e w1 ⟨O, g, r, vv, rfl, hG, hX, hXO, hOb, hb1⟩
  obtain ⟨va, vc, rfl, _⟩ := owns_slice hX
  obtain ⟨m, hm⟩ : ∃ y, y = ls.length := ⟨_, rfl⟩
  rw [← hm] at hX hXO
  have HM := Lib.hid hm
  have HG := Lib.hid hG
  have HX := Lib.hid (rd_of_owns hX)
  rw [← hm] at hm20
  have HB1 := Lib.hid hb1
  have HLN := Lib.hid (len_yes hG)
  rw [HLE.out] at HLN
  rw [← hm]
  clear hm hG hX hb1 HGW hXO hOb
  go_wp2_with first | fail | (go_at_call 11; refine HLN.out.mono ?_; rintro e w2 ⟨rfl, hw2⟩; subst w2)
  go_quiet (fail)
  obtain ⟨w3, hw3⟩ : ∃ y, y = w1.drewN nq := ⟨_, rfl⟩
  have hb3 : Below w1.heap.size w1 w3 := by rw [hw3]; exact bl_drewN (Below.refl _ w1) nq
  rw [← hw3]
  have HB3 := Lib.hid hb3
  have HG3 := Lib.hid (HG.out.bl hb3)
  clear hw3 hb3
  try simp only [hp, hq]
  clear hp hq hS0
  have hpa := path_any HG3.out (T : Int) (A : Int)
  have hT : hasB (T : Int) S = true := by unfold hasB; simp; omega
  have hA : hasB (A : Int) S = true := by unfold hasB; simp; omega
  have e1 : ckE (grE S).length [(T : Int), (A : Int)] = 0 := by rw [ckE_two, HLE.out, hT, hA]; rfl
  have e2 : pthB ls (grE S).length (T : Int) (A : Int) = decide (A ∈ abL ls S T) := by unfold pthB; rw [HLE.out, hT, hA]; rfl
  have e3 : pthO ls (grE S).length (T : Int) (A : Int) = pthL ls S T A := by unfold pthO; rw [HLE.out, hT, hA]; rfl
  rw [e1, e2, e3] at hpa
  have HPA := Lib.hid hpa
  clear hpa hT hA e1 e2 e3
  go_wp2_with fail
  refine HPA.out.mono ?_
  rintro e w4 ⟨v4, rfl, ho4, hb4⟩
  obtain ⟨a4, c4, rfl, _⟩ := owns_slice ho4
  obtain ⟨bb, hbb⟩ : ∃ y, y = decide (A ∈ abL ls S T) := ⟨_, rfl⟩
  rw [← hbb]
  have tbb : (bb != bb) = false := by simp
  have HBB := Lib.hid hbb
  have HB4 := Lib.hid (bl_trans HB3.out hb4)
  have HX4 := Lib.hid (HX.out.bl (bl_trans HB3.out hb4))
  have HFR := Lib.hid (from_any va m vc S ls w4 HM.out.symm (by omega) hS10 hS1 HX4.out HAS.out)
  have HW4 := Lib.hid (rd_of_owns ho4)
  obtain ⟨N, hN⟩ : ∃ y, y = (pthL ls S T A).length := ⟨_, rfl⟩
  rw [← hN]
  have HN := Lib.hid hN
  clear hbb hb4 ho4 HPA hN
  go_wp2_with fail
  refine HFR.out.mono ?_
  rintro e w5 ⟨v7, rs, rfl, hF7⟩
  obtain ⟨g7, c7, D7, o7, d7, rfl, _, f1, _, f2⟩ := hF7.cell hTS hS1
  have f3 := f2 A hAS
  rw [← HBB.out] at f3
  have HB5 := Lib.hid (bl_trans HB4.out hF7.bl)
  have HX5 := Lib.hid (HX4.out.bl hF7.bl)
  have HW5 := Lib.hid (HW4.out.bl hF7.bl)
  clear f2 hF7 HFR
  cases bb with
  | false =>
    have h0 : N = 0 := by rw [HN.out, pthL_no (of_decide_eq_false HBB.out.symm)]; rfl
    subst h0
    have HWK := Lib.hid (works_any w5)
    go_wp2_with first | fail | (go_at_call 18; refine HWK.out.mono ?_; rintro e w6 ⟨rfl, hb6⟩; have HB6 := Lib.hid hb6; clear hb6)
    go_ret
    exact ⟨rfl, HB1.out.trans ((bl_trans HB5.out HB6.out).mono HB1.out.size)⟩
  | true =>
    have hr : A ∈ abL ls S T := of_decide_eq_true HBB.out.symm
    obtain ⟨hp1, hp2⟩ := pth_ok HAS.out.lkin hTS (dst ls T A) A hr rfl
    have hN2 : N = dst ls T A := by rw [HN.out]; unfold pthL; rw [if_pos hr, List.length_map, hp1]
    have hN10 : N ≤ 10 := by rw [hN2]; have := dst_bd HAS.out.lkin hTS hr; omega
    obtain ⟨hc1, hc2⟩ := hp2.at
    obtain ⟨t, ht⟩ : ∃ t, t = pthK ls (farL ls S T) T (dst ls T A) A := ⟨_, rfl⟩
    rw [← ht] at hp1 hc1 hc2
    have hpt : pthL ls S T A = t.map fun k => ls.getD k lkD := by unfold pthL; rw [if_pos hr, ht]
    rw [hpt] at HW5
    have HTL : Hid (t.length = N) := by show _ = _; rw [hp1, hN2]
    have HC1 := Lib.hid hc1
    have HC2 := Lib.hid hc2
    have HND : Hid (N = lsT ls S A T) := by show _ = _; rw [hN2]; unfold lsT; rw [if_pos hr]
    obtain ⟨i1, hi0, hz0, hz1, hz2⟩ := info_parts info_I
    have hmb := fun w => run_make (P := Tryd.prog) w 31 3 i1 _ Tryd.underlying31 hi0 hz0 .i64 .i64 (S : Int) (S : Int) (by omega) (by omega) (by rw [hz2]; omega) (by omega)
    simp only [hz1, Int.toNat_natCast, Nat.mul_one] at hmb
    have hk2 := hmb w5
    clear hi0 hz0 hz1 hz2 hmb hr hp1 hp2 hN2 hc1 hc2 ht hpt
    have hb6 := bl_alloc (Below.refl _ w5) (.cells (madeCells #[.int .i64 0] S) 3)
    have hL6 : Blk (w5.alloc (.cells (madeCells #[.int .i64 0] S) 3)) w5.heap.size (ofF S fun j => .int .i64 ((if j < 0 then lsT ls S A j else 0 : Nat) : Int)) 3 := by
      have h := Blk.new w5 (madeCells #[.int .i64 0] S) 3
      rw [ints_madeQ] at h ⊢
      rwa [show (ofF S fun _ => Value.int .i64 0) = ofF S fun j => .int .i64 ((if j < 0 then lsT ls S A j else 0 : Nat) : Int) from ofF_congr fun j _ => by rw [if_neg (Nat.not_lt_zero j)]; rfl] at h
    have HB6 := Lib.hid hb6
    have HL6 := Lib.hid hL6
    clear hb6 hL6
    go_wp2_with fail
    obtain ⟨w6, hw6⟩ : ∃ y, y = w5.alloc (.cells (madeCells #[.int .i64 0] S) 3) := ⟨_, rfl⟩
    obtain ⟨L, hL⟩ : ∃ y, y = w5.heap.size := ⟨_, rfl⟩
    rw [← hw6] at HB6 HL6 ⊢
    rw [← hL] at HL6 ⊢
    have HLL := Lib.hid hL
    clear hw6 hL hk2 f1 f3 tbb
    go_loopw [18] (fun y wr => ∃ k : Nat, k ≤ S ∧ y = .int .i64 k ∧ Hid (Blk wr L (ofF S fun j => .int .i64 ((if j < k then lsT ls S A j else 0 : Nat) : Int)) 3) ∧ Hid (Below w5.heap.size w5 wr)) (fun y _ => S - (intOf y).toNat)
    case atStart => exact ⟨0, by omega, rfl, HL6, HB6⟩
    case round =>
      clear HL6 HB6
      obtain ⟨k, hk, rfl, hL, hB⟩ := hrel
      obtain ⟨wo, rfl⟩ : ∃ wo : World, wo = wr := ⟨_, rfl⟩
      by_cases hlt : k < S
      · have d0 := hL.out.getF k hlt
        have f0 : wo.frozen? ⟨L, k, none⟩ = false := hL.out.free k
        rw [if_neg (Nat.lt_irrefl k)] at d0
        have hL1 := hL.out.setF k (.int .i64 1000)
        have HL1 := Lib.hid hL1
        have hB1 := bl_set hB.out L k none (.int .i64 1000) (by rw [HLL.out]; exact Nat.le_refl _)
        have HB1' := Lib.hid hB1
        clear hL1 hB1
        go_upto_if 84 with fail
        go_cut [17] (fun s wx => s = .slice (some ⟨L, 0, none⟩) S S ∧ Hid (Blk wx L (ofF S fun j => .int .i64 ((if j < k then lsT ls S A j else if j = k then lsP ls S A k 0 else 0 : Nat) : Int)) 3) ∧ Hid (Below w5.heap.size w5 wx))
        case first =>
          obtain ⟨wq, hwq⟩ : ∃ y, y = wo.setCell ⟨L, k, none⟩ (.int .i64 1000) := ⟨_, rfl⟩
          rw [← hwq] at HL1 HB1' ⊢
          clear hwq d0 f0
          by_cases e : k = A
          · have HKA := Lib.hid e
            have e1 : ((k : Int) == (A : Int)) = true := by simp; omega
            have f1 : wq.frozen? ⟨L, k, none⟩ = false := HL1.out.free k
            have d1 := HL1.out.getF k hlt
            rw [if_pos rfl] at d1
            have HL2 := Lib.hid (HL1.out.setF k (.int .i64 0))
            have HB2 := Lib.hid (bl_set HB1'.out L k none (.int .i64 0) (by rw [HLL.out]; exact Nat.le_refl _))
            clear e
            go_wp2_with fail
            go_meet
            refine ⟨rfl, ?_, HB2.out⟩
            have h := HL2.out
            rwa [show (ofF S fun j => if j = k then Value.int .i64 0 else if j = k then Value.int .i64 1000 else Value.int .i64 ((if j < k then lsT ls S A j else 0 : Nat) : Int)) = ofF S fun j => .int .i64 ((if j < k then lsT ls S A j else if j = k then lsP ls S A k 0 else 0 : Nat) : Int) from ofF_congr fun j _ => by
              by_cases q : j = k
              · subst q; rw [if_pos rfl, if_neg (Nat.lt_irrefl j), if_pos rfl, show lsP ls S A j 0 = 0 from if_pos HKA.out]; rfl
              · rw [if_neg q, if_neg q, if_neg q]] at h
          · have HKA := Lib.hid e
            have e1 : ((k : Int) == (A : Int)) = false := by simp; omega
            clear e
            go_wp2_with fail
            go_meet
            refine ⟨rfl, ?_, HB1'.out⟩
            have h := HL1.out
            rwa [show (ofF S fun j => if j = k then Value.int .i64 1000 else Value.int .i64 ((if j < k then lsT ls S A j else 0 : Nat) : Int)) = ofF S fun j => .int .i64 ((if j < k then lsT ls S A j else if j = k then lsP ls S A k 0 else 0 : Nat) : Int) from ofF_congr fun j _ => by
              by_cases q : j = k
              · subst q; rw [if_pos rfl, if_neg (Nat.lt_irrefl j), if_pos rfl, show lsP ls S A j 0 = 1000 from if_neg HKA.out]; rfl
              · rw [if_neg q, if_neg q]] at h
        case rest =>
          obtain ⟨rfl, hL2, hB2⟩ := hcut
          clear d0 f0 HL1 HB1' hL hB
          go_wp2_with fail
          go_loopw [19] (fun y wr => ∃ i : Nat, i ≤ m ∧ y = .int .i64 i ∧ Hid (Blk wr L (ofF S fun j => .int .i64 ((if j < k then lsT ls S A j else if j = k then lsP ls S A k i else 0 : Nat) : Int)) 3) ∧ Hid (Below w5.heap.size w5 wr)) (fun y _ => m - (intOf y).toNat)
          case atStart => exact ⟨0, by omega, rfl, hL2, hB2⟩
          case round =>
            clear hL2 hB2
            obtain ⟨i, hi, rfl, hL3, hB3⟩ := hrel
            by_cases him : i < m
            · have hil : i < ls.length := by rw [← HM.out]; exact him
              obtain ⟨b1, o1, rfl, hbl, hc⟩ := rdLk (HX5.out.bl hB3.out) (by omega)
              obtain ⟨_, c1, c2⟩ := hc i hil
              obtain ⟨p, q, hp, hq, hpq, hqS⟩ := HAS.out.at hil
              rw [hp] at c1
              rw [hq] at c2
              have HQ := Lib.hid hq
              have HP := Lib.hid hp
              have hsu := lsP_succ ls S A k i
              rw [hp, hq, Int.toNat_natCast] at hsu
              have hP1 : lsP ls S A k i ≤ 1000 := by have := lsP_start ls S A k i; split at this <;> omega
              have hP2 := lsT_bd HAS.out hS10 (show p < S by omega) (a := A)
              clear hc hp hq
              by_cases e1 : q = k
              · have e1' := e1.symm
                subst e1'
                rw [if_pos rfl] at hsu
                have d1 := hL3.out.getF k hlt
                rw [if_neg (Nat.lt_irrefl k), if_pos rfl] at d1
                have d2 := hL3.out.getF p (by omega)
                rw [if_pos hpq] at d2
                have hL4 : ∀ nq, Blk ((wr.drewN nq).setCell ⟨L, k, none⟩ (.int .i64 ((lsP ls S A k (i + 1) : Nat) : Int))) L (ofF S fun j => .int .i64 ((if j < k then lsT ls S A j else if j = k then lsP ls S A k (i + 1) else 0 : Nat) : Int)) 3 := fun nq => by
                  have h := (hL3.out.drewN nq).setF k (.int .i64 ((lsP ls S A k (i + 1) : Nat) : Int))
                  rwa [show (ofF S fun j => if j = k then Value.int .i64 ((lsP ls S A k (i + 1) : Nat) : Int) else Value.int .i64 ((if j < k then lsT ls S A j else if j = k then lsP ls S A k i else 0 : Nat) : Int)) = ofF S fun j => .int .i64 ((if j < k then lsT ls S A j else if j = k then lsP ls S A k (i + 1) else 0 : Nat) : Int) from ofF_congr fun j _ => by
                    by_cases q : j = k
                    · subst q; rw [if_pos rfl, if_neg (Nat.lt_irrefl j), if_pos rfl]
                    · rw [if_neg q, if_neg q, if_neg q]] at h
                have HL4 := Lib.hid hL4
                have F4 : Hid (∀ nq, (wr.drewN nq).frozen? ⟨L, k, none⟩ = false) := fun nq => (hL3.out.drewN nq).free k
                obtain ⟨R, hR⟩ : ∃ y, y = lsP ls S A k (i + 1) := ⟨_, rfl⟩
                rw [← hR] at hsu HL4
                obtain ⟨P, hPe⟩ : ∃ y, y = lsP ls S A k i := ⟨_, rfl⟩
                obtain ⟨Q, hQe⟩ : ∃ y, y = lsT ls S A p := ⟨_, rfl⟩
                rw [← hPe] at hsu hP1 d1
                rw [← hQe] at hsu hP2 d2
                have HR := Lib.hid hR
                have HSU := Lib.hid hsu
                clear hR hPe hQe hsu hL4
                go_upto_region 22 with fail
                refine wp_quiet_tail_lit 17 (by kernel_rfl) (by kernel_rfl) ?_
                simp only [List.take_succ_cons, List.take_zero, List.drop_succ_cons, List.drop_zero]
                repeat (go_big_quiet_step (fail))
                refine wpQuiet_nil ?_
                intro _ hw'
                obtain ⟨nq, hw''⟩ := hw'
                subst hw''
                try simp only [Act.put, List.setIfInBounds_toArray, List.set_cons_zero, List.set_cons_succ]
                have hmn : (if (P : Int) ≤ (Q : Int) + 1 then (P : Int) else (Q : Int) + 1) = (R : Int) := by
                  rw [HSU.out]; split <;> omega
                have hmm : min (P : Int) ((Q : Int) + 1) = (R : Int) := by rw [HSU.out]; omega
                have f4 := F4.out nq
                have c4' : (wr.drewN nq).cell? ⟨L, k, none⟩ = some (.int .i64 (P : Int)) := d1
                first
                  | simp only [hmn]
                  | simp only [hmm]
                clear F4 hmn hmm c1 c2 d1 d2
                go_wp2_with fail
                have HL5 : Hid (Blk ((wr.drewN nq).setCell ⟨L, k, none⟩ (.int .i64 (R : Int))) L (ofF S fun j => .int .i64 ((if j < k then lsT ls S A j else if j = k then lsP ls S A k (i + 1) else 0 : Nat) : Int)) 3) := by
                  have h := HL4.out nq
                  rw [HR.out] at h ⊢; exact h
                have HB5' : Hid (Below w5.heap.size w5 ((wr.drewN nq).setCell ⟨L, k, none⟩ (.int .i64 (R : Int)))) := bl_set (bl_drewN hB3.out nq) L k none _ (by rw [HLL.out]; exact Nat.le_refl _)
                go_roundw
                case rel => exact ⟨i + 1, by omega, by go_num, HL5, HB5'⟩
                case measure => simp [intOf]; omega
              · have e2 : ((q : Int) == (k : Int)) = false := by simp; omega
                rw [if_neg (by omega)] at hsu
                have hL4 := hL3.out
                rw [← hsu] at hL4
                have HL4 := Lib.hid hL4
                clear hL3 hL4 hsu
                go_wp2_with fail
                go_roundw
                case rel => exact ⟨i + 1, by omega, by go_num, HL4, hB3⟩
                case measure => simp [intOf]; omega
            · have him2 : i = m := by omega
              subst i
              have HL4 : Hid (Blk wr L (ofF S fun j => .int .i64 ((if j < k + 1 then lsT ls S A j else 0 : Nat) : Int)) 3) := by
                have h := hL3.out
                rwa [show (ofF S fun j => Value.int .i64 ((if j < k then lsT ls S A j else if j = k then lsP ls S A k m else 0 : Nat) : Int)) = ofF S fun j => .int .i64 ((if j < k + 1 then lsT ls S A j else 0 : Nat) : Int) from ofF_congr fun j _ => by
                  by_cases q : j < k
                  · rw [if_pos q, if_pos (by omega)]
                  · rw [if_neg q]
                    by_cases q2 : j = k
                    · subst q2; rw [if_pos rfl, if_pos (by omega), HM.out, lsP_full HAS.out hS10 hAS hlt]
                    · rw [if_neg q2, if_neg (by omega)]] at h
              clear hL3
              go_wp2_with fail
              go_roundw
              case rel => exact ⟨k + 1, by omega, by go_num, HL4, hB3⟩
              case measure => simp [intOf]; omega
      · have hkS : k = S := by omega
        subst k
        have d1 := hL.out.getF T hTS
        rw [if_pos hTS, ← HND.out] at d1
        have hNN : ((N : Int) != (N : Int)) = false := by simp
        clear hL
        go_wp2_with fail
        have HAT0 : Hid (atW ls A t 0 = A) := rfl
        have HQ0 : Hid (∃ nq, wo = wo.drewN nq) := ⟨0, rfl⟩
        have HX6 := Lib.hid (HX5.out.bl hB.out)
        have HW6 := Lib.hid (HW5.out.bl hB.out)
        clear d1 hNN
        go_loopw [20, 13] (fun y z wr => ∃ i q : Nat, i ≤ N ∧ y = .int .i64 i ∧ z = .int .i64 q ∧ Hid (atW ls A t i = q) ∧ Hid (∃ nq, wr = wo.drewN nq)) (fun y _ _ => N - (intOf y).toNat)
        case atStart => exact ⟨0, A, by omega, rfl, rfl, HAT0, HQ0⟩
        case round =>
          clear HAT0 HQ0
          obtain ⟨i, q, hi, rfl, rfl, hat, hw⟩ := hrel
          obtain ⟨n0, rfl⟩ := hw.out
          clear hw
          by_cases hiN : i < N
          · obtain ⟨hK1, hK2⟩ := HC1.out i (by rw [HTL.out]; exact hiN)
            obtain ⟨p', q', hp', hq', hpq', hqS'⟩ := HAS.out.at hK1
            obtain ⟨b4, o4, rfl, _, hc⟩ := rdLk HW6.out (by rw [List.length_map, HTL.out]; omega)
            obtain ⟨Y0, Y1, Y2⟩ := hc i (by rw [List.length_map, HTL.out]; omega)
            obtain ⟨KI, hKI⟩ : ∃ y, y = t.getD i 0 := ⟨_, rfl⟩
            rw [← hKI] at hK1 hK2 hp' hq'
            have hg : (t.map fun k => ls.getD k lkD).getD i (0, 0, 0) = ls.getD KI (0, 0, 0) := by
              rw [hKI]; exact map_getDQ _ t i (by rw [HTL.out]; exact hiN) 0 _
            have g1 : lF (t.map fun k => ls.getD k lkD) i = (q : Int) := by rw [← hat.out, ← hK2]; unfold lF; rw [hg]
            have g2 : lT (t.map fun k => ls.getD k lkD) i = (q' : Int) := by rw [← hq']; unfold lT; rw [hg]
            have hY : (lK (t.map fun k => ls.getD k lkD) i, (q : Int), (q' : Int)) ∈ ls := by
              rw [← g1, ← g2]; unfold lK lF lT; rw [hg, List.getD_eq_getElem?_getD, List.getElem?_eq_getElem hK1]; exact List.getElem_mem hK1
            have hat1 : atW ls A t (i + 1) = q' := by
              unfold atW
              rw [if_neg (by omega), Nat.add_sub_cancel, ← hKI]
              unfold tW
              rw [hq', Int.toNat_natCast]
            rw [g1] at Y1
            rw [g2] at Y2
            obtain ⟨Y, hYe⟩ : ∃ y, y = lK (t.map fun k => ls.getD k lkD) i := ⟨_, rfl⟩
            rw [← hYe] at Y0 hY
            have HYM := Lib.hid hY
            have HAT1 := Lib.hid hat1
            clear hc hKI hg g1 g2 hYe hY hat1 hK1 hK2 hp' hq'
            have hqq : ((q : Int) != (q : Int)) = false := by simp
            go_wp2_with fail
            have HK0 : Hid (false = decide ((Y, (q : Int), (q' : Int)) ∈ ls.take 0)) := by show _ = _; simp
            have HW0 : Hid (∃ nq, wo.drewN n0 = wo.drewN nq) := ⟨n0, rfl⟩
            go_loopw [22, 21] (fun y kn wr => ∃ (k : Nat) (kb : Bool), k ≤ m ∧ y = .int .i64 k ∧ kn = .bool kb ∧ Hid (kb = decide ((Y, (q : Int), (q' : Int)) ∈ ls.take k)) ∧ Hid (∃ nq, wr = wo.drewN nq)) (fun y _ _ => m - (intOf y).toNat)
            case atStart => exact ⟨0, false, by omega, rfl, rfl, HK0, HW0⟩
            case round =>
              clear HW0 HK0
              obtain ⟨k, kb, hk, rfl, rfl, hkb, hw⟩ := hrel
              obtain ⟨n1, rfl⟩ := hw.out
              clear hw
              by_cases hkm : k < m
              · have hkl : k < ls.length := by rw [← HM.out]; exact hkm
                obtain ⟨b1, o1, rfl, _, hd⟩ := rdLk HX6.out (by omega)
                obtain ⟨A0, A1, A2⟩ := hd k hkl
                have hgd := guardLk
                obtain ⟨x0, hx0⟩ : ∃ y, y = lK ls k := ⟨_, rfl⟩
                obtain ⟨x1, hx1⟩ : ∃ y, y = lF ls k := ⟨_, rfl⟩
                obtain ⟨x2, hx2⟩ : ∃ y, y = lT ls k := ⟨_, rfl⟩
                rw [← hx0] at A0
                rw [← hx1] at A1
                rw [← hx2] at A2
                have HT : Hid (ls.take (k + 1) = ls.take k ++ [(x0, x1, x2)]) := by
                  show _ = _
                  rw [hx0, hx1, hx2]; unfold lK lF lT
                  rw [List.take_add_one, List.getElem?_eq_getElem hkl, List.getD_eq_getElem?_getD, List.getElem?_eq_getElem hkl]
                  rfl
                clear hx0 hx1 hx2 hd
                cases kb with
                | true =>
                  have HK1 : Hid (true = decide ((Y, (q : Int), (q' : Int)) ∈ ls.take (k + 1))) := by
                    show _ = _
                    rw [HT.out]
                    exact (decide_eq_true (List.mem_append.2 (.inl (of_decide_eq_true hkb.out.symm)))).symm
                  clear hkb
                  go_wp2_with fail
                  go_quiet (fail)
                  go_wp2_with fail
                  go_roundw
                  case rel => exact ⟨k + 1, true, by omega, by go_num, rfl, HK1, n1 + nq, by simp⟩
                  case measure => simp [intOf]; omega
                | false =>
                  by_cases e : x0 = Y ∧ x1 = (q : Int) ∧ x2 = (q' : Int)
                  · have HK1 : Hid (true = decide ((Y, (q : Int), (q' : Int)) ∈ ls.take (k + 1))) := by
                      show _ = _
                      rw [HT.out]
                      obtain ⟨rfl, rfl, rfl⟩ := e
                      exact (decide_eq_true (List.mem_append.2 (.inr (List.mem_singleton.2 rfl)))).symm
                    have hn1 : ∀ W, (binOp .eql 33 (.agg #[.int .i64 x0, .int .i64 x1, .int .i64 x2]) (.agg #[.int .i64 Y, .int .i64 (q : Int), .int .i64 (q' : Int)])).run Tryd.prog W = .ok (.bool true) W := fun W => by rw [eqlLk, decide_eq_true e]
                    clear hkb e
                    go_wp2_with fail
                    go_quiet (fail)
                    go_wp2_with fail
                    go_roundw
                    case rel => exact ⟨k + 1, true, by omega, by go_num, rfl, HK1, n1 + nq, by simp⟩
                    case measure => simp [intOf]; omega
                  · have HK1 : Hid (false = decide ((Y, (q : Int), (q' : Int)) ∈ ls.take (k + 1))) := by
                      show _ = _
                      rw [HT.out]
                      refine (decide_eq_false fun q => ?_).symm
                      rcases List.mem_append.1 q with q | q
                      · exact of_decide_eq_false hkb.out.symm q
                      · rw [List.mem_singleton] at q
                        cases q
                        exact e ⟨rfl, rfl, rfl⟩
                    have hn1 : ∀ W, (binOp .eql 33 (.agg #[.int .i64 x0, .int .i64 x1, .int .i64 x2]) (.agg #[.int .i64 Y, .int .i64 (q : Int), .int .i64 (q' : Int)])).run Tryd.prog W = .ok (.bool false) W := fun W => by rw [eqlLk, decide_eq_false e]
                    clear hkb e
                    go_wp2_with fail
                    go_quiet (fail)
                    go_wp2_with fail
                    go_roundw
                    case rel => exact ⟨k + 1, false, by omega, by go_num, rfl, HK1, n1 + nq, by simp⟩
                    case measure => simp [intOf]; omega
              · have hkm2 : k = m := by omega
                subst k
                obtain rfl : kb = true := by
                  rw [hkb.out]
                  refine decide_eq_true ?_
                  rw [List.take_of_length_le (by rw [← HM.out]; exact Nat.le_refl _)]
                  exact HYM.out
                clear hkb hkm
                have HW1 : Hid (∃ nq, wo.drewN n1 = wo.drewN nq) := ⟨n1, rfl⟩
                go_wp2_with fail
                go_roundw
                case rel => exact ⟨i + 1, q', by omega, by go_num, rfl, HAT1, HW1⟩
                case measure => simp [intOf]; omega
          · have hiN2 : i = N := by omega
            subst i
            have hqT : q = T := by rw [← hat.out, ← HTL.out]; exact HC2.out
            subst hqT
            have hTT : ((q : Int) == (q : Int)) = true := by simp
            have HWK := Lib.hid (works_any (wo.drewN n0))
            clear hat
            go_wp2_with first | fail | (go_at_call 18; refine HWK.out.mono ?_; rintro e w6 ⟨rfl, hb6⟩; have HB6 := Lib.hid hb6; clear hb6)
            go_ret
            exact ⟨rfl, HB1.out.trans ((bl_trans HB5.out (bl_trans hB.out (bl_trans (bl_drewN (Below.refl _ wo) n0) HB6.out))).mono HB1.out.size)⟩
end Go.Proofs.YtmfomjaomhohkaaDoor
