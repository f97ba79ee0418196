/- A region that draws its order: reads come first, then forced operations that keep a condition on the world; the last one may break it. -/
import Derived.Test.YtahgffjkkdbjeaaDoorQT
import Derived.Deep.RegionHeld3
namespace Go.Proofs.YtahgffjkkdbjeaaDoor
open Go
section
variable {P : Program} {ops : Array Oper} {md : Region.Mode} {S : World → Prop} {Q : Exit → Act → World → Prop}

/-- The forced operations that keep S, one after another; then K. -/
def midT (P : Program) (ops : Array Oper) (Q : Exit → Act → World → Prop) (S : World → Prop) (K : Act → World → Prop) : List Nat → Act → World → Prop
  | [], a, w => K a w
  | k :: ms, a, w => wpOp P ops Q k (fun a' w' => S w' ∧ midT P ops Q S K ms a' w') a w

/-- The reads, one after another: the world stays. -/
def headT (P : Program) (ops : Array Oper) (S : World → Prop) (L : Act → Prop) : List Nat → Act → Prop
  | [], a => L a
  | k :: is, a => ∃ o v, ops[k]? = some o ∧ YieldsIf P ops S o v a ∧ headT P ops S L is (a.put o.dst v)

/-- Whatever order is picked for the first n; the others are forced. -/
def anyT (P : Program) (md : Region.Mode) (ops : Array Oper) (Q : Exit → Act → World → Prop) (S : World → Prop) (n : Nat) (K : Act → World → Prop) : Nat → Array Bool → Act → World → Prop
  | 0, listed, a, w => Region.seqB md ops (ops.size - n) n listed = true ∧ K a w
  | f + 1, listed, a, w => Region.ready md ops listed ≠ [] ∧ ∀ i ∈ Region.ready md ops listed, i < n ∧ wpOp P ops Q i (fun a' w' => S w' ∧ anyT P md ops Q S n K f (listed.setIfInBounds i true) a' w') a w

theorem any_of_T {n g : Nat} {K : Act → World → Prop} (hK : ∀ listed a w, Region.seqB md ops (ops.size - n) n listed = true → K a w → wpAny P md ops Q g listed a w) :
    ∀ (f : Nat) (listed : Array Bool) (a : Act) (w : World), anyT P md ops Q S n K f listed a w → wpAny P md ops Q (f + g) listed a w
  | 0, listed, a, w, h => by rw [Nat.zero_add]; exact hK _ _ _ h.1 h.2
  | f + 1, listed, a, w, h => by
    rw [show f + 1 + g = (f + g) + 1 by omega]
    exact ⟨fun h0 => absurd h0 h.1, fun i hi => wpOp_mono (fun a' w' h' => any_of_T hK f _ a' w' h'.2) (h.2 i hi).2⟩

theorem anyT_first {n i : Nat} {K : Act → World → Prop} {oi : Oper} {v : Value} (hi : ops[i]? = some oi) (hsel : ∀ (j : Nat) (o : Oper) cs b, ops[j]? = some o → o.op ≠ .select cs b)
    (hs : Region.sinkB md ops n = true) (hc : Region.chainB md ops n = true) (hn : n < ops.size) (hin : i < n)
    (hQ : ∀ c a w, Q (.panic c) (a.put oi.dst v) w → Q (.panic c) a w) :
    ∀ (f : Nat) (listed : Array Bool) (a : Act) (w : World), HeadInv md ops n listed →
      (∀ j oj, ops[j]? = some oj → j ≠ i → listed.getD j true = false → (∀ e ∈ oj.after, Region.binds md e = true → e.on ≠ i) → oi.apart ops oj = true) →
      i ∈ Region.ready md ops listed → YieldsIf P ops S oi v a → S w →
      anyT P md ops Q S n K f (listed.setIfInBounds i true) (a.put oi.dst v) w → anyT P md ops Q S n K (f + 1) listed a w := by
  intro f
  induction f with
  | zero =>
    intro listed a w inv _ hr hy hS H
    have hun := (mem_ready.1 hr).1
    refine ⟨fun h => (by rw [h] at hr; cases hr), fun j hj => ?_⟩
    have hjn : j < n := by
      rcases Nat.lt_or_ge j n with h | h
      · exact h
      · exact absurd hj (tail_waits hs hc hn inv _ i rfl hin hun j h)
    refine ⟨hjn, ?_⟩
    by_cases hji : j = i
    · subst hji; exact hy.wpOp hi hS ⟨hS, H⟩
    · have := seqB_ready H.1 j (ready_mono hj hji)
      omega
  | succ f ih =>
    intro listed a w inv hfree hr hy hS H
    have hun := (mem_ready.1 hr).1
    refine ⟨fun h => (by rw [h] at hr; cases hr), fun j hj => ?_⟩
    have hjn : j < n := by
      rcases Nat.lt_or_ge j n with h | h
      · exact h
      · exact absurd hj (tail_waits hs hc hn inv _ i rfl hin hun j h)
    refine ⟨hjn, ?_⟩
    by_cases hji : j = i
    · subst hji; exact hy.wpOp hi hS ⟨hS, H⟩
    · have h1 := (H.2 j (ready_mono hj hji)).2
      obtain ⟨hjun, oj, hoj, hall⟩ := mem_ready.1 hj
      have hnot : ∀ e ∈ oj.after, Region.binds md e = true → e.on ≠ i := fun e he hb heq => by
        have h1 := hall e he hb
        rw [heq, getD_both hun] at h1
        cases h1
      have h2 := wpOp_putIf hoj (hfree j oj hoj hji hjun hnot) (fun cs b => hsel i oi cs b hi) (fun cs b => hsel j oj cs b hoj) hQ hy h1
      have hfree' : ∀ k ok, ops[k]? = some ok → k ≠ i → (listed.setIfInBounds j true).getD k true = false →
          (∀ e ∈ ok.after, Region.binds md e = true → e.on ≠ i) → oi.apart ops ok = true := fun k ok hk hki hun hno => by
        refine hfree k ok hk hki ?_ hno
        by_cases hjk : j = k
        · subst hjk; exact hjun
        · rw [getD_set_ne true hjk] at hun; exact hun
      refine wpOp_mono (fun a' w' h3 => ⟨h3.2.1, ih (listed.setIfInBounds j true) a' w' (inv.set hj hjn) hfree' (ready_mono hr (Ne.symm hji)) h3.1 h3.2.1 ?_⟩) h2
      rw [Array.setIfInBounds_comm _ _ hji]
      exact h3.2.2

/-- The forced operations' numbers: each alone may come up. -/
def seqL (md : Region.Mode) (ops : Array Oper) (n : Nat) : List Nat → Array Bool → Bool
  | [], listed => Region.seqB md ops (ops.size - n) n listed
  | k :: ms, listed => decide (Region.ready md ops listed = [k]) && decide (k < n) && seqL md ops n ms (listed.setIfInBounds k true)
/-- The reads' numbers, each free when it comes up, then the forced ones. -/
def headL (md : Region.Mode) (ops : Array Oper) (n : Nat) (ms : List Nat) : List Nat → Array Bool → Bool
  | [], listed => seqL md ops n ms listed
  | k :: is, listed => (Region.ready md ops listed).contains k && Region.free md ops listed k && decide (k < n) && headL md ops n ms is (listed.setIfInBounds k true)
def orderB (md : Region.Mode) (ops : Array Oper) (n : Nat) (is ms : List Nat) : Bool :=
  Region.noSelect ops && decide (is.length + ms.length = n) && decide (n < ops.size) && Region.sinkB md ops n && Region.chainB md ops n && headL md ops n ms is (Array.replicate ops.size false)

theorem anyT_seq {n : Nat} {K : Act → World → Prop} : ∀ (ms : List Nat) (listed : Array Bool) (a : Act) (w : World), seqL md ops n ms listed = true → midT P ops Q S K ms a w → anyT P md ops Q S n K ms.length listed a w
  | [], listed, a, w, hB, h => ⟨hB, h⟩
  | k :: ms, listed, a, w, hB, h => by
    rw [seqL] at hB
    simp only [Bool.and_eq_true, decide_eq_true_eq] at hB
    obtain ⟨⟨h1, h2⟩, h3⟩ := hB
    refine ⟨fun h0 => (by rw [h1] at h0; cases h0), fun i hi => ?_⟩
    rw [h1] at hi
    obtain rfl : i = k := by simpa using hi
    exact ⟨h2, wpOp_mono (fun a' w' h' => ⟨h'.1, anyT_seq ms _ a' w' h3 h'.2⟩) h⟩

theorem anyT_head {n : Nat} {K : Act → World → Prop} (hsel : Region.noSelect ops = true) (hs : Region.sinkB md ops n = true) (hc : Region.chainB md ops n = true) (hn : n < ops.size)
    (hQ : ∀ c a d v w, Q (.panic c) (Act.put a d v) w → Q (.panic c) a w) {ms : List Nat} :
    ∀ (is : List Nat) (listed : Array Bool) (a : Act) (w : World), HeadInv md ops n listed → headL md ops n ms is listed = true → S w →
      headT P ops S (fun a' => midT P ops Q S K ms a' w) is a → anyT P md ops Q S n K (is.length + ms.length) listed a w
  | [], listed, a, w, _, hB, _, h => by
    rw [List.length_nil, Nat.zero_add]
    exact anyT_seq ms listed a w hB h
  | i :: is, listed, a, w, inv, hB, hS, h => by
    rw [headL] at hB
    simp only [Bool.and_eq_true, decide_eq_true_eq] at hB
    obtain ⟨⟨⟨h1, h2⟩, h3⟩, h4⟩ := hB
    obtain ⟨o, v, ho, hy, hk⟩ := h
    have hr : i ∈ Region.ready md ops listed := by simpa using h1
    have := anyT_first ho (Region.noSelect_spec hsel) hs hc hn h3 (fun c a w => hQ c a _ _ w) (is.length + ms.length) listed a w inv (Region.free_spec ho h2) hr hy hS (anyT_head hsel hs hc hn hQ is _ _ w (inv.set hr h3) h4 hS hk)
    rw [List.length_cons, show is.length + 1 + ms.length = is.length + ms.length + 1 by omega]
    exact this

/-- READS FIRST, THEN FORCED ONES THAT KEEP WHAT WAS READ, then the forced end, which may write it. -/
theorem wp_region_order {id : Nat} {a : Act} {w : World} {l : List Oper} (n : Nat) (is ms : List Nat) (hm : P.follows .mixedOrders = true) (hB : orderB .any l.toArray n is ms = true)
    (hS : S w.drew)
    (h : headT P l.toArray S (fun a' => midT P l.toArray (NoPanic Q) S (wpList P l.toArray (NoPanic Q) (l.drop n)) ms a' w.drew) is a) : (Code.region id l.toArray true).wp P Q a w := by
  simp only [orderB, Bool.and_eq_true, decide_eq_true_eq] at hB
  obtain ⟨⟨⟨⟨⟨hsel, hlen⟩, hn⟩, hs⟩, hc⟩, hB⟩ := hB
  have inv0 : HeadInv .any l.toArray n (Array.replicate l.toArray.size false) :=
    ⟨by simp, fun j oj _ hl => (by rw [getD_replicate_false] at hl; cases hl), fun t _ ht => getD_in (by simpa using ht) (getD_replicate_false _ _)⟩
  refine wp_region_noPanic (wp_region_any hm ?_)
  have hdl : (l.drop n).length = l.toArray.size - n := by simp
  have := any_of_T (Q := NoPanic Q) (g := l.toArray.size - n) (fun listed a' w' h1 h2 => by
    have := wpAny_of_seq (md := .any) (Q' := NoPanic Q) (l.drop n) n listed a' w' (fun j => by simp [List.getElem?_drop]) (by rw [hdl]; exact h1) h2
    rwa [hdl] at this) _ _ _ _ (anyT_head (Q := NoPanic Q) hsel hs hc hn (fun _ _ _ _ _ h => h) is _ a w.drew inv0 hB hS h)
  rw [hlen, show n + (l.toArray.size - n) = l.toArray.size by omega] at this
  exact this

theorem get_of_drop {l r : List Oper} {k : Nat} {o : Oper} (h : l.drop k = o :: r) : l.toArray[k]? = some o := by
  have := congrArg (fun x => x[0]?) h
  simpa [List.getElem?_drop] using this
theorem headT_nil {L : Act → Prop} {a : Act} (h : L a) : headT P ops S L [] a := h
theorem headT_cons {l : List Oper} {L : Act → Prop} {a : Act} {k : Nat} {is : List Nat} {o : Oper} {r : List Oper} {v : Value} (ho : l.drop k = o :: r) (hw : Region.wanted o (yielded l.toArray a.tmps) = true) (hy : ∀ w, S w → (execOp a.eval o).run P w = .ok (.value v) w)
    (h : headT P l.toArray S L is (a.put o.dst v)) : headT P l.toArray S L (k :: is) a := ⟨o, v, get_of_drop ho, Or.inl ⟨hw, hy⟩, h⟩
theorem headT_skip {l : List Oper} {L : Act → Prop} {a : Act} {k : Nat} {is : List Nat} {o : Oper} {r : List Oper} (ho : l.drop k = o :: r) (hw : Region.wanted o (yielded l.toArray a.tmps) = false)
    (h : headT P l.toArray S L is (a.put o.dst undef)) : headT P l.toArray S L (k :: is) a := ⟨o, undef, get_of_drop ho, Or.inr ⟨hw, rfl⟩, h⟩
theorem midT_nil {K : Act → World → Prop} {a : Act} {w : World} (h : K a w) : midT P ops Q S K [] a w := h
theorem midT_cons {l : List Oper} {K : Act → World → Prop} {a : Act} {w : World} {k : Nat} {ms : List Nat} {o : Oper} {r : List Oper} (ho : l.drop k = o :: r)
    (h : ∀ K' : Act → World → Prop, Shut (∀ a w, S w → (S w → midT P l.toArray Q S K ms a w) → K' a w) → if Region.wanted o (yielded l.toArray a.tmps) = true then Oper.wp P o a w K' Q else K' (a.put o.dst undef) w) : midT P l.toArray Q S K (k :: ms) a w :=
  wpOp_step (get_of_drop ho) (fun K' hK => h K' (fun a w hS hW => hK a w ⟨hS, hW hS⟩))
end
end Go.Proofs.YtahgffjkkdbjeaaDoor
