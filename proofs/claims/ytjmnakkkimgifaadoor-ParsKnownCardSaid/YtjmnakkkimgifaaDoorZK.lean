/- A region that draws its order, in which each operation leaves a value that is good whatever came before it (no program in sight). ParsKnown: the examples (plain), and what the list of them holds. ParsKnown: the walk of the statement. -/
import Derived.Test.YtjmnakkkimgifaaDoorZA
import Derived.Test.YtjmnakkkimgifaaDoorZF
import Derived.Deep.QuietTactic
import Derived.BigQuiet
namespace Go.Proofs.YtjmnakkkimgifaaDoor
open Go Go.RowKit Go.Shelf
def updV (u : Nat → Value) (d : Nat) (v : Value) : Nat → Value := fun i => if i = d then v else u i
/-- The frame in which the slots ds hold u. -/
def frmV (a : Act) (u : Nat → Value) : List Nat → Act
  | [] => a
  | d :: ds => (frmV a u ds).put (some d) (u d)
theorem frmV_size (a : Act) (u : Nat → Value) : ∀ ds, (frmV a u ds).tmps.size = a.tmps.size
  | [] => rfl
  | d :: ds => by
    show ((frmV a u ds).tmps.setIfInBounds d (u d)).size = _
    rw [Array.size_setIfInBounds, frmV_size a u ds]
theorem frmV_get {a : Act} {u : Nat → Value} {t : Nat} (ht : t < a.tmps.size) : ∀ ds, (frmV a u ds).tmps.getD t undef = if t ∈ ds then u t else a.tmps.getD t undef
  | [] => rfl
  | d :: ds => by
    have ih := frmV_get (u := u) ht ds
    have hs := frmV_size a u ds
    show ((frmV a u ds).tmps.setIfInBounds d (u d)).getD t undef = _
    by_cases e : d = t
    · subst e
      rw [if_pos (List.mem_cons_self ..)]
      simp [Array.getD_eq_getD_getElem?, hs, ht]
    · have h1 : ((frmV a u ds).tmps.setIfInBounds d (u d)).getD t undef = (frmV a u ds).tmps.getD t undef := by
        simp [Array.getD_eq_getD_getElem?, Array.getElem?_setIfInBounds, e]
      rw [h1, ih]
      by_cases q : t ∈ ds
      · rw [if_pos q, if_pos (List.mem_cons_of_mem _ q)]
      · rw [if_neg q, if_neg (fun h => by
          rcases List.mem_cons.1 h with h | h
          · exact e h.symm
          · exact q h)]
theorem frmV_def (a : Act) (u : Nat → Value) : ∀ ds, (frmV a u ds).defers = a.defers
  | [] => rfl
  | _ :: ds => frmV_def a u ds
theorem act_ext {a b : Act} (hd : a.defers = b.defers) (hs : a.tmps.size = b.tmps.size) (h : ∀ t, t < a.tmps.size → a.tmps.getD t undef = b.tmps.getD t undef) : a = b := by
  cases a; cases b
  congr
  apply Array.ext hs
  intro i h1 h2
  have h3 := h i h1
  simpa [Array.getD_eq_getD_getElem?, h1, h2] using h3
/-- A slot of ds is laid anew. -/
theorem frmV_put {a : Act} {u : Nat → Value} {ds : List Nat} {d : Nat} (hd : d ∈ ds) (v : Value) : (frmV a u ds).put (some d) v = frmV a (updV u d v) ds := by
  have hs := frmV_size a u ds
  have hs2 := frmV_size a (updV u d v) ds
  refine act_ext ?_ ?_ ?_
  · rw [frmV_def]; exact frmV_def a u ds
  · show ((frmV a u ds).tmps.setIfInBounds d v).size = _
    rw [Array.size_setIfInBounds, hs, hs2]
  · intro t ht
    have ht' : t < a.tmps.size := by
      have : ((frmV a u ds).tmps.setIfInBounds d v).size = a.tmps.size := by rw [Array.size_setIfInBounds, hs]
      have ht2 : t < ((frmV a u ds).tmps.setIfInBounds d v).size := ht
      omega
    rw [frmV_get ht']
    show ((frmV a u ds).tmps.setIfInBounds d v).getD t undef = _
    by_cases e : d = t
    · subst e
      rw [if_pos hd]
      simp [Array.getD_eq_getD_getElem?, hs, ht', updV]
    · have h1 : ((frmV a u ds).tmps.setIfInBounds d v).getD t undef = (frmV a u ds).tmps.getD t undef := by
        simp [Array.getD_eq_getD_getElem?, Array.getElem?_setIfInBounds, e]
      rw [h1, frmV_get ht']
      by_cases q : t ∈ ds
      · rw [if_pos q, if_pos q]; unfold updV; rw [if_neg (fun h => e h.symm)]
      · rw [if_neg q, if_neg q]
theorem frmV_self (a : Act) (ds : List Nat) : a = frmV a (fun t => a.tmps.getD t undef) ds := by
  refine act_ext (frmV_def a _ ds).symm (frmV_size a _ ds).symm fun t ht => ?_
  rw [frmV_get ht]
  by_cases q : t ∈ ds
  · rw [if_pos q]
  · rw [if_neg q]
theorem getD_set_ne {l : Array Bool} {i k : Nat} (h : i ≠ k) : (l.setIfInBounds i true).getD k true = l.getD k true := by
  simp [Array.getD_eq_getD_getElem?, Array.getElem?_setIfInBounds, h]
section
variable {P : Program} {ops : Array Oper} {Q : Exit → Act → World → Prop} {md : Region.Mode}
/-- Each operation waits for earlier ones alone. -/
def backB (l : List Oper) : Bool := (List.range l.length).all fun k => match l[k]? with
  | some o => o.after.all fun e => decide (e.on < k)
  | none => true
theorem ready_all {ops : Array Oper} {listed : Array Bool} (hs : listed.size = ops.size) (hb : ∀ (k : Nat) (o : Oper), ops[k]? = some o → ∀ e ∈ o.after, e.on < k) (hr : Region.ready md ops listed = []) : ∀ k, k < ops.size → listed.getD k true = true := by
  intro k
  induction k using Nat.strongRecOn with
  | ind k ih =>
    intro hk
    by_cases q : listed.getD k true = true
    · exact q
    · exfalso
      have q' : listed.getD k true = false := by simpa using q
      have hm : k ∈ Region.ready md ops listed := by
        unfold Region.ready
        rw [List.mem_filter]
        refine ⟨List.mem_range.2 hk, ?_⟩
        rw [q', Array.getElem?_eq_getElem hk]
        simp only [Bool.not_false, Bool.true_and, Option.map_some, Option.getD_some]
        rw [Array.all_eq_true']
        intro e he
        have h1 := hb k _ (Array.getElem?_eq_getElem hk) e he
        have h2 := ih e.on h1 (by omega)
        have h3 : listed.getD e.on false = true := by
          have : e.on < listed.size := by omega
          simpa [Array.getD_eq_getD_getElem?, this] using h2
        rw [h3, Bool.or_true]
      rw [hr] at hm
      cases hm
theorem wpAny_good {ops : Array Oper} (F : (Nat → Value) → Act) (dst : Nat → Nat) (Good : Nat → Value → World → Prop) (R : World → World → Prop) (w0 : World)
    (hb : ∀ (k : Nat) (o : Oper), ops[k]? = some o → ∀ e ∈ o.after, e.on < k)
    (hinj : ∀ j k, j < ops.size → k < ops.size → dst j = dst k → j = k)
    (hR : ∀ a b c, R a b → R b c → R a c) (hmono : ∀ k v w w', Good k v w → R w w' → Good k v w')
    (hstep : ∀ (k : Nat) (o : Oper), ops[k]? = some o → ∀ u w, R w0 w → (∀ e ∈ o.after, Region.binds md e = true → Good e.on (u (dst e.on)) w) →
      wpOp P ops Q k (fun a' w' => ∃ v, a' = F (updV u (dst k) v) ∧ Good k v w' ∧ R w w') (F u) w)
    (hend : ∀ u w, R w0 w → (∀ k, k < ops.size → Good k (u (dst k)) w) → Q .normal (F u) w) :
    ∀ (f : Nat) (listed : Array Bool) (u : Nat → Value) (w : World), listed.size = ops.size → R w0 w → (∀ k, k < ops.size → listed.getD k true = true → Good k (u (dst k)) w) →
      ((List.range ops.size).filter fun k => !listed.getD k true).length ≤ f → wpAny P md ops Q f listed (F u) w := by
  have fin : ∀ (listed : Array Bool) (u : Nat → Value) (w : World), listed.size = ops.size → R w0 w → (∀ k, k < ops.size → listed.getD k true = true → Good k (u (dst k)) w) → Region.ready md ops listed = [] → Q .normal (F u) w := fun listed u w hs hw hg hr =>
    hend u w hw fun k hk => hg k hk (ready_all hs hb hr k hk)
  intro f
  induction f with
  | zero =>
    intro listed u w hs hw hg hf
    have hr : Region.ready md ops listed = [] := by
      have h0 : ((List.range ops.size).filter fun k => !listed.getD k true) = [] := List.eq_nil_of_length_eq_zero (by omega)
      rw [List.filter_eq_nil_iff] at h0
      unfold Region.ready
      rw [List.filter_eq_nil_iff]
      intro i hi
      have := h0 i hi
      simp only [Bool.not_eq_true'] at this
      simp only [Bool.and_eq_true, Bool.not_eq_true']
      exact fun h => this h.1
    exact ⟨hr, fin listed u w hs hw hg hr⟩
  | succ f ih =>
    intro listed u w hs hw hg hf
    refine ⟨fin listed u w hs hw hg, fun i hi => ?_⟩
    have hi2 := hi
    unfold Region.ready at hi2
    rw [List.mem_filter, List.mem_range, Bool.and_eq_true] at hi2
    obtain ⟨hin, hnl, haf⟩ := hi2
    have hnl' : listed.getD i true = false := by simpa using hnl
    rw [Array.getElem?_eq_getElem hin] at haf
    simp only [Option.map_some, Option.getD_some] at haf
    rw [Array.all_eq_true'] at haf
    refine wpOp_mono ?_ (hstep i _ (Array.getElem?_eq_getElem hin) u w hw fun e he hbi => ?_)
    · rintro a' w' ⟨v, rfl, hgv, hr⟩
      refine ih _ _ _ (by rw [Array.size_setIfInBounds, hs]) (hR _ _ _ hw hr) (fun k hk hl => ?_) ?_
      · by_cases e : k = i
        · subst e
          unfold updV
          rw [if_pos rfl]; exact hgv
        · have hl' : listed.getD k true = true := by
            rw [← getD_set_ne (fun h => e h.symm)]; exact hl
          have hne : dst k ≠ dst i := fun h => e (hinj k i hk hin h)
          unfold updV
          rw [if_neg hne]
          exact hmono _ _ _ _ (hg k hk hl') hr
      · have hlt : ((List.range ops.size).filter fun k => !(listed.setIfInBounds i true).getD k true).length < ((List.range ops.size).filter fun k => !listed.getD k true).length := by
          have he : ((List.range ops.size).filter fun k => !(listed.setIfInBounds i true).getD k true) = (((List.range ops.size).filter fun k => !listed.getD k true).filter fun k => decide (k ≠ i)) := by
            rw [List.filter_filter]
            refine List.filter_congr fun k hk => ?_
            by_cases e : k = i
            · subst e
              have : k < listed.size := by omega
              simp [Array.getD_eq_getD_getElem?, this]
            · rw [getD_set_ne (fun h => e h.symm), decide_eq_true e, Bool.true_and]
          rw [he]
          refine List.length_filter_lt_length_iff_exists.2 ⟨i, List.mem_filter.2 ⟨List.mem_range.2 hin, by rw [hnl']; rfl⟩, by simp⟩
        omega
    · have h1 := haf e he
      rw [hbi] at h1
      have h3 : listed.getD e.on false = true := by simpa using h1
      have hlt := hb i _ (Array.getElem?_eq_getElem hin) e he
      refine hg e.on (by omega) ?_
      have : e.on < listed.size := by omega
      simpa [Array.getD_eq_getD_getElem?, this] using h3
/-- What an operation waits for. -/
def depsL (o : Oper) : List Nat := (o.after.toList.filter fun e => Region.binds .any e).map (·.on)
/-- Each operation of the list, run where what it waits for is good, leaves something good. -/
def StepsG (P : Program) (ops : Array Oper) (Q : Exit → Act → World → Prop) (a : Act) (ds : List Nat) (Good : Nat → Value → World → Prop) (R : World → World → Prop) (w0 : World) : List Oper → Nat → Prop
  | [], _ => True
  | o :: r, k => (∀ u w, R w0 w → (∀ j ∈ depsL o, Good j (u (ds.getD j 0)) w) → wpOp P ops Q k (fun a' w' => ∃ v, a' = frmV a (updV u (ds.getD k 0) v) ds ∧ Good k v w' ∧ R w w') (frmV a u ds) w) ∧ StepsG P ops Q a ds Good R w0 r (k + 1)
theorem stepsG_at {ops : Array Oper} {a : Act} {ds : List Nat} {Good : Nat → Value → World → Prop} {R : World → World → Prop} {w0 : World} (l : List Oper) : ∀ (k0 : Nat), StepsG P ops Q a ds Good R w0 l k0 → ∀ k (o : Oper), l[k]? = some o →
    ∀ u w, R w0 w → (∀ j ∈ depsL o, Good j (u (ds.getD j 0)) w) → wpOp P ops Q (k0 + k) (fun a' w' => ∃ v, a' = frmV a (updV u (ds.getD (k0 + k) 0) v) ds ∧ Good (k0 + k) v w' ∧ R w w') (frmV a u ds) w := by
  induction l with
  | nil => intro k0 _ k o ho; simp at ho
  | cons o r ih =>
    intro k0 h k o' ho u w hw hg
    cases k with
    | zero =>
      obtain rfl : o = o' := by simpa using ho
      exact h.1 u w hw hg
    | succ k =>
      have h1 := ih (k0 + 1) h.2 k o' (by simpa using ho) u w hw hg
      rw [show k0 + 1 + k = k0 + (k + 1) by omega] at h1
      exact h1
/-- The closed facts that the law wants. -/
def goodB (l : List Oper) (ds : List Nat) : Bool := backB l && decide (ds.length = l.length) && decide ds.Nodup
/-- The region: in whatever order, what is left is good. -/
theorem wp_region_good {id : Nat} {a : Act} {w : World} {l : List Oper} (ds : List Nat) (Good : Nat → Value → World → Prop) (R : World → World → Prop) (hm : P.follows .mixedOrders = true) (hB : goodB l ds = true)
    (h0 : R w.drew w.drew) (hR : ∀ a b c, R a b → R b c → R a c) (hmono : ∀ k v w w', Good k v w → R w w' → Good k v w')
    (hs : ∀ (a0 : Act) (ops0 : Array Oper), a0 = a → ops0 = l.toArray → StepsG P ops0 Q a0 ds Good R w.drew l 0)
    (hend : ∀ u w', R w.drew w' → (∀ k, k < l.length → Good k (u (ds.getD k 0)) w') → Q .normal (frmV a u ds) w') : (Code.region id l.toArray true).wp P Q a w := by
  unfold goodB at hB
  rw [Bool.and_eq_true, Bool.and_eq_true, decide_eq_true_eq, decide_eq_true_eq] at hB
  obtain ⟨⟨hb, hl⟩, hnd⟩ := hB
  refine wp_region_any hm ?_
  have hself := frmV_self a ds
  have hgo := wpAny_good (P := P) (ops := l.toArray) (Q := Q) (md := .any) (fun u => frmV a u ds) (fun k => ds.getD k 0) Good R w.drew
    (fun k o ho e he => by
      unfold backB at hb
      rw [List.all_eq_true] at hb
      have hk : k < l.length := by
        have := (Array.getElem?_eq_some_iff.1 ho).1
        simpa using this
      have h1 := hb k (List.mem_range.2 hk)
      have ho' : l[k]? = some o := by simpa using ho
      rw [ho'] at h1
      have h2 : (o.after.all fun e => decide (e.on < k)) = true := h1
      rw [Array.all_eq_true'] at h2
      simpa using h2 e he)
    (fun j k hj hk e => by
      have hj' : j < ds.length := by rw [hl]; simpa using hj
      have hk' : k < ds.length := by rw [hl]; simpa using hk
      have e' : ds[j] = ds[k] := by
        simpa [List.getD_eq_getElem?_getD, hj', hk'] using e
      exact (List.getElem_inj hnd).1 e')
    hR hmono
    (fun k o ho u w' hw hg => by
      have ho' : l[k]? = some o := by simpa using ho
      have h1 := stepsG_at l 0 (hs a l.toArray rfl rfl) k o ho' u w' hw (fun j hj => by
        unfold depsL at hj
        rw [List.mem_map] at hj
        obtain ⟨e, he, rfl⟩ := hj
        rw [List.mem_filter] at he
        exact hg e (by simpa using he.1) he.2)
      rw [Nat.zero_add] at h1
      exact h1)
    (fun u w' hw hg => hend u w' hw (fun k hk => hg k (by simpa using hk)))
    l.toArray.size (Array.replicate l.toArray.size false) (fun t => a.tmps.getD t undef) w.drew (by simp) h0
    (fun k hk hl => by
      have : k < (Array.replicate l.toArray.size false).size := by simpa using hk
      rw [getD_in this (getD_replicate_false _ _)] at hl
      cases hl)
    (Nat.le_trans (List.length_filter_le _ _) (by simp))
  have hself2 : frmV a (fun t => a.tmps.getD t undef) ds = a := hself.symm
  simp only [hself2] at hgo
  exact hgo
theorem frmV_in {a : Act} {u : Nat → Value} {ds : List Nat} {t : Nat} (ht : t < a.tmps.size) (h : ds.contains t = true) : (frmV a u ds).eval (.tmp t) = u t := by
  have := frmV_get (u := u) ht ds
  rw [if_pos (by simpa using h)] at this
  exact this
theorem frmV_out {a : Act} {u : Nat → Value} {ds : List Nat} {t : Nat} (ht : t < a.tmps.size) (h : ds.contains t = false) : (frmV a u ds).eval (.tmp t) = a.tmps.getD t undef := by
  have := frmV_get (u := u) ht ds
  rw [if_neg (by simpa using h)] at this
  exact this
/-- A step that yields a value. -/
theorem good_run {ops : Array Oper} {a : Act} {ds : List Nat} {Good : Nat → Value → World → Prop} {R : World → World → Prop} {k d : Nat} {o : Oper} {u : Nat → Value} {w w' : World} {v : Value} (ho : ops[k]? = some o) (hg : o.guard = none) (hd : o.dst = some d) (hk : ds.getD k 0 = d) (hin : ds.contains d = true)
    (hrun : (execOp (frmV a u ds).eval o).run P w = .ok (.value v) w') (h : Good k v w' ∧ R w w') : wpOp P ops Q k (fun a' w' => ∃ v, a' = frmV a (updV u (ds.getD k 0) v) ds ∧ Good k v w' ∧ R w w') (frmV a u ds) w := by
  unfold wpOp
  simp only [ho]
  have hw : Region.wanted o (yielded ops (frmV a u ds).tmps) = true := by unfold Region.wanted; rw [hg]
  rw [if_pos hw]
  refine .inl ?_
  unfold Oper.wp
  rw [hrun]
  show ∃ v', (frmV a u ds).put o.dst v = _ ∧ _
  refine ⟨v, ?_, h⟩
  rw [hd, hk]
  exact frmV_put (by simpa using hin) v
/-- A step that calls. -/
theorem good_call {ops : Array Oper} {a : Act} {ds : List Nat} {Good : Nat → Value → World → Prop} {R : World → World → Prop} {k d f : Nat} {o : Oper} {u : Nat → Value} {w : World} {args : Array Value} (ho : ops[k]? = some o) (hg : o.guard = none) (hd : o.dst = some d) (hk : ds.getD k 0 = d) (hin : ds.contains d = true)
    (hrun : (execOp (frmV a u ds).eval o).run P w = .ok (.enter f args) w) (h : Calls P f args w fun e w' => ∃ v, e = .returned v ∧ Good k v w' ∧ R w w') : wpOp P ops Q k (fun a' w' => ∃ v, a' = frmV a (updV u (ds.getD k 0) v) ds ∧ Good k v w' ∧ R w w') (frmV a u ds) w := by
  unfold wpOp
  simp only [ho]
  have hw : Region.wanted o (yielded ops (frmV a u ds).tmps) = true := by unfold Region.wanted; rw [hg]
  rw [if_pos hw]
  refine .inl ?_
  unfold Oper.wp
  rw [hrun]
  refine Calls.mono h ?_
  rintro e w' ⟨v, rfl, hg2⟩
  show ∃ v', (frmV a u ds).put o.dst v = _ ∧ _
  refine ⟨v, ?_, hg2⟩
  rw [hd, hk]
  exact frmV_put (by simpa using hin) v
end
end Go.Proofs.YtjmnakkkimgifaaDoor
namespace Go.Proofs.YtjmnakkkimgifaaDoor
open Go Go.RowKit Go.Shelf
def kLoop : List Nd := [(0, ⟨#[97]⟩)]
def kThree : List Nd := [(-1, ⟨#[97]⟩), (0, ⟨#[98]⟩), (0, ⟨#[99]⟩), (0, ⟨#[100]⟩)]
/-- Example i: the table's languages and sets, the tree, the errors of Length and Climb. -/
def kL (i : Nat) : Int := [(-1 : Int), 33, 3, 3, 4, 4, 3, 1, 1].getD i 0
def kH (i : Nat) : List Nat := [List.replicate 65 0, [], List.replicate 65 0, [8], [3, 5, 15], [3, 5, 15], [3], [], [1]].getD i []
def kT (i : Nat) : List Nd := [kLoop, kLoop, kLoop, kLoop, kLoop, kThree, kThree, kThree.take 1, kThree.take 2].getD i []
def kE (i : Nat) : Int := [(3 : Int), 3, 12, 2, 16, 2, 0, 0, 0].getD i 0
def kF (i : Nat) : Int := [(3 : Int), 3, 12, 2, 16, 2, 2, 0, 2].getD i 0
theorem k_facts : ∀ i, i < 9 → chkP (kL i) (kH i) (kT i) = kE i ∧ clbE (kL i) (kH i) (kT i) = kF i ∧ (kH i).length ≤ 65 ∧ 0 < (kT i).length ∧ (kT i).length ≤ 4 := by decide +kernel
theorem k_small : ∀ i, i < 9 → (∀ v, v < (kT i).length → (nS (kT i) v).size ≤ 1) ∧ (∀ v, v < (kH i).length → vA (kH i) v < 16) := by decide +kernel
theorem k_three : binP kThree = false ∧ chkE kThree = 0 ∧ binP kLoop = false ∧ chkE kLoop = 16 ∧ nearE kThree = 2 ∧ nearE [] = 16 ∧ bstE 6 [] = 3 ∧ bstE 0 [] = 3 ∧ bstE 3 [8] = 2 := by decide +kernel
/-- A row of sets, a table, an entry of the statement's list. -/
def SlV (l : List Nat) (v : Value) (w : World) : Prop := ∃ a c, v = .slice a l.length c ∧ Rd w a (fl encV l)
def TbV (L : Int) (l : List Nat) (v : Value) (w : World) : Prop := ∃ x, v = .agg #[.int .i64 L, x] ∧ SlV l x w
def EnV (L : Int) (l : List Nat) (tv : Value) (e f : Int) (v : Value) (w : World) : Prop := ∃ x, v = .agg #[.int .i64 L, x, tv, .int .i64 e, .int .i64 f] ∧ SlV l x w
def GdK (t2 t3 s1 s2 : Value) : Nat → Value → World → Prop
  | 0, v, w => SlV (List.replicate 65 0) v w
  | 1, v, w => TbV (-1) (List.replicate 65 0) v w
  | 2, v, _ => v = t2
  | 3, v, w => EnV (-1) (List.replicate 65 0) t2 3 3 v w
  | 4, v, w => TbV 33 [] v w
  | 5, v, _ => v = t2
  | 6, v, w => EnV 33 [] t2 3 3 v w
  | 7, v, w => SlV (List.replicate 65 0) v w
  | 8, v, w => TbV 3 (List.replicate 65 0) v w
  | 9, v, _ => v = t2
  | 10, v, w => EnV 3 (List.replicate 65 0) t2 12 12 v w
  | 11, v, w => TbV 3 [8] v w
  | 12, v, _ => v = t2
  | 13, v, w => EnV 3 [8] t2 2 2 v w
  | 14, v, w => TbV 4 [3, 5, 15] v w
  | 15, v, _ => v = t2
  | 16, v, w => EnV 4 [3, 5, 15] t2 16 16 v w
  | 17, v, w => TbV 4 [3, 5, 15] v w
  | 18, v, _ => v = t3
  | 19, v, w => EnV 4 [3, 5, 15] t3 2 2 v w
  | 20, v, w => SlV [3] v w
  | 21, v, w => TbV 3 [3] v w
  | 22, v, _ => v = t3
  | 23, v, w => EnV 3 [3] t3 0 2 v w
  | 24, v, w => TbV 1 [] v w
  | 25, v, _ => v = t3
  | 26, v, _ => v = s1
  | 27, v, w => EnV 1 [] s1 0 0 v w
  | 28, v, w => SlV [1] v w
  | 29, v, w => TbV 1 [1] v w
  | 30, v, _ => v = t3
  | 31, v, _ => v = s2
  | 32, v, w => EnV 1 [1] s2 0 2 v w
  | 33, v, w => ∃ g x0 x1 x2 x3 x4 x5 x6 x7 x8, v = .slice (some ⟨g, 0, none⟩) 9 9 ∧ Blk w g #[.int .i64 (-1), x0, t2, .int .i64 3, .int .i64 3, .int .i64 33, x1, t2, .int .i64 3, .int .i64 3, .int .i64 3, x2, t2, .int .i64 12, .int .i64 12, .int .i64 3, x3, t2, .int .i64 2, .int .i64 2,
      .int .i64 4, x4, t2, .int .i64 16, .int .i64 16, .int .i64 4, x5, t3, .int .i64 2, .int .i64 2, .int .i64 3, x6, t3, .int .i64 0, .int .i64 2, .int .i64 1, x7, s1, .int .i64 0, .int .i64 0, .int .i64 1, x8, s2, .int .i64 0, .int .i64 2] 53 ∧
      SlV (List.replicate 65 0) x0 w ∧ SlV [] x1 w ∧ SlV (List.replicate 65 0) x2 w ∧ SlV [8] x3 w ∧ SlV [3, 5, 15] x4 w ∧ SlV [3, 5, 15] x5 w ∧ SlV [3] x6 w ∧ SlV [] x7 w ∧ SlV [1] x8 w
  | 34, v, _ => v = .int .i64 9
  | 35, v, _ => v = .int .i64 0
  | _, _, _ => True
theorem SlV.bl {l : List Nat} {v : Value} {w w' : World} (h : SlV l v w) (hb : Below w.heap.size w w') : SlV l v w' := by
  obtain ⟨a, c, h1, h2⟩ := h
  exact ⟨a, c, h1, h2.bl hb⟩
theorem TbV.bl {L : Int} {l : List Nat} {v : Value} {w w' : World} (h : TbV L l v w) (hb : Below w.heap.size w w') : TbV L l v w' := by
  obtain ⟨x, h1, h2⟩ := h
  exact ⟨x, h1, h2.bl hb⟩
theorem EnV.bl {L : Int} {l : List Nat} {tv : Value} {e f : Int} {v : Value} {w w' : World} (h : EnV L l tv e f v w) (hb : Below w.heap.size w w') : EnV L l tv e f v w' := by
  obtain ⟨x, h1, h2⟩ := h
  exact ⟨x, h1, h2.bl hb⟩
theorem GdK.bl {t2 t3 s1 s2 : Value} (k : Nat) (v : Value) (w w' : World) (h : GdK t2 t3 s1 s2 k v w) (hb : Below w.heap.size w w') : GdK t2 t3 s1 s2 k v w' := by
  unfold GdK at h ⊢
  split at h <;> first | exact h | exact SlV.bl h hb | exact TbV.bl h hb | exact EnV.bl h hb | skip
  obtain ⟨g, x0, x1, x2, x3, x4, x5, x6, x7, x8, h0, hB, h1, h2, h3, h4, h5, h6, h7, h8, h9⟩ := h
  exact ⟨g, x0, x1, x2, x3, x4, x5, x6, x7, x8, h0, hB.below hb, h1.bl hb, h2.bl hb, h3.bl hb, h4.bl hb, h5.bl hb, h6.bl hb, h7.bl hb, h8.bl hb, h9.bl hb⟩
theorem k_near : nearE exF = 0 ∧ (nearT exF).length = 4 ∧ vT (nearT exF) 0 = ndL 3 [-1, 0, 1, 0, 1, 2, 2] := by
  refine ⟨ex_near.1, ex_near.2, ?_⟩
  unfold nearT
  rw [if_pos ex_near.1]
  decide +kernel
theorem k_climb : clbE 4 [5] exF = 0 ∧ lenS 4 [5] (topL 4 [5] exF) = 2 := by decide +kernel
theorem rd_take_nd {W : World} {a : Option Addr} {l : List Nd} (k : Nat) (h : Rd W a (fl encNd l)) : Rd W a (fl encNd (l.take k)) := by
  intro h0
  have hl : (fl encNd (l.take k)).length ≤ (fl encNd l).length := by
    rw [fl_length encNd_len, fl_length encNd_len, List.length_take]
    exact Nat.mul_le_mul_right _ (Nat.min_le_right _ _)
  obtain ⟨b, o, e, hb, hc⟩ := h (by omega)
  refine ⟨b, o, e, hb, fun i hi => ?_⟩
  rw [hc i (by omega)]
  have hs : fl encNd l = fl encNd (l.take k) ++ fl encNd (l.drop k) := by rw [← fl_append, List.take_append_drop]
  rw [hs, List.getD_eq_getElem?_getD, List.getD_eq_getElem?_getD, List.getElem?_append_left hi]
theorem rd_kT {B2 B3 : Nat} {W : World} (h2 : Rd W (some ⟨B2, 0, none⟩) (fl encNd kLoop)) (h3 : Rd W (some ⟨B3, 0, none⟩) (fl encNd kThree)) (i : Nat) (hi : i < 9) : Rd W (some ⟨if i < 5 then B2 else B3, 0, none⟩) (fl encNd (kT i)) := by
  match i, hi with
  | 0, _ => exact h2
  | 1, _ => exact h2
  | 2, _ => exact h2
  | 3, _ => exact h2
  | 4, _ => exact h2
  | 5, _ => exact h3
  | 6, _ => exact h3
  | 7, _ => exact rd_take_nd 1 h3
  | 8, _ => exact rd_take_nd 2 h3
theorem ent_at {B2 B3 : Nat} {v : Value} {w : World} (h : GdK (.slice (some ⟨B2, 0, none⟩) 1 1) (.slice (some ⟨B3, 0, none⟩) 4 4) (.slice (some ⟨B3, 0, none⟩) 1 4) (.slice (some ⟨B3, 0, none⟩) 2 4) 33 v w) :
    ∃ (g : Nat) (hv : Nat → Value), v = .slice (some ⟨g, 0, none⟩) 9 9 ∧ g < w.heap.size ∧ ∀ i, i < 9 → w.cell? ⟨g, i * 5, none⟩ = some (.int .i64 (kL i)) ∧ w.cell? ⟨g, i * 5 + 1, none⟩ = some (hv i) ∧ w.cell? ⟨g, i * 5 + 2, none⟩ = some (.slice (some ⟨if i < 5 then B2 else B3, 0, none⟩) (kT i).length (if i < 5 then 1 else 4)) ∧
      w.cell? ⟨g, i * 5 + 3, none⟩ = some (.int .i64 (kE i)) ∧ w.cell? ⟨g, i * 5 + 4, none⟩ = some (.int .i64 (kF i)) ∧ SlV (kH i) (hv i) w := by
  obtain ⟨g, x0, x1, x2, x3, x4, x5, x6, x7, x8, h0, hB, h1, h2, h3, h4, h5, h6, h7, h8, h9⟩ := h
  refine ⟨g, fun i => [x0, x1, x2, x3, x4, x5, x6, x7, x8].getD i undef, h0, hB.lt, fun i hi => ?_⟩
  simp only [hB.cell]
  match i, hi with
  | 0, _ => exact ⟨rfl, rfl, rfl, rfl, rfl, h1⟩
  | 1, _ => exact ⟨rfl, rfl, rfl, rfl, rfl, h2⟩
  | 2, _ => exact ⟨rfl, rfl, rfl, rfl, rfl, h3⟩
  | 3, _ => exact ⟨rfl, rfl, rfl, rfl, rfl, h4⟩
  | 4, _ => exact ⟨rfl, rfl, rfl, rfl, rfl, h5⟩
  | 5, _ => exact ⟨rfl, rfl, rfl, rfl, rfl, h6⟩
  | 6, _ => exact ⟨rfl, rfl, rfl, rfl, rfl, h7⟩
  | 7, _ => exact ⟨rfl, rfl, rfl, rfl, rfl, h8⟩
  | 8, _ => exact ⟨rfl, rfl, rfl, rfl, rfl, h9⟩
end Go.Proofs.YtjmnakkkimgifaaDoor
namespace Go.Proofs.YtjmnakkkimgifaaDoor
open Go Go.RowKit Go.Shelf
def dsK : List Nat := List.range' 48 36
theorem rd65 (W : World) : Rd (W.alloc (.cells (madeCells #[.int .u64 0] 65) 52)) (some ⟨W.heap.size, 0, none⟩) (fl encV (List.replicate 65 0)) := by
  have h := rd_of_owns (owns_made (w := W) (base := W.heap.size) (e := 52) (k := 1) (n := 65) (cs := madeCells #[.int .u64 0] 65) (Nat.le_refl _) (by simp [madeCells]) (by unfold maxLen; omega))
  have e : (madeCells #[Value.int .u64 0] 65).toList = fl encV (List.replicate 65 0) := made_cells encV 1 encV_len (by omega) 0 65
  rw [e] at h
  exact h
theorem rd1 (W : World) (x : Nat) : Rd (W.alloc (.cells #[.int .u64 x] 52)) (some ⟨W.heap.size, 0, none⟩) (fl encV [x]) :=
  rd_of_owns (owns_made (w := W) (base := W.heap.size) (e := 52) (k := 1) (n := 1) (cs := #[.int .u64 x]) (Nat.le_refl _) rfl (by unfold maxLen; omega))
theorem rd_blk {W : World} {B : Nat} {cs : Array Value} {t : TypeId} (h : Blk W B cs t) : Rd W (some ⟨B, 0, none⟩) cs.toList := fun _ => ⟨B, 0, rfl, h.lt, fun i hi => by
  have hi' : i < cs.size := by simpa using hi
  rw [Nat.zero_add, h.cell i, Array.getElem?_eq_getElem hi', List.getD_eq_getElem?_getD, List.getElem?_eq_getElem hi]; rfl⟩
set_option maxRecDepth 100000 in
set_option maxHeartbeats 8000000 in
theorem knlaw_any (w : World) : Calls Tryd.prog 6 #[] w fun e w' => e = .returned (.bool true) ∧ Below w.heap.size w w' := by
  have HW := Lib.hid works_any
  have HT := Lib.hid table_any
  obtain ⟨i0, hi0, hz0, hz1, hz2⟩ := info_parts info_V
  have HMK : Hid (∀ W : World, _) := fun W : World => by
    have hmk := run_make (P := Tryd.prog) W 28 52 i0 _ Tryd.underlying28 hi0 hz0 .i64 .i64 (65 : Int) (65 : Int) (by omega) (by omega) (by rw [hz2]; omega) (by omega)
    simp only [hz1, Nat.mul_one] at hmk
    exact hmk
  clear hi0 hz0 hz1 hz2
  go_enter Tryd.func6, Tryd.ntmps6
  go_upto_region 4 with fail
  obtain ⟨w4, hw4⟩ : ∃ x, x = (((w.alloc (.cells #[.int .u64 8] 52)).alloc (.cells #[.int .i64 3, .slice (some ⟨w.heap.size, 0, none⟩) 1 1] 30)).alloc (.cells #[.int .i64 0, .string ⟨#[97]⟩] 41)).alloc (.cells #[.int .i64 (-1), .string ⟨#[97]⟩, .int .i64 0, .string ⟨#[98]⟩, .int .i64 0, .string ⟨#[99]⟩, .int .i64 0, .string ⟨#[100]⟩] 41) := ⟨_, rfl⟩
  obtain ⟨B1, hB1⟩ : ∃ x, x = w.heap.size := ⟨_, rfl⟩
  obtain ⟨X, hX⟩ : ∃ x, x = w.heap.size + 1 := ⟨_, rfl⟩
  obtain ⟨B2, hB2⟩ : ∃ x, x = w.heap.size + 1 + 1 := ⟨_, rfl⟩
  obtain ⟨B3, hB3⟩ : ∃ x, x = w.heap.size + 1 + 1 + 1 := ⟨_, rfl⟩
  have HB4 : Hid (Below w.heap.size w w4) := by
    show Below _ _ _
    rw [hw4]
    exact bl_alloc (bl_alloc (bl_alloc (bl_alloc (Below.refl _ w) _) _) _) _
  have k1 := Blk.new w #[.int .u64 8] 52
  have k2 := Blk.new (w.alloc (.cells #[.int .u64 8] 52)) #[.int .i64 3, .slice (some ⟨w.heap.size, 0, none⟩) 1 1] 30
  have k3 := Blk.new ((w.alloc (.cells #[.int .u64 8] 52)).alloc (.cells #[.int .i64 3, .slice (some ⟨w.heap.size, 0, none⟩) 1 1] 30)) #[.int .i64 0, .string ⟨#[97]⟩] 41
  have k4 := Blk.new (((w.alloc (.cells #[.int .u64 8] 52)).alloc (.cells #[.int .i64 3, .slice (some ⟨w.heap.size, 0, none⟩) 1 1] 30)).alloc (.cells #[.int .i64 0, .string ⟨#[97]⟩] 41)) #[.int .i64 (-1), .string ⟨#[97]⟩, .int .i64 0, .string ⟨#[98]⟩, .int .i64 0, .string ⟨#[99]⟩, .int .i64 0, .string ⟨#[100]⟩] 41
  have k1' := (((k1.alloc (.cells #[.int .i64 3, .slice (some ⟨w.heap.size, 0, none⟩) 1 1] 30)).alloc (.cells #[.int .i64 0, .string ⟨#[97]⟩] 41)).alloc (.cells #[.int .i64 (-1), .string ⟨#[97]⟩, .int .i64 0, .string ⟨#[98]⟩, .int .i64 0, .string ⟨#[99]⟩, .int .i64 0, .string ⟨#[100]⟩] 41)).drewN 1
  have k2' := ((k2.alloc (.cells #[.int .i64 0, .string ⟨#[97]⟩] 41)).alloc (.cells #[.int .i64 (-1), .string ⟨#[97]⟩, .int .i64 0, .string ⟨#[98]⟩, .int .i64 0, .string ⟨#[99]⟩, .int .i64 0, .string ⟨#[100]⟩] 41)).drewN 1
  have k3' := (k3.alloc (.cells #[.int .i64 (-1), .string ⟨#[97]⟩, .int .i64 0, .string ⟨#[98]⟩, .int .i64 0, .string ⟨#[99]⟩, .int .i64 0, .string ⟨#[100]⟩] 41)).drewN 1
  have k4' := k4.drewN 1
  rw [← hw4] at k1' k2' k3' k4'
  simp only [World.size_alloc] at k2' k3' k4'
  rw [← hB1] at k1' k2'
  rw [hB1, ← hX, ← hB1] at k2'
  rw [← hB2] at k3'
  rw [← hB3] at k4'
  have hXl : X < w4.drew.heap.size := k2'.lt
  have HR1 : Hid (Rd w4.drew (some ⟨B1, 0, none⟩) (fl encV [8])) := rd_blk k1'
  have HR2 : Hid (Rd w4.drew (some ⟨B2, 0, none⟩) (fl encNd kLoop)) := rd_blk k3'
  have HR3 : Hid (Rd w4.drew (some ⟨B3, 0, none⟩) (fl encNd kThree)) := rd_blk k4'
  have cX1 : w4.drew.cell? ⟨X, 0, none⟩ = some (.int .i64 3) := k2'.cell 0
  have cX2 : w4.drew.cell? ⟨X, 1, none⟩ = some (.slice (some ⟨B1, 0, none⟩) 1 1) := k2'.cell 1
  clear k1 k2 k3 k4 k1' k2' k3' k4'
  rw [← hw4, ← hB3, ← hB2, ← hX, ← hB1]
  refine wp_region_good dsK (GdK (.slice (some ⟨B2, 0, none⟩) 1 1) (.slice (some ⟨B3, 0, none⟩) 4 4) (.slice (some ⟨B3, 0, none⟩) 1 4) (.slice (some ⟨B3, 0, none⟩) 2 4)) (fun a b => Below a.heap.size a b) rfl (by kernel_rfl) (Below.refl _ _) (fun a b c => bl_trans) (fun k v W W' h hb => GdK.bl k v W W' h hb) ?_ ?_
  · intro a0 ops0 ha0 ho
    have z : a0.tmps.size = 253 := by rw [ha0]; rfl
    have z1 : a0.tmps.getD 1 undef = .pointer (some ⟨X, 0, none⟩) := by rw [ha0]; rfl
    have z2 : a0.tmps.getD 2 undef = (.slice (some ⟨B2, 0, none⟩) 1 1) := by rw [ha0]; rfl
    have z3 : a0.tmps.getD 3 undef = (.slice (some ⟨B3, 0, none⟩) 4 4) := by rw [ha0]; rfl
    clear ha0
    refine ⟨fun u W hW hg => ?_, ?_⟩
    · refine good_run (d := 48) (v := .slice (some ⟨W.heap.size, 0, none⟩) 65 65) (w' := W.alloc (.cells (madeCells #[.int .u64 0] 65) 52)) (by rw [ho]; rfl) rfl rfl rfl rfl ?_ ⟨⟨some ⟨W.heap.size, 0, none⟩, 65, rfl, rd65 W⟩, bl_alloc (Below.refl _ W) _⟩
      have hmk := HMK.out W
      simp [execOp, Act.eval, go_sem, hmk]
    refine ⟨fun u W hW hg => ?_, ?_⟩
    · have G : GdK (.slice (some ⟨B2, 0, none⟩) 1 1) (.slice (some ⟨B3, 0, none⟩) 4 4) (.slice (some ⟨B3, 0, none⟩) 1 4) (.slice (some ⟨B3, 0, none⟩) 2 4) 0 (u 48) W := hg 0 (by decide)
      obtain ⟨a1, c1, e1, r1⟩ := G
      refine good_run (d := 49) (v := .agg #[.int .i64 (-1), u 48]) (w' := W) (by rw [ho]; rfl) rfl rfl rfl rfl ?_ ⟨⟨_, rfl, a1, c1, e1, r1⟩, Below.refl _ _⟩
      have q1 : (frmV a0 u dsK).eval (.tmp 48) = u 48 := frmV_in (by rw [z]; decide) rfl
      have q2 : ∀ v, (frmV a0 u dsK).eval (.const v) = v := fun _ => rfl
      revert q1 q2
      generalize (frmV a0 u dsK).eval = ρ
      intro q1 q2
      simp [execOp, go_sem, q1, q2, e1]
    refine ⟨fun u W hW hg => ?_, ?_⟩
    · refine good_run (d := 50) (v := (.slice (some ⟨B2, 0, none⟩) 1 1)) (w' := W) (by rw [ho]; rfl) rfl rfl rfl rfl ?_ ⟨rfl, Below.refl _ _⟩
      show (pure (.value ((frmV a0 u dsK).eval (.tmp 2))) : Sem Next).run _ W = _
      rw [frmV_out (by rw [z]; decide) rfl, z2]; rfl
    refine ⟨fun u W hW hg => ?_, ?_⟩
    · have G : GdK (.slice (some ⟨B2, 0, none⟩) 1 1) (.slice (some ⟨B3, 0, none⟩) 4 4) (.slice (some ⟨B3, 0, none⟩) 1 4) (.slice (some ⟨B3, 0, none⟩) 2 4) 1 (u 49) W := hg 1 (by decide)
      have G2 : u 50 = (.slice (some ⟨B2, 0, none⟩) 1 1) := hg 2 (by decide)
      obtain ⟨x, e1, a1, c1, hx, r1⟩ := G
      refine good_run (d := 51) (v := .agg #[.int .i64 (-1), x, (.slice (some ⟨B2, 0, none⟩) 1 1), .int .i64 3, .int .i64 3]) (w' := W) (by rw [ho]; rfl) rfl rfl rfl rfl ?_ ⟨⟨_, rfl, a1, c1, hx, r1⟩, Below.refl _ _⟩
      subst hx
      have q1 : (frmV a0 u dsK).eval (.tmp 49) = u 49 := frmV_in (by rw [z]; decide) rfl
      have q3 : (frmV a0 u dsK).eval (.tmp 50) = u 50 := frmV_in (by rw [z]; decide) rfl
      have q2 : ∀ v, (frmV a0 u dsK).eval (.const v) = v := fun _ => rfl
      revert q1 q2 q3
      generalize (frmV a0 u dsK).eval = ρ
      intro q1 q2 q3
      simp [execOp, go_sem, q1, q2, q3, G2, e1]
    refine ⟨fun u W hW hg => ?_, ?_⟩
    · refine good_run (d := 52) (v := .agg #[.int .i64 33, .slice none 0 0]) (w' := W) (by rw [ho]; rfl) rfl rfl rfl rfl ?_ ⟨⟨_, rfl, none, 0, rfl, Rd.nil _ _⟩, Below.refl _ _⟩
      simp [execOp, Act.eval, go_sem]
    refine ⟨fun u W hW hg => ?_, ?_⟩
    · refine good_run (d := 53) (v := (.slice (some ⟨B2, 0, none⟩) 1 1)) (w' := W) (by rw [ho]; rfl) rfl rfl rfl rfl ?_ ⟨rfl, Below.refl _ _⟩
      show (pure (.value ((frmV a0 u dsK).eval (.tmp 2))) : Sem Next).run _ W = _
      rw [frmV_out (by rw [z]; decide) rfl, z2]; rfl
    refine ⟨fun u W hW hg => ?_, ?_⟩
    · have G : GdK (.slice (some ⟨B2, 0, none⟩) 1 1) (.slice (some ⟨B3, 0, none⟩) 4 4) (.slice (some ⟨B3, 0, none⟩) 1 4) (.slice (some ⟨B3, 0, none⟩) 2 4) 4 (u 52) W := hg 4 (by decide)
      have G2 : u 53 = (.slice (some ⟨B2, 0, none⟩) 1 1) := hg 5 (by decide)
      obtain ⟨x, e1, a1, c1, hx, r1⟩ := G
      refine good_run (d := 54) (v := .agg #[.int .i64 33, x, (.slice (some ⟨B2, 0, none⟩) 1 1), .int .i64 3, .int .i64 3]) (w' := W) (by rw [ho]; rfl) rfl rfl rfl rfl ?_ ⟨⟨_, rfl, a1, c1, hx, r1⟩, Below.refl _ _⟩
      subst hx
      have q1 : (frmV a0 u dsK).eval (.tmp 52) = u 52 := frmV_in (by rw [z]; decide) rfl
      have q3 : (frmV a0 u dsK).eval (.tmp 53) = u 53 := frmV_in (by rw [z]; decide) rfl
      have q2 : ∀ v, (frmV a0 u dsK).eval (.const v) = v := fun _ => rfl
      revert q1 q2 q3
      generalize (frmV a0 u dsK).eval = ρ
      intro q1 q2 q3
      simp [execOp, go_sem, q1, q2, q3, G2, e1]
    refine ⟨fun u W hW hg => ?_, ?_⟩
    · refine good_run (d := 55) (v := .slice (some ⟨W.heap.size, 0, none⟩) 65 65) (w' := W.alloc (.cells (madeCells #[.int .u64 0] 65) 52)) (by rw [ho]; rfl) rfl rfl rfl rfl ?_ ⟨⟨some ⟨W.heap.size, 0, none⟩, 65, rfl, rd65 W⟩, bl_alloc (Below.refl _ W) _⟩
      have hmk := HMK.out W
      simp [execOp, Act.eval, go_sem, hmk]
    refine ⟨fun u W hW hg => ?_, ?_⟩
    · have G : GdK (.slice (some ⟨B2, 0, none⟩) 1 1) (.slice (some ⟨B3, 0, none⟩) 4 4) (.slice (some ⟨B3, 0, none⟩) 1 4) (.slice (some ⟨B3, 0, none⟩) 2 4) 7 (u 55) W := hg 7 (by decide)
      obtain ⟨a1, c1, e1, r1⟩ := G
      refine good_run (d := 56) (v := .agg #[.int .i64 3, u 55]) (w' := W) (by rw [ho]; rfl) rfl rfl rfl rfl ?_ ⟨⟨_, rfl, a1, c1, e1, r1⟩, Below.refl _ _⟩
      have q1 : (frmV a0 u dsK).eval (.tmp 55) = u 55 := frmV_in (by rw [z]; decide) rfl
      have q2 : ∀ v, (frmV a0 u dsK).eval (.const v) = v := fun _ => rfl
      revert q1 q2
      generalize (frmV a0 u dsK).eval = ρ
      intro q1 q2
      simp [execOp, go_sem, q1, q2, e1]
    refine ⟨fun u W hW hg => ?_, ?_⟩
    · refine good_run (d := 57) (v := (.slice (some ⟨B2, 0, none⟩) 1 1)) (w' := W) (by rw [ho]; rfl) rfl rfl rfl rfl ?_ ⟨rfl, Below.refl _ _⟩
      show (pure (.value ((frmV a0 u dsK).eval (.tmp 2))) : Sem Next).run _ W = _
      rw [frmV_out (by rw [z]; decide) rfl, z2]; rfl
    refine ⟨fun u W hW hg => ?_, ?_⟩
    · have G : GdK (.slice (some ⟨B2, 0, none⟩) 1 1) (.slice (some ⟨B3, 0, none⟩) 4 4) (.slice (some ⟨B3, 0, none⟩) 1 4) (.slice (some ⟨B3, 0, none⟩) 2 4) 8 (u 56) W := hg 8 (by decide)
      have G2 : u 57 = (.slice (some ⟨B2, 0, none⟩) 1 1) := hg 9 (by decide)
      obtain ⟨x, e1, a1, c1, hx, r1⟩ := G
      refine good_run (d := 58) (v := .agg #[.int .i64 3, x, (.slice (some ⟨B2, 0, none⟩) 1 1), .int .i64 12, .int .i64 12]) (w' := W) (by rw [ho]; rfl) rfl rfl rfl rfl ?_ ⟨⟨_, rfl, a1, c1, hx, r1⟩, Below.refl _ _⟩
      subst hx
      have q1 : (frmV a0 u dsK).eval (.tmp 56) = u 56 := frmV_in (by rw [z]; decide) rfl
      have q3 : (frmV a0 u dsK).eval (.tmp 57) = u 57 := frmV_in (by rw [z]; decide) rfl
      have q2 : ∀ v, (frmV a0 u dsK).eval (.const v) = v := fun _ => rfl
      revert q1 q2 q3
      generalize (frmV a0 u dsK).eval = ρ
      intro q1 q2 q3
      simp [execOp, go_sem, q1, q2, q3, G2, e1]
    refine ⟨fun u W hW hg => ?_, ?_⟩
    · have g1 : W.cell? ⟨X, 0, none⟩ = some (.int .i64 3) := (hW.cell (p := ⟨X, 0, none⟩) hXl).trans cX1
      have g2 : W.cell? ⟨X, 1, none⟩ = some (.slice (some ⟨B1, 0, none⟩) 1 1) := (hW.cell (p := ⟨X, 1, none⟩) hXl).trans cX2
      refine good_run (d := 59) (v := .agg #[.int .i64 3, .slice (some ⟨B1, 0, none⟩) 1 1]) (w' := W) (by rw [ho]; rfl) rfl rfl rfl rfl ?_ ⟨⟨_, rfl, some ⟨B1, 0, none⟩, 1, rfl, HR1.out.bl hW⟩, Below.refl _ _⟩
      have q1 : (frmV a0 u dsK).eval (.tmp 1) = a0.tmps.getD 1 undef := frmV_out (by rw [z]; decide) rfl
      rw [z1] at q1
      revert q1
      generalize (frmV a0 u dsK).eval = ρ
      intro q1
      simp [execOp, go_sem, q1, g1, g2]
    refine ⟨fun u W hW hg => ?_, ?_⟩
    · refine good_run (d := 60) (v := (.slice (some ⟨B2, 0, none⟩) 1 1)) (w' := W) (by rw [ho]; rfl) rfl rfl rfl rfl ?_ ⟨rfl, Below.refl _ _⟩
      show (pure (.value ((frmV a0 u dsK).eval (.tmp 2))) : Sem Next).run _ W = _
      rw [frmV_out (by rw [z]; decide) rfl, z2]; rfl
    refine ⟨fun u W hW hg => ?_, ?_⟩
    · have G : GdK (.slice (some ⟨B2, 0, none⟩) 1 1) (.slice (some ⟨B3, 0, none⟩) 4 4) (.slice (some ⟨B3, 0, none⟩) 1 4) (.slice (some ⟨B3, 0, none⟩) 2 4) 11 (u 59) W := hg 11 (by decide)
      have G2 : u 60 = (.slice (some ⟨B2, 0, none⟩) 1 1) := hg 12 (by decide)
      obtain ⟨x, e1, a1, c1, hx, r1⟩ := G
      refine good_run (d := 61) (v := .agg #[.int .i64 3, x, (.slice (some ⟨B2, 0, none⟩) 1 1), .int .i64 2, .int .i64 2]) (w' := W) (by rw [ho]; rfl) rfl rfl rfl rfl ?_ ⟨⟨_, rfl, a1, c1, hx, r1⟩, Below.refl _ _⟩
      subst hx
      have q1 : (frmV a0 u dsK).eval (.tmp 59) = u 59 := frmV_in (by rw [z]; decide) rfl
      have q3 : (frmV a0 u dsK).eval (.tmp 60) = u 60 := frmV_in (by rw [z]; decide) rfl
      have q2 : ∀ v, (frmV a0 u dsK).eval (.const v) = v := fun _ => rfl
      revert q1 q2 q3
      generalize (frmV a0 u dsK).eval = ρ
      intro q1 q2 q3
      simp [execOp, go_sem, q1, q2, q3, G2, e1]
    refine ⟨fun u W hW hg => ?_, ?_⟩
    · refine good_call (d := 62) (f := 22) (args := #[]) (by rw [ho]; rfl) rfl rfl rfl rfl (by simp [execOp, Act.eval, go_sem]) ((HT.out W).mono ?_)
      rintro e w' ⟨B, rfl, hr, hb⟩
      exact ⟨_, rfl, ⟨_, rfl, some ⟨B, 0, none⟩, 3, rfl, hr⟩, hb⟩
    refine ⟨fun u W hW hg => ?_, ?_⟩
    · refine good_run (d := 63) (v := (.slice (some ⟨B2, 0, none⟩) 1 1)) (w' := W) (by rw [ho]; rfl) rfl rfl rfl rfl ?_ ⟨rfl, Below.refl _ _⟩
      show (pure (.value ((frmV a0 u dsK).eval (.tmp 2))) : Sem Next).run _ W = _
      rw [frmV_out (by rw [z]; decide) rfl, z2]; rfl
    refine ⟨fun u W hW hg => ?_, ?_⟩
    · have G : GdK (.slice (some ⟨B2, 0, none⟩) 1 1) (.slice (some ⟨B3, 0, none⟩) 4 4) (.slice (some ⟨B3, 0, none⟩) 1 4) (.slice (some ⟨B3, 0, none⟩) 2 4) 14 (u 62) W := hg 14 (by decide)
      have G2 : u 63 = (.slice (some ⟨B2, 0, none⟩) 1 1) := hg 15 (by decide)
      obtain ⟨x, e1, a1, c1, hx, r1⟩ := G
      refine good_run (d := 64) (v := .agg #[.int .i64 4, x, (.slice (some ⟨B2, 0, none⟩) 1 1), .int .i64 16, .int .i64 16]) (w' := W) (by rw [ho]; rfl) rfl rfl rfl rfl ?_ ⟨⟨_, rfl, a1, c1, hx, r1⟩, Below.refl _ _⟩
      subst hx
      have q1 : (frmV a0 u dsK).eval (.tmp 62) = u 62 := frmV_in (by rw [z]; decide) rfl
      have q3 : (frmV a0 u dsK).eval (.tmp 63) = u 63 := frmV_in (by rw [z]; decide) rfl
      have q2 : ∀ v, (frmV a0 u dsK).eval (.const v) = v := fun _ => rfl
      revert q1 q2 q3
      generalize (frmV a0 u dsK).eval = ρ
      intro q1 q2 q3
      simp [execOp, go_sem, q1, q2, q3, G2, e1]
    refine ⟨fun u W hW hg => ?_, ?_⟩
    · refine good_call (d := 65) (f := 22) (args := #[]) (by rw [ho]; rfl) rfl rfl rfl rfl (by simp [execOp, Act.eval, go_sem]) ((HT.out W).mono ?_)
      rintro e w' ⟨B, rfl, hr, hb⟩
      exact ⟨_, rfl, ⟨_, rfl, some ⟨B, 0, none⟩, 3, rfl, hr⟩, hb⟩
    refine ⟨fun u W hW hg => ?_, ?_⟩
    · refine good_run (d := 66) (v := (.slice (some ⟨B3, 0, none⟩) 4 4)) (w' := W) (by rw [ho]; rfl) rfl rfl rfl rfl ?_ ⟨rfl, Below.refl _ _⟩
      show (pure (.value ((frmV a0 u dsK).eval (.tmp 3))) : Sem Next).run _ W = _
      rw [frmV_out (by rw [z]; decide) rfl, z3]; rfl
    refine ⟨fun u W hW hg => ?_, ?_⟩
    · have G : GdK (.slice (some ⟨B2, 0, none⟩) 1 1) (.slice (some ⟨B3, 0, none⟩) 4 4) (.slice (some ⟨B3, 0, none⟩) 1 4) (.slice (some ⟨B3, 0, none⟩) 2 4) 17 (u 65) W := hg 17 (by decide)
      have G2 : u 66 = (.slice (some ⟨B3, 0, none⟩) 4 4) := hg 18 (by decide)
      obtain ⟨x, e1, a1, c1, hx, r1⟩ := G
      refine good_run (d := 67) (v := .agg #[.int .i64 4, x, (.slice (some ⟨B3, 0, none⟩) 4 4), .int .i64 2, .int .i64 2]) (w' := W) (by rw [ho]; rfl) rfl rfl rfl rfl ?_ ⟨⟨_, rfl, a1, c1, hx, r1⟩, Below.refl _ _⟩
      subst hx
      have q1 : (frmV a0 u dsK).eval (.tmp 65) = u 65 := frmV_in (by rw [z]; decide) rfl
      have q3 : (frmV a0 u dsK).eval (.tmp 66) = u 66 := frmV_in (by rw [z]; decide) rfl
      have q2 : ∀ v, (frmV a0 u dsK).eval (.const v) = v := fun _ => rfl
      revert q1 q2 q3
      generalize (frmV a0 u dsK).eval = ρ
      intro q1 q2 q3
      simp [execOp, go_sem, q1, q2, q3, G2, e1]
    refine ⟨fun u W hW hg => ?_, ?_⟩
    · refine good_run (d := 68) (v := .slice (some ⟨W.heap.size, 0, none⟩) 1 1) (w' := W.alloc (.cells #[.int .u64 3] 52)) (by rw [ho]; rfl) rfl rfl rfl rfl ?_ ⟨⟨some ⟨W.heap.size, 0, none⟩, 1, rfl, rd1 W 3⟩, bl_alloc (Below.refl _ W) _⟩
      simp [execOp, Act.eval, go_sem]
    refine ⟨fun u W hW hg => ?_, ?_⟩
    · have G : GdK (.slice (some ⟨B2, 0, none⟩) 1 1) (.slice (some ⟨B3, 0, none⟩) 4 4) (.slice (some ⟨B3, 0, none⟩) 1 4) (.slice (some ⟨B3, 0, none⟩) 2 4) 20 (u 68) W := hg 20 (by decide)
      obtain ⟨a1, c1, e1, r1⟩ := G
      refine good_run (d := 69) (v := .agg #[.int .i64 3, u 68]) (w' := W) (by rw [ho]; rfl) rfl rfl rfl rfl ?_ ⟨⟨_, rfl, a1, c1, e1, r1⟩, Below.refl _ _⟩
      have q1 : (frmV a0 u dsK).eval (.tmp 68) = u 68 := frmV_in (by rw [z]; decide) rfl
      have q2 : ∀ v, (frmV a0 u dsK).eval (.const v) = v := fun _ => rfl
      revert q1 q2
      generalize (frmV a0 u dsK).eval = ρ
      intro q1 q2
      simp [execOp, go_sem, q1, q2, e1]
    refine ⟨fun u W hW hg => ?_, ?_⟩
    · refine good_run (d := 70) (v := (.slice (some ⟨B3, 0, none⟩) 4 4)) (w' := W) (by rw [ho]; rfl) rfl rfl rfl rfl ?_ ⟨rfl, Below.refl _ _⟩
      show (pure (.value ((frmV a0 u dsK).eval (.tmp 3))) : Sem Next).run _ W = _
      rw [frmV_out (by rw [z]; decide) rfl, z3]; rfl
    refine ⟨fun u W hW hg => ?_, ?_⟩
    · have G : GdK (.slice (some ⟨B2, 0, none⟩) 1 1) (.slice (some ⟨B3, 0, none⟩) 4 4) (.slice (some ⟨B3, 0, none⟩) 1 4) (.slice (some ⟨B3, 0, none⟩) 2 4) 21 (u 69) W := hg 21 (by decide)
      have G2 : u 70 = (.slice (some ⟨B3, 0, none⟩) 4 4) := hg 22 (by decide)
      obtain ⟨x, e1, a1, c1, hx, r1⟩ := G
      refine good_run (d := 71) (v := .agg #[.int .i64 3, x, (.slice (some ⟨B3, 0, none⟩) 4 4), .int .i64 0, .int .i64 2]) (w' := W) (by rw [ho]; rfl) rfl rfl rfl rfl ?_ ⟨⟨_, rfl, a1, c1, hx, r1⟩, Below.refl _ _⟩
      subst hx
      have q1 : (frmV a0 u dsK).eval (.tmp 69) = u 69 := frmV_in (by rw [z]; decide) rfl
      have q3 : (frmV a0 u dsK).eval (.tmp 70) = u 70 := frmV_in (by rw [z]; decide) rfl
      have q2 : ∀ v, (frmV a0 u dsK).eval (.const v) = v := fun _ => rfl
      revert q1 q2 q3
      generalize (frmV a0 u dsK).eval = ρ
      intro q1 q2 q3
      simp [execOp, go_sem, q1, q2, q3, G2, e1]
    refine ⟨fun u W hW hg => ?_, ?_⟩
    · refine good_run (d := 72) (v := .agg #[.int .i64 1, .slice none 0 0]) (w' := W) (by rw [ho]; rfl) rfl rfl rfl rfl ?_ ⟨⟨_, rfl, none, 0, rfl, Rd.nil _ _⟩, Below.refl _ _⟩
      simp [execOp, Act.eval, go_sem]
    refine ⟨fun u W hW hg => ?_, ?_⟩
    · refine good_run (d := 73) (v := (.slice (some ⟨B3, 0, none⟩) 4 4)) (w' := W) (by rw [ho]; rfl) rfl rfl rfl rfl ?_ ⟨rfl, Below.refl _ _⟩
      show (pure (.value ((frmV a0 u dsK).eval (.tmp 3))) : Sem Next).run _ W = _
      rw [frmV_out (by rw [z]; decide) rfl, z3]; rfl
    refine ⟨fun u W hW hg => ?_, ?_⟩
    · have G2 : u 73 = (.slice (some ⟨B3, 0, none⟩) 4 4) := hg 25 (by decide)
      refine good_run (d := 74) (v := (.slice (some ⟨B3, 0, none⟩) 1 4)) (w' := W) (by rw [ho]; rfl) rfl rfl rfl rfl ?_ ⟨rfl, Below.refl _ _⟩
      have q1 : (frmV a0 u dsK).eval (.tmp 73) = u 73 := frmV_in (by rw [z]; decide) rfl
      have q2 : ∀ v, (frmV a0 u dsK).eval (.const v) = v := fun _ => rfl
      revert q1 q2
      generalize (frmV a0 u dsK).eval = ρ
      intro q1 q2
      simp [execOp, go_sem, q1, q2, G2]
    refine ⟨fun u W hW hg => ?_, ?_⟩
    · have G : GdK (.slice (some ⟨B2, 0, none⟩) 1 1) (.slice (some ⟨B3, 0, none⟩) 4 4) (.slice (some ⟨B3, 0, none⟩) 1 4) (.slice (some ⟨B3, 0, none⟩) 2 4) 24 (u 72) W := hg 24 (by decide)
      have G2 : u 74 = (.slice (some ⟨B3, 0, none⟩) 1 4) := hg 26 (by decide)
      obtain ⟨x, e1, a1, c1, hx, r1⟩ := G
      refine good_run (d := 75) (v := .agg #[.int .i64 1, x, (.slice (some ⟨B3, 0, none⟩) 1 4), .int .i64 0, .int .i64 0]) (w' := W) (by rw [ho]; rfl) rfl rfl rfl rfl ?_ ⟨⟨_, rfl, a1, c1, hx, r1⟩, Below.refl _ _⟩
      subst hx
      have q1 : (frmV a0 u dsK).eval (.tmp 72) = u 72 := frmV_in (by rw [z]; decide) rfl
      have q3 : (frmV a0 u dsK).eval (.tmp 74) = u 74 := frmV_in (by rw [z]; decide) rfl
      have q2 : ∀ v, (frmV a0 u dsK).eval (.const v) = v := fun _ => rfl
      revert q1 q2 q3
      generalize (frmV a0 u dsK).eval = ρ
      intro q1 q2 q3
      simp [execOp, go_sem, q1, q2, q3, G2, e1]
    refine ⟨fun u W hW hg => ?_, ?_⟩
    · refine good_run (d := 76) (v := .slice (some ⟨W.heap.size, 0, none⟩) 1 1) (w' := W.alloc (.cells #[.int .u64 1] 52)) (by rw [ho]; rfl) rfl rfl rfl rfl ?_ ⟨⟨some ⟨W.heap.size, 0, none⟩, 1, rfl, rd1 W 1⟩, bl_alloc (Below.refl _ W) _⟩
      simp [execOp, Act.eval, go_sem]
    refine ⟨fun u W hW hg => ?_, ?_⟩
    · have G : GdK (.slice (some ⟨B2, 0, none⟩) 1 1) (.slice (some ⟨B3, 0, none⟩) 4 4) (.slice (some ⟨B3, 0, none⟩) 1 4) (.slice (some ⟨B3, 0, none⟩) 2 4) 28 (u 76) W := hg 28 (by decide)
      obtain ⟨a1, c1, e1, r1⟩ := G
      refine good_run (d := 77) (v := .agg #[.int .i64 1, u 76]) (w' := W) (by rw [ho]; rfl) rfl rfl rfl rfl ?_ ⟨⟨_, rfl, a1, c1, e1, r1⟩, Below.refl _ _⟩
      have q1 : (frmV a0 u dsK).eval (.tmp 76) = u 76 := frmV_in (by rw [z]; decide) rfl
      have q2 : ∀ v, (frmV a0 u dsK).eval (.const v) = v := fun _ => rfl
      revert q1 q2
      generalize (frmV a0 u dsK).eval = ρ
      intro q1 q2
      simp [execOp, go_sem, q1, q2, e1]
    refine ⟨fun u W hW hg => ?_, ?_⟩
    · refine good_run (d := 78) (v := (.slice (some ⟨B3, 0, none⟩) 4 4)) (w' := W) (by rw [ho]; rfl) rfl rfl rfl rfl ?_ ⟨rfl, Below.refl _ _⟩
      show (pure (.value ((frmV a0 u dsK).eval (.tmp 3))) : Sem Next).run _ W = _
      rw [frmV_out (by rw [z]; decide) rfl, z3]; rfl
    refine ⟨fun u W hW hg => ?_, ?_⟩
    · have G2 : u 78 = (.slice (some ⟨B3, 0, none⟩) 4 4) := hg 30 (by decide)
      refine good_run (d := 79) (v := (.slice (some ⟨B3, 0, none⟩) 2 4)) (w' := W) (by rw [ho]; rfl) rfl rfl rfl rfl ?_ ⟨rfl, Below.refl _ _⟩
      have q1 : (frmV a0 u dsK).eval (.tmp 78) = u 78 := frmV_in (by rw [z]; decide) rfl
      have q2 : ∀ v, (frmV a0 u dsK).eval (.const v) = v := fun _ => rfl
      revert q1 q2
      generalize (frmV a0 u dsK).eval = ρ
      intro q1 q2
      simp [execOp, go_sem, q1, q2, G2]
    refine ⟨fun u W hW hg => ?_, ?_⟩
    · have G : GdK (.slice (some ⟨B2, 0, none⟩) 1 1) (.slice (some ⟨B3, 0, none⟩) 4 4) (.slice (some ⟨B3, 0, none⟩) 1 4) (.slice (some ⟨B3, 0, none⟩) 2 4) 29 (u 77) W := hg 29 (by decide)
      have G2 : u 79 = (.slice (some ⟨B3, 0, none⟩) 2 4) := hg 31 (by decide)
      obtain ⟨x, e1, a1, c1, hx, r1⟩ := G
      refine good_run (d := 80) (v := .agg #[.int .i64 1, x, (.slice (some ⟨B3, 0, none⟩) 2 4), .int .i64 0, .int .i64 2]) (w' := W) (by rw [ho]; rfl) rfl rfl rfl rfl ?_ ⟨⟨_, rfl, a1, c1, hx, r1⟩, Below.refl _ _⟩
      subst hx
      have q1 : (frmV a0 u dsK).eval (.tmp 77) = u 77 := frmV_in (by rw [z]; decide) rfl
      have q3 : (frmV a0 u dsK).eval (.tmp 79) = u 79 := frmV_in (by rw [z]; decide) rfl
      have q2 : ∀ v, (frmV a0 u dsK).eval (.const v) = v := fun _ => rfl
      revert q1 q2 q3
      generalize (frmV a0 u dsK).eval = ρ
      intro q1 q2 q3
      simp [execOp, go_sem, q1, q2, q3, G2, e1]
    refine ⟨fun u W hW hg => ?_, ?_⟩
    · obtain ⟨x0, f0, s0⟩ := (show GdK (.slice (some ⟨B2, 0, none⟩) 1 1) (.slice (some ⟨B3, 0, none⟩) 4 4) (.slice (some ⟨B3, 0, none⟩) 1 4) (.slice (some ⟨B3, 0, none⟩) 2 4) 3 (u 51) W from hg 3 (by decide))
      obtain ⟨x1, f1, s1⟩ := (show GdK (.slice (some ⟨B2, 0, none⟩) 1 1) (.slice (some ⟨B3, 0, none⟩) 4 4) (.slice (some ⟨B3, 0, none⟩) 1 4) (.slice (some ⟨B3, 0, none⟩) 2 4) 6 (u 54) W from hg 6 (by decide))
      obtain ⟨x2, f2, s2⟩ := (show GdK (.slice (some ⟨B2, 0, none⟩) 1 1) (.slice (some ⟨B3, 0, none⟩) 4 4) (.slice (some ⟨B3, 0, none⟩) 1 4) (.slice (some ⟨B3, 0, none⟩) 2 4) 10 (u 58) W from hg 10 (by decide))
      obtain ⟨x3, f3, s3⟩ := (show GdK (.slice (some ⟨B2, 0, none⟩) 1 1) (.slice (some ⟨B3, 0, none⟩) 4 4) (.slice (some ⟨B3, 0, none⟩) 1 4) (.slice (some ⟨B3, 0, none⟩) 2 4) 13 (u 61) W from hg 13 (by decide))
      obtain ⟨x4, f4, s4⟩ := (show GdK (.slice (some ⟨B2, 0, none⟩) 1 1) (.slice (some ⟨B3, 0, none⟩) 4 4) (.slice (some ⟨B3, 0, none⟩) 1 4) (.slice (some ⟨B3, 0, none⟩) 2 4) 16 (u 64) W from hg 16 (by decide))
      obtain ⟨x5, f5, s5⟩ := (show GdK (.slice (some ⟨B2, 0, none⟩) 1 1) (.slice (some ⟨B3, 0, none⟩) 4 4) (.slice (some ⟨B3, 0, none⟩) 1 4) (.slice (some ⟨B3, 0, none⟩) 2 4) 19 (u 67) W from hg 19 (by decide))
      obtain ⟨x6, f6, s6⟩ := (show GdK (.slice (some ⟨B2, 0, none⟩) 1 1) (.slice (some ⟨B3, 0, none⟩) 4 4) (.slice (some ⟨B3, 0, none⟩) 1 4) (.slice (some ⟨B3, 0, none⟩) 2 4) 23 (u 71) W from hg 23 (by decide))
      obtain ⟨x7, f7, s7⟩ := (show GdK (.slice (some ⟨B2, 0, none⟩) 1 1) (.slice (some ⟨B3, 0, none⟩) 4 4) (.slice (some ⟨B3, 0, none⟩) 1 4) (.slice (some ⟨B3, 0, none⟩) 2 4) 27 (u 75) W from hg 27 (by decide))
      obtain ⟨x8, f8, s8⟩ := (show GdK (.slice (some ⟨B2, 0, none⟩) 1 1) (.slice (some ⟨B3, 0, none⟩) 4 4) (.slice (some ⟨B3, 0, none⟩) 1 4) (.slice (some ⟨B3, 0, none⟩) 2 4) 32 (u 80) W from hg 32 (by decide))
      have q0 : (frmV a0 u dsK).eval (.tmp 51) = u 51 := frmV_in (by rw [z]; decide) rfl
      have q1 : (frmV a0 u dsK).eval (.tmp 54) = u 54 := frmV_in (by rw [z]; decide) rfl
      have q2 : (frmV a0 u dsK).eval (.tmp 58) = u 58 := frmV_in (by rw [z]; decide) rfl
      have q3 : (frmV a0 u dsK).eval (.tmp 61) = u 61 := frmV_in (by rw [z]; decide) rfl
      have q4 : (frmV a0 u dsK).eval (.tmp 64) = u 64 := frmV_in (by rw [z]; decide) rfl
      have q5 : (frmV a0 u dsK).eval (.tmp 67) = u 67 := frmV_in (by rw [z]; decide) rfl
      have q6 : (frmV a0 u dsK).eval (.tmp 71) = u 71 := frmV_in (by rw [z]; decide) rfl
      have q7 : (frmV a0 u dsK).eval (.tmp 75) = u 75 := frmV_in (by rw [z]; decide) rfl
      have q8 : (frmV a0 u dsK).eval (.tmp 80) = u 80 := frmV_in (by rw [z]; decide) rfl
      refine good_run (d := 81) (v := .slice (some ⟨W.heap.size, 0, none⟩) 9 9) (w' := W.alloc (.cells #[.int .i64 (-1), x0, (.slice (some ⟨B2, 0, none⟩) 1 1), .int .i64 3, .int .i64 3, .int .i64 33, x1, (.slice (some ⟨B2, 0, none⟩) 1 1), .int .i64 3, .int .i64 3, .int .i64 3, x2, (.slice (some ⟨B2, 0, none⟩) 1 1), .int .i64 12, .int .i64 12, .int .i64 3, x3, (.slice (some ⟨B2, 0, none⟩) 1 1), .int .i64 2, .int .i64 2, .int .i64 4, x4, (.slice (some ⟨B2, 0, none⟩) 1 1), .int .i64 16, .int .i64 16, .int .i64 4, x5, (.slice (some ⟨B3, 0, none⟩) 4 4), .int .i64 2, .int .i64 2, .int .i64 3, x6, (.slice (some ⟨B3, 0, none⟩) 4 4), .int .i64 0, .int .i64 2, .int .i64 1, x7, (.slice (some ⟨B3, 0, none⟩) 1 4), .int .i64 0, .int .i64 0, .int .i64 1, x8, (.slice (some ⟨B3, 0, none⟩) 2 4), .int .i64 0, .int .i64 2] 53)) (by rw [ho]; rfl) rfl rfl rfl rfl ?_ ⟨⟨W.heap.size, x0, x1, x2, x3, x4, x5, x6, x7, x8, rfl, Blk.new _ _ _, s0.bl (bl_alloc (Below.refl _ W) _), s1.bl (bl_alloc (Below.refl _ W) _), s2.bl (bl_alloc (Below.refl _ W) _), s3.bl (bl_alloc (Below.refl _ W) _), s4.bl (bl_alloc (Below.refl _ W) _), s5.bl (bl_alloc (Below.refl _ W) _), s6.bl (bl_alloc (Below.refl _ W) _), s7.bl (bl_alloc (Below.refl _ W) _), s8.bl (bl_alloc (Below.refl _ W) _)⟩, bl_alloc (Below.refl _ W) _⟩
      obtain ⟨k0, c0, rfl, _⟩ := s0
      obtain ⟨k1, c1, rfl, _⟩ := s1
      obtain ⟨k2, c2, rfl, _⟩ := s2
      obtain ⟨k3, c3, rfl, _⟩ := s3
      obtain ⟨k4, c4, rfl, _⟩ := s4
      obtain ⟨k5, c5, rfl, _⟩ := s5
      obtain ⟨k6, c6, rfl, _⟩ := s6
      obtain ⟨k7, c7, rfl, _⟩ := s7
      obtain ⟨k8, c8, rfl, _⟩ := s8
      revert q0 q1 q2 q3 q4 q5 q6 q7 q8
      generalize (frmV a0 u dsK).eval = ρ
      intro q0 q1 q2 q3 q4 q5 q6 q7 q8
      simp [execOp, go_sem, q0, f0, q1, f1, q2, f2, q3, f3, q4, f4, q5, f5, q6, f6, q7, f7, q8, f8]
    refine ⟨fun u W hW hg => ?_, ?_⟩
    · obtain ⟨g, x0, x1, x2, x3, x4, x5, x6, x7, x8, f0, _⟩ := (show GdK (.slice (some ⟨B2, 0, none⟩) 1 1) (.slice (some ⟨B3, 0, none⟩) 4 4) (.slice (some ⟨B3, 0, none⟩) 1 4) (.slice (some ⟨B3, 0, none⟩) 2 4) 33 (u 81) W from hg 33 (by decide))
      refine good_run (d := 82) (v := .int .i64 9) (w' := W) (by rw [ho]; rfl) rfl rfl rfl rfl ?_ ⟨rfl, Below.refl _ _⟩
      have q1 : (frmV a0 u dsK).eval (.tmp 81) = u 81 := frmV_in (by rw [z]; decide) rfl
      revert q1
      generalize (frmV a0 u dsK).eval = ρ
      intro q1
      simp [execOp, go_sem, q1, f0]
    refine ⟨fun u W hW hg => ?_, trivial⟩
    refine good_run (d := 83) (v := .int .i64 0) (w' := W) (by rw [ho]; rfl) rfl rfl rfl rfl ?_ ⟨rfl, Below.refl _ _⟩
    rfl
  · intro u W hW hg
    obtain ⟨g, hv, f0, hgl, hE⟩ := ent_at (v := u 81) (hg 33 (by decide))
    have f1 : u 82 = .int .i64 9 := hg 34 (by decide)
    have f2 : u 83 = .int .i64 0 := hg 35 (by decide)
    have HE := Lib.hid hE
    have HR2W := Lib.hid (HR2.out.bl hW)
    have HR3W := Lib.hid (HR3.out.bl hW)
    have HBW : Hid (Below w.heap.size w W) := bl_trans HB4.out (bl_trans (bl_drewN (Below.refl _ w4) 1) hW)
    have hX0 : W.cell? ⟨X, 0, none⟩ = some (.int .i64 3) := (hW.cell (p := ⟨X, 0, none⟩) hXl).trans cX1
    have hX1 : W.cell? ⟨X, 1, none⟩ = some (.slice (some ⟨B1, 0, none⟩) 1 1) := (hW.cell (p := ⟨X, 1, none⟩) hXl).trans cX2
    have hXW : X < W.heap.size := Nat.lt_of_lt_of_le hXl hW.size
    have HR1W := Lib.hid (HR1.out.bl hW)
    clear hE hg cX1 cX2 hXl HR1 HR2 HR3 HB4 hW HMK hw4 hB1 hX hB2 hB3
    simp only [dsK, List.range', Nat.reduceAdd, frmV, Act.put, List.setIfInBounds_toArray, List.set_cons_zero, List.set_cons_succ]
    rw [f0, f1, f2]
    clear f0 f1 f2
    go_wp2_with fail
    go_loopw [83] (fun x wr => ∃ i : Nat, i ≤ 9 ∧ x = .int .i64 i ∧ Hid (Below W.heap.size W wr)) (fun x _ => 9 - (intOf x).toNat)
    case atStart => exact ⟨0, by omega, rfl, Below.refl _ _⟩
    case round =>
      obtain ⟨i, hi, rfl, hB⟩ := hrel
      obtain ⟨wo, rfl⟩ : ∃ wo : World, wo = wr := ⟨_, rfl⟩
      by_cases hlt : i < 9
      · obtain ⟨g0, g1, g2, g3, g4, ha, hc, eh, hr⟩ := HE.out i hlt
        rw [eh] at g1
        obtain ⟨p1, p2, p3, p4, p5⟩ := k_facts i hlt
        obtain ⟨s1, s2⟩ := k_small i hlt
        have hrt := rd_kT HR2W.out HR3W.out i hlt
        replace g0 := (hB.out.cell (p := ⟨g, i * 5, none⟩) hgl).trans g0
        replace g1 := (hB.out.cell (p := ⟨g, i * 5 + 1, none⟩) hgl).trans g1
        replace g2 := (hB.out.cell (p := ⟨g, i * 5 + 2, none⟩) hgl).trans g2
        replace g3 := (hB.out.cell (p := ⟨g, i * 5 + 3, none⟩) hgl).trans g3
        replace g4 := (hB.out.cell (p := ⟨g, i * 5 + 4, none⟩) hgl).trans g4
        have HLT := Lib.hid (fun (W' : World) (hW : Below W.heap.size W W') => length_any (kL i) ha (kH i).length hc (kH i) (some ⟨if i < 5 then B2 else B3, 0, none⟩) (kT i).length (if i < 5 then 1 else 4) (kT i) W' rfl (by omega) (hr.bl hW) (fun j hj => by have := s2 j hj; omega) rfl (by omega) (hrt.bl hW) (fun v hv => by have := s1 v hv; omega))
        have HLS := Lib.hid (fun (W' : World) (hW : Below W.heap.size W W') => lengths_any (kL i) ha (kH i).length hc (kH i) (some ⟨if i < 5 then B2 else B3, 0, none⟩) (kT i).length (if i < 5 then 1 else 4) (kT i) W' rfl (by omega) (hr.bl hW) (fun j hj => by have := s2 j hj; omega) rfl (by omega) (hrt.bl hW) (fun v hv => by have := s1 v hv; omega))
        have HCB : Hid (∀ W' : World, Below W.heap.size W W' → Calls Tryd.prog 21 #[.agg #[.int .i64 (kL i), .slice ha (kH i).length hc], .slice (some ⟨if i < 5 then B2 else B3, 0, none⟩) (kT i).length (if i < 5 then 1 else 4)] W' fun e w' => ∃ (v : Value) (m : Int), e = .returned (.tuple #[v, .int .i64 m, .int .i64 (kF i)]) ∧ Below W'.heap.size W' w') := fun W' hW => by
          refine (climb_any (kL i) ha (kH i).length hc (kH i) (some ⟨if i < 5 then B2 else B3, 0, none⟩) (kT i).length (if i < 5 then 1 else 4) (kT i) W' rfl (by omega) (hr.bl hW) (fun j hj => by have := s2 j hj; omega) rfl (by omega) (hrt.bl hW) (fun v hv => by have := s1 v hv; omega)).mono ?_
          rintro e w' ⟨v, rfl, _, _, h⟩
          rw [p2]
          exact ⟨v, _, rfl, h⟩
        rw [p1] at HLT HLS
        obtain ⟨L, hL⟩ : ∃ x, x = kL i := ⟨_, rfl⟩
        obtain ⟨E, hEe⟩ : ∃ x, x = kE i := ⟨_, rfl⟩
        obtain ⟨F, hFe⟩ : ∃ x, x = kF i := ⟨_, rfl⟩
        obtain ⟨BT, hBT⟩ : ∃ x, x = if i < 5 then B2 else B3 := ⟨_, rfl⟩
        obtain ⟨ct, hct⟩ : ∃ x, x = if i < 5 then 1 else 4 := ⟨_, rfl⟩
        obtain ⟨nh, hnh⟩ : ∃ x, x = (kH i).length := ⟨_, rfl⟩
        obtain ⟨nt, hnt⟩ : ∃ x, x = (kT i).length := ⟨_, rfl⟩
        rw [← hL] at HLT HLS HCB g0
        rw [← hEe] at HLT HLS g3
        rw [← hFe] at HCB g4
        rw [← hBT] at HLT HLS HCB g2
        rw [← hct] at HLT HLS HCB g2
        rw [← hnh] at HLT HLS HCB g1
        rw [← hnt] at HLT HLS HCB g2
        have hgo : g < wo.heap.size := Nat.lt_of_lt_of_le hgl hB.out.size
        have hy := Blk.new wo #[.int .i64 L, .slice ha nh hc, .slice (some ⟨BT, 0, none⟩) nt ct, .int .i64 E, .int .i64 F] 53
        have hb1 := bl_alloc (Below.refl _ wo) (.cells #[.int .i64 L, .slice ha nh hc, .slice (some ⟨BT, 0, none⟩) nt ct, .int .i64 E, .int .i64 F] 53)
        clear p1 p2 p3 p4 p5 s1 s2 hrt hr eh hL hEe hFe hBT hct hnh hnt
        go_upto_region 7 with fail
        obtain ⟨wy, hwy⟩ : ∃ x, x = wo.alloc (.cells #[.int .i64 L, .slice ha nh hc, .slice (some ⟨BT, 0, none⟩) nt ct, .int .i64 E, .int .i64 F] 53) := ⟨_, rfl⟩
        obtain ⟨Y, hY⟩ : ∃ x, x = wo.heap.size := ⟨_, rfl⟩
        rw [← hY] at hy ⊢
        rw [← hwy] at hy hb1 ⊢
        have HY := Lib.hid hy
        have HBY := Lib.hid (bl_trans hB.out hb1)
        clear hwy hY hy hb1 g0 g1 g2 g3 g4 hgo hB
        have a0 : wy.cell? ⟨Y, 0, none⟩ = some (.int .i64 L) := HY.out.cell 0
        have a1 : wy.cell? ⟨Y, 1, none⟩ = some (.slice ha nh hc) := HY.out.cell 1
        have a2 : wy.cell? ⟨Y, 2, none⟩ = some (.slice (some ⟨BT, 0, none⟩) nt ct) := HY.out.cell 2
        have HL1 := Lib.hid (HLT.out wy HBY.out)
        go_wp2_with fail
        refine HL1.out.mono ?_
        rintro e wa ⟨rfl, hba⟩
        have HYA := Lib.hid (HY.out.below hba)
        have HBA := Lib.hid (bl_trans HBY.out hba)
        clear hba a0 a1 a2 HL1 HY HBY
        have a0 : wa.cell? ⟨Y, 0, none⟩ = some (.int .i64 L) := HYA.out.cell 0
        have a1 : wa.cell? ⟨Y, 1, none⟩ = some (.slice ha nh hc) := HYA.out.cell 1
        have a2 : wa.cell? ⟨Y, 2, none⟩ = some (.slice (some ⟨BT, 0, none⟩) nt ct) := HYA.out.cell 2
        have HL2 := Lib.hid (HLS.out wa HBA.out)
        go_wp2_with fail
        refine HL2.out.mono ?_
        rintro e wb ⟨vb, rfl, _, hbb⟩
        have HYB := Lib.hid (HYA.out.below hbb)
        have HBB := Lib.hid (bl_trans HBA.out hbb)
        clear hbb a0 a1 a2 HL2 HYA HBA
        have a0 : wb.cell? ⟨Y, 0, none⟩ = some (.int .i64 L) := HYB.out.cell 0
        have a1 : wb.cell? ⟨Y, 1, none⟩ = some (.slice ha nh hc) := HYB.out.cell 1
        have a2 : wb.cell? ⟨Y, 2, none⟩ = some (.slice (some ⟨BT, 0, none⟩) nt ct) := HYB.out.cell 2
        have HL3 := Lib.hid (HCB.out wb HBB.out)
        go_wp2_with fail
        refine HL3.out.mono ?_
        rintro e wc ⟨vc, mc, rfl, hbc⟩
        have HYC := Lib.hid (HYB.out.below hbc)
        have HBC := Lib.hid (bl_trans HBB.out hbc)
        clear hbc a0 a1 a2 HL3 HYB HBB
        have a3 : wc.cell? ⟨Y, 3, none⟩ = some (.int .i64 E) := HYC.out.cell 3
        have a4 : wc.cell? ⟨Y, 4, none⟩ = some (.int .i64 F) := HYC.out.cell 4
        go_wp2_with fail
        go_roundw
        case rel => exact ⟨i + 1, by omega, by go_num, HBC⟩
        case measure => simp [intOf]; omega
      · have HR2I := Lib.hid (HR2W.out.bl hB.out)
        have HR3I := Lib.hid (HR3W.out.bl hB.out)
        have HR1I := Lib.hid (HR1W.out.bl hB.out)
        have x0 := (hB.out.cell (p := ⟨X, 0, none⟩) hXW).trans hX0
        have x1 := (hB.out.cell (p := ⟨X, 1, none⟩) hXW).trans hX1
        have hXo : X < wo.heap.size := Nat.lt_of_lt_of_le hXW hB.out.size
        have HBI := Lib.hid (bl_trans HBW.out hB.out)
        obtain ⟨k1, k2, k3, k4, k5, k6, k7, k8, k9⟩ := k_three
        have HC1 := binary_any (some ⟨B3, 0, none⟩) 4 4 kThree wo rfl (by omega) HR3I.out (by decide)
        rw [k1, k2] at HC1
        have HC1 := Lib.hid HC1
        have HC2 := Lib.hid (fun (W' : World) (h : Below wo.heap.size wo W') => binary_any (some ⟨B2, 0, none⟩) 1 1 kLoop W' rfl (by omega) (HR2I.out.bl h) (by decide))
        rw [k3, k4] at HC2
        have HC3 := Lib.hid (fun (W' : World) (h : Below wo.heap.size wo W') => near_any (some ⟨B3, 0, none⟩) 4 4 kThree W' rfl (by omega) (HR3I.out.bl h) (by decide))
        rw [k5] at HC3
        have HC4 := Lib.hid (fun (W' : World) => near_any none 0 0 [] W' rfl (by omega) (Rd.nil _ _) (fun v h => absurd h (by omega)))
        rw [k6] at HC4
        have HC5 := Lib.hid (fun (W' : World) => trees_any 0 W' (by omega) (by omega))
        have HC6 := Lib.hid (fun (W' : World) => trees_any 6 W' (by omega) (by omega))
        have HB1 : Hid (∀ W' : World, Calls Tryd.prog 11 #[.agg #[.int .i64 6, .slice none 0 0]] W' fun e w' => ∃ (v : Value) (m : Int), e = .returned (.tuple #[v, .int .i64 m, .int .i64 3]) ∧ Below W'.heap.size W' w') := fun W' => by
          refine (best_any 6 none 0 0 [] W' (by omega) (by omega) rfl (by omega) (Rd.nil _ _) (fun i h => absurd h (by simp))).mono ?_
          rintro e w' ⟨v, rfl, _, _, h⟩
          rw [k7]
          exact ⟨v, _, rfl, h⟩
        have HB2 : Hid (∀ W' : World, Calls Tryd.prog 11 #[.agg #[.int .i64 0, .slice none 0 0]] W' fun e w' => ∃ (v : Value) (m : Int), e = .returned (.tuple #[v, .int .i64 m, .int .i64 3]) ∧ Below W'.heap.size W' w') := fun W' => by
          refine (best_any 0 none 0 0 [] W' (by omega) (by omega) rfl (by omega) (Rd.nil _ _) (fun i h => absurd h (by simp))).mono ?_
          rintro e w' ⟨v, rfl, _, _, h⟩
          rw [k8]
          exact ⟨v, _, rfl, h⟩
        have HB3 : Hid (∀ W' : World, Below wo.heap.size wo W' → Calls Tryd.prog 11 #[.agg #[.int .i64 3, .slice (some ⟨B1, 0, none⟩) 1 1]] W' fun e w' => ∃ (v : Value) (m : Int), e = .returned (.tuple #[v, .int .i64 m, .int .i64 2]) ∧ Below W'.heap.size W' w') := fun W' h => by
          refine (best_any 3 (some ⟨B1, 0, none⟩) 1 1 [8] W' (by omega) (by omega) rfl (by omega) (HR1I.out.bl h) (by unfold FitV; decide)).mono ?_
          rintro e w' ⟨v, rfl, _, _, h⟩
          rw [k9]
          exact ⟨v, _, rfl, h⟩
        have HF := Lib.hid four_any33
        have HWI := Lib.hid with_any
        have HN : Hid (∀ (W' : World) (A : Nat) (c : Nat), Rd W' (some ⟨A, 0, none⟩) (fl encNd exF) → Calls Tryd.prog 18 #[.slice (some ⟨A, 0, none⟩) 7 c] W' fun e w' => ∃ v rs, e = .returned (.tuple #[v, .int .i64 0]) ∧ TsW w' W'.heap.size v 4 (vT (nearT exF)) rs ∧ Below W'.heap.size W' w') := fun W' A c h => by
          have h1 := near_any (some ⟨A, 0, none⟩) 7 c exF W' rfl (by omega) h (fun v _ => szF v)
          rw [k_near.1, k_near.2.1] at h1
          exact h1
        have HCL : Hid (∀ (W' : World) (B D : Nat) (c : Nat), Rd W' (some ⟨B, 0, none⟩) (fl encV [5]) → Rd W' (some ⟨D, 0, none⟩) (fl encNd exF) → Calls Tryd.prog 21 #[.agg #[.int .i64 4, .slice (some ⟨B, 0, none⟩) 1 1], .slice (some ⟨D, 0, none⟩) 7 c] W' fun e w' => ∃ v : Value, e = .returned (.tuple #[v, .int .i64 2, .int .i64 0]) ∧ Below W'.heap.size W' w') := fun W' B D c hB hD => by
          refine (climb_any 4 (some ⟨B, 0, none⟩) 1 1 [5] (some ⟨D, 0, none⟩) 7 c exF W' rfl (by omega) hB (by unfold FitV; decide) rfl (by omega) hD (fun v _ => szF v)).mono ?_
          rintro e w' ⟨v, rfl, _, _, h⟩
          rw [k_climb.1, if_pos rfl, k_climb.2]
          exact ⟨v, rfl, h⟩
        clear k1 k2 k3 k4 k5 k6 k7 k8 k9 HR2W HR3W HR1W hX0 hX1 hXW HE hB HBW
        go_wp2_with fail
        refine HC1.out.mono ?_
        rintro e w1 ⟨rfl, hb⟩
        have A1 := Lib.hid hb
        have HD := Lib.hid (HC2.out w1 A1.out)
        clear hb HC1 HC2
        go_wp2_with fail
        refine HD.out.mono ?_
        rintro e w2 ⟨rfl, hb⟩
        have A2 := Lib.hid (bl_trans A1.out hb)
        have HD2 := Lib.hid (HC3.out w2 A2.out)
        clear hb HD A1 HC3
        go_wp2_with fail
        refine HD2.out.mono ?_
        rintro e w3 ⟨v3, _, rfl, _, hb⟩
        have A3 := Lib.hid (bl_trans A2.out hb)
        have HD3 := Lib.hid (HC4.out w3)
        clear hb HD2 A2 HC4
        go_wp2_with fail
        refine HD3.out.mono ?_
        rintro e w5 ⟨v5, _, rfl, _, hb⟩
        have A5 := Lib.hid (bl_trans A3.out hb)
        have HD5 := Lib.hid (HC5.out w5)
        clear hb HD3 A3 HC5
        go_wp2_with fail
        refine HD5.out.mono ?_
        rintro e w6 ⟨v6, _, rfl, _, hb⟩
        have t0 : trE 0 = 3 := by decide
        rw [t0]
        have A6 := Lib.hid (bl_trans A5.out hb)
        have HD6 := Lib.hid (HC6.out w6)
        clear hb HD5 A5 HC6 t0
        go_wp2_with fail
        refine HD6.out.mono ?_
        rintro e w7 ⟨v7, _, rfl, _, hb⟩
        have t0 : trE 6 = 3 := by decide
        rw [t0]
        have A7 := Lib.hid (bl_trans A6.out hb)
        have HD7 := Lib.hid (HB1.out w7)
        clear hb HD6 A6 HB1 t0
        go_wp2_with fail
        refine HD7.out.mono ?_
        rintro e w8 ⟨v8, m8, rfl, hb⟩
        have A8 := Lib.hid (bl_trans A7.out hb)
        have HD8 := Lib.hid (HB2.out w8)
        clear hb HD7 A7 HB2
        go_wp2_with fail
        refine HD8.out.mono ?_
        rintro e w9 ⟨v9, m9, rfl, hb⟩
        have A9 := Lib.hid (bl_trans A8.out hb)
        have HD9 := Lib.hid (HB3.out w9 A9.out)
        have y0 := (A9.out.cell (p := ⟨X, 0, none⟩) hXo).trans x0
        have y1 := (A9.out.cell (p := ⟨X, 1, none⟩) hXo).trans x1
        clear hb HD8 A8 HB3 x0 x1 hXo
        go_wp2_with fail
        refine HD9.out.mono ?_
        rintro e w10 ⟨v10, m10, rfl, hb⟩
        have A10 := Lib.hid (bl_trans A9.out hb)
        have HD10 := Lib.hid (HF.out w10)
        clear hb HD9 A9 y0 y1
        go_wp2_with fail
        refine HD10.out.mono ?_
        rintro e w11 ⟨g11, c11, rfl, hr, hc1, hc2, hb⟩
        have A11 := Lib.hid (bl_trans A10.out hb)
        have HD11 := Lib.hid (HN.out w11 g11 c11 hr)
        clear hb HD10 A10 hr HN
        go_wp2_with fail
        refine HD11.out.mono ?_
        rintro e w12 ⟨v12, rs12, rfl, hts, hb⟩
        obtain ⟨A12', c12, rfl, _⟩ := owns_slice hts.rows
        have HTS := Lib.hid hts
        have A12 := Lib.hid (bl_trans A11.out hb)
        have hr5 := rd1 w12 5
        have hb5 := bl_alloc (Below.refl _ w12) (.cells #[.int .u64 5] 52)
        have HD12 := Lib.hid (HWI.out (some ⟨w12.heap.size, 0, none⟩) 1 1 (w12.alloc (.cells #[.int .u64 5] 52)))
        clear hb HD11 A11 hts hc1 hc2
        go_wp2_with fail
        refine HD12.out.mono ?_
        rintro e w13 ⟨rfl, hb⟩
        have HR5 := Lib.hid (hr5.bl hb)
        have hb13 := bl_trans hb5 hb
        have HTS13 := Lib.hid (HTS.out.bl hb13)
        have A13 := Lib.hid (bl_trans A12.out hb13)
        have HD13 := Lib.hid (HF.out w13)
        obtain ⟨D5, hD5⟩ : ∃ x, x = w12.heap.size := ⟨_, rfl⟩
        rw [← hD5] at HR5 ⊢
        clear hb hr5 hb5 hb13 HD12 A12 HTS hD5
        go_wp2_with fail
        refine HD13.out.mono ?_
        rintro e w14 ⟨g14, c14, rfl, hr, hc1, hc2, hb⟩
        have HTS14 := Lib.hid (HTS13.out.bl hb)
        have A14 := Lib.hid (bl_trans A13.out hb)
        have HD14 := Lib.hid (HCL.out w14 D5 g14 c14 (HR5.out.bl hb) hr)
        clear hb HD13 A13 hr HCL HTS13 HR5 HF HWI
        go_wp2_with fail
        refine HD14.out.mono ?_
        rintro e w15 ⟨v15, rfl, hb⟩
        have HTS15 := Lib.hid (HTS14.out.bl hb)
        have A15 := Lib.hid (bl_trans A14.out hb)
        clear hb HD14 A14 HTS14
        obtain ⟨gC, capC, eC, _, hgC, hcell⟩ := HTS15.out.cell (by omega)
        injection eC with eC _ eCc
        subst eC
        subst eCc
        have Gz := hcell 0 (by omega)
        obtain ⟨za, zc, hrs, hrd⟩ := HTS15.out.rd (i := 0) (by omega)
        rw [k_near.2.2] at hrs hrd
        rw [hrs] at Gz
        replace Gz : w15.cell? ⟨gC, 0, none⟩ = some (.slice za 7 zc) := Gz
        have HRD := Lib.hid hrd
        have HNX : Hid (∀ W' : World, Below w15.heap.size w15 W' → Calls Tryd.prog 26 #[.int .i64 3, .slice (some ⟨W'.heap.size, 0, none⟩) 7 7] (W'.alloc (.cells (fl encI [-1, 0, 1, 0, 1, 2, 2]).toArray 3)) fun e w' => ∃ g c, e = .returned (.slice (some ⟨g, 0, none⟩) 7 c) ∧ Rd w' (some ⟨g, 0, none⟩) (fl encNd (ndL 3 [-1, 0, 1, 0, 1, 2, 2])) ∧ Below w15.heap.size w15 w') := fun W' h => by
          refine (nodes_at 3 [-1, 0, 1, 0, 1, 2, 2] W'.heap.size 7 _ (by omega) rfl (by omega) (by omega) (Blk.new _ _ _)).mono ?_
          rintro e w' ⟨g, c, rfl, ho, _, _, hb⟩
          exact ⟨g, c, rfl, rd_of_owns ho, bl_trans (bl_trans h (bl_alloc (Below.refl _ W') _)) hb⟩
        have HSM : Hid (∀ (W' : World) (g c : Nat), Below w15.heap.size w15 W' → Rd W' (some ⟨g, 0, none⟩) (fl encNd (ndL 3 [-1, 0, 1, 0, 1, 2, 2])) → Calls Tryd.prog 15 #[.slice za 7 zc, .slice (some ⟨g, 0, none⟩) 7 c] W' fun e w' => e = .returned (.bool true) ∧ Below w15.heap.size w15 w') := fun W' g c h hr => by
          refine (same_same za (some ⟨g, 0, none⟩) 7 7 zc c _ W' rfl rfl (by omega) (by omega) (HRD.out.bl h) hr).mono ?_
          rintro e w' ⟨rfl, n, rfl⟩
          exact ⟨rfl, bl_drewN h n⟩
        clear hcell hrs hrd
        go_wp2_with fail
        simp only [List.append_eq, List.cons_append, List.nil_append]
        go_region_held3 (fun w' => w'.cell? ⟨gC, 0, none⟩ = some (.slice za 7 zc)) (go_keep) (first
          | (go_at_call 26; refine (HNX.out (w15.drewN 1) (bl_drewN (Below.refl _ _) 1)).mono ?_; rintro e wn ⟨gn, cn, rfl, hrn, hbn⟩; have j1 : wn.cell? ⟨gC, 0, none⟩ = some (.slice za 7 zc) := (hbn.cell (p := ⟨gC, 0, none⟩) hgC).trans Gz; have HRN := Lib.hid hrn; have HBN := Lib.hid hbn; clear hrn hbn)
          | (go_at_call 15; refine (HSM.out _ _ _ HBN.out HRN.out).mono ?_; rintro e wm ⟨rfl, hbm⟩; have j2 : wm.cell? ⟨gC, 0, none⟩ = some (.slice za 7 zc) := (hbm.cell (p := ⟨gC, 0, none⟩) hgC).trans Gz; have HBM := Lib.hid hbm; clear hbm)
          | (go_at_call 16; refine (HW.out _).mono ?_; rintro e wv ⟨rfl, hbv⟩; have HBV := Lib.hid (bl_trans HBM.out hbv); have j3 : wv.cell? ⟨gC, 0, none⟩ = some (.slice za 7 zc) := (HBV.out.cell (p := ⟨gC, 0, none⟩) hgC).trans Gz; clear hbv))
        have HZ := Lib.hid (bl_trans HBI.out (bl_trans A15.out HBV.out))
        clear j1 j2 j3 Gz
        go_wp2_with fail
        go_ret
        exact ⟨rfl, HZ.out⟩
end Go.Proofs.YtjmnakkkimgifaaDoor
