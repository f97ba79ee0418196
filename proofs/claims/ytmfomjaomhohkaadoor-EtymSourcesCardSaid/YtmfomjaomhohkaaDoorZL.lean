/- EtymSources: the plain part. EtymSources: what lies in memory. EtymSources: the walk. -/
import Derived.Test.YtmfomjaomhohkaaDoorZJ
import Derived.Deep.CutRange
namespace Go.Proofs.YtmfomjaomhohkaaDoor
open Go Go.RowKit Go.Shelf
/-- No link up to i leads to a. -/
def nfP (ls : List Lk) (a i : Nat) : Bool := (List.range i).all fun j => !decide (lT ls j = (a : Int))
theorem nfP_succ (ls : List Lk) (a i : Nat) : nfP ls a (i + 1) = (nfP ls a i && !decide (lT ls i = (a : Int))) := by
  unfold nfP
  rw [List.range_succ, List.all_append]; simp
theorem nfP_full (ls : List Lk) (a : Nat) : nfP ls a ls.length = noFr ls a := by
  rw [Bool.eq_iff_iff]
  unfold nfP noFr
  rw [List.all_eq_true, decide_eq_true_iff, List.length_eq_zero_iff]
  constructor
  · intro h
    rw [List.eq_nil_iff_forall_not_mem]
    intro j hj
    obtain ⟨h1, h2⟩ := frK_mem.1 hj
    have := h j (List.mem_range.2 h1)
    rw [decide_eq_true h2] at this
    cases this
  · intro h j hj
    rw [List.mem_range] at hj
    rw [decide_eq_false fun e => by
      have : j ∈ frK ls a := frK_mem.2 ⟨hj, e⟩
      rw [h] at this; cases this]
    rfl
/-- The sources below a. -/
def swL (ls : List Lk) (S k a : Nat) : List Nat := (List.range a).filter fun b => noFr ls b && decide (b ∈ abL ls S k)
theorem swL_succ (ls : List Lk) (S k a : Nat) : swL ls S k (a + 1) = swL ls S k a ++ if (noFr ls a && decide (a ∈ abL ls S k)) = true then [a] else [] := by
  unfold swL
  rw [List.range_succ, List.filter_append]
  congr 1
  by_cases h : (noFr ls a && decide (a ∈ abL ls S k)) = true
  · rw [if_pos h, List.filter_cons_of_pos (by simpa using h)]; rfl
  · rw [if_neg h, List.filter_cons_of_neg (by simpa using h)]; rfl
theorem swL_len (ls : List Lk) (S k a : Nat) : (swL ls S k a).length ≤ a := by
  unfold swL
  have := List.length_filter_le (fun b => noFr ls b && decide (b ∈ abL ls S k)) (List.range a)
  rwa [List.length_range] at this
theorem swL_full {ls : List Lk} {S k : Nat} (hA : Asc ls S) (hk : k < S) : swL ls S k (k + 1) = srcL ls S k := by
  have h : ∀ j, swL ls S k (k + 1 + j) = swL ls S k (k + 1) := by
    intro j
    induction j with
    | zero => rfl
    | succ j ih => rw [show k + 1 + (j + 1) = k + 1 + j + 1 by omega, swL_succ, ih, frP_high hA hk (by omega), Bool.and_false]; simp
  have h2 := h (S - (k + 1))
  rw [show k + 1 + (S - (k + 1)) = S by omega] at h2
  rw [← h2]
  unfold swL srcL
  refine List.filter_congr fun b _ => ?_
  rw [Bool.and_comm]
theorem srcL_mem {ls : List Lk} {S k a : Nat} (hA : Asc ls S) (hk : k < S) : a ∈ srcL ls S k ↔ Up ls a k ∧ noFr ls a = true := by
  unfold srcL
  rw [List.mem_filter, List.mem_range, Bool.and_eq_true, decide_eq_true_iff, ab_iff hA.lkin hk]
  exact ⟨fun h => h.2, fun h => ⟨by have := hA.up h.1; omega, h⟩⟩
theorem srcL_ne {ls : List Lk} {S : Nat} (hA : Asc ls S) : ∀ k, k < S → ∃ a, a ∈ srcL ls S k := by
  intro k
  induction k using Nat.strongRecOn with
  | ind k ih =>
    intro hk
    by_cases h : noFr ls k = true
    · exact ⟨k, (srcL_mem hA hk).2 ⟨.refl k, h⟩⟩
    · unfold noFr at h
      rw [decide_eq_true_iff, List.length_eq_zero_iff] at h
      obtain ⟨j, hj⟩ := List.exists_mem_of_ne_nil _ h
      obtain ⟨h1, h2⟩ := frK_mem.1 hj
      obtain ⟨p, q, g1, g2, g3, g4⟩ := hA.at h1
      have hu : p ∈ upL ls k := upL_mem.2 ⟨j, h1, h2, by rw [g1]; rfl⟩
      have hp := hA.up_lt hu
      obtain ⟨a, ha⟩ := ih p hp (by omega)
      obtain ⟨a1, a2⟩ := (srcL_mem hA (by omega)).1 ha
      exact ⟨a, (srcL_mem hA hk).2 ⟨a1.trans (.step hu (.refl k)), a2⟩⟩
theorem kin_up {ls : List Lk} {S i k : Nat} (hA : Asc ls S) (hi : i < S) (hk : k < S) (h : i ∈ abL ls S k) : kinB ls S i k = true := by
  obtain ⟨a, ha⟩ := srcL_ne hA i hi
  obtain ⟨a1, a2⟩ := (srcL_mem hA hi).1 ha
  have h2 := (srcL_mem hA hk).2 ⟨a1.trans ((ab_iff hA.lkin hk).1 h), a2⟩
  unfold kinB cmnI
  rw [List.any_eq_true]
  exact ⟨(a : Int), List.mem_map.2 ⟨a, ha, rfl⟩, decide_eq_true (List.mem_map.2 ⟨a, h2, rfl⟩)⟩
/-- Words of one language that are kin: pairs with the first one below i, and with i those below k. -/
def prK (K : Nat → Nat → Bool) (c a k : Nat) : List (Nat × Nat) := ((List.range k).filter fun b => K a b && decide (a < b) && decide (a % 2 = b % 2) && decide (a % 2 = c)).map fun b => (a, b)
def prO (K : Nat → Nat → Bool) (c S i : Nat) : List (Nat × Nat) := (List.range i).flatMap fun a => prK K c a S
theorem prK_succ (K : Nat → Nat → Bool) (c a k : Nat) : prK K c a (k + 1) = prK K c a k ++ if (K a k && decide (a < k) && decide (a % 2 = k % 2) && decide (a % 2 = c)) = true then [(a, k)] else [] := by
  unfold prK
  rw [List.range_succ, List.filter_append, List.map_append]
  congr 1
  by_cases h : (K a k && decide (a < k) && decide (a % 2 = k % 2) && decide (a % 2 = c)) = true
  · rw [if_pos h]; simp only [List.filter_cons, h, List.filter_nil, if_true, List.map_cons, List.map_nil]
  · rw [if_neg h]; simp only [List.filter_cons, h, List.filter_nil]; rfl
theorem prO_succ (K : Nat → Nat → Bool) (c S i : Nat) : prO K c S (i + 1) = prO K c S i ++ prK K c i S := by
  unfold prO
  rw [List.range_succ, List.flatMap_append]; simp
theorem prK_len (K : Nat → Nat → Bool) (c a k : Nat) : (prK K c a k).length ≤ k := by
  unfold prK
  rw [List.length_map]
  have := List.length_filter_le (fun b => K a b && decide (a < b) && decide (a % 2 = b % 2) && decide (a % 2 = c)) (List.range k)
  rwa [List.length_range] at this
theorem prO_len (K : Nat → Nat → Bool) (c S : Nat) : ∀ i, (prO K c S i).length ≤ i * S
  | 0 => by simp [prO]
  | i + 1 => by
    have h1 := prO_len K c S i
    have h2 := prK_len K c i S
    rw [prO_succ, List.length_append, Nat.succ_mul]; omega
theorem map_range_getD (l : List Nat) : (List.range l.length).map (fun k => l.getD k 0) = l := by
  refine List.ext_getElem? fun i => ?_
  rw [List.getElem?_map]
  by_cases h : i < l.length
  · rw [List.getElem?_eq_getElem (by simpa using h), List.getElem?_eq_getElem h]
    simp [List.getD_eq_getElem?_getD, h]
  · rw [List.getElem?_eq_none (by simpa using h), List.getElem?_eq_none (by omega)]; rfl
/-- Pairs by the places in a list that increases, and by the words themselves. -/
theorem db_ids (ls : List Lk) (N : Nat) (ids : List Nat) (hp : ids.Pairwise (· < ·)) : dbO ls N ids ids.length = ids.flatMap fun a => (ids.filter fun b => kinB ls N a b && decide (a < b)).map fun b => (a, b) := by
  have h1 : ∀ i, i < ids.length → dbI ls N ids i ids.length = (ids.filter fun b => kinB ls N (ids.getD i 0) b && decide (ids.getD i 0 < b)).map fun b => (ids.getD i 0, b) := by
    intro i hi
    unfold dbI
    have e : ∀ k ∈ List.range ids.length, (decide (i < k) && kinB ls N (ids.getD i 0) (ids.getD k 0)) = ((fun b => kinB ls N (ids.getD i 0) b && decide (ids.getD i 0 < b)) ∘ fun k => ids.getD k 0) k := by
      intro k hk
      rw [List.mem_range] at hk
      show _ = (kinB ls N (ids.getD i 0) (ids.getD k 0) && decide (ids.getD i 0 < ids.getD k 0))
      rw [Bool.and_comm]
      congr 1
      have ei : ids.getD i 0 = ids[i] := by rw [List.getD_eq_getElem?_getD, List.getElem?_eq_getElem hi]; rfl
      have ek : ids.getD k 0 = ids[k] := by rw [List.getD_eq_getElem?_getD, List.getElem?_eq_getElem hk]; rfl
      rw [ei, ek]
      by_cases q : i < k
      · rw [decide_eq_true q, decide_eq_true (List.pairwise_iff_getElem.1 hp i k hi hk q)]
      · rw [decide_eq_false q]
        refine (decide_eq_false fun r => ?_).symm
        rcases Nat.lt_or_ge k i with g | g
        · have := List.pairwise_iff_getElem.1 hp k i hk hi g
          omega
        · have : k = i := by omega
          subst this; omega
    rw [List.filter_congr e]
    have h2 := List.filter_map (f := fun k => ids.getD k 0) (p := fun b => kinB ls N (ids.getD i 0) b && decide (ids.getD i 0 < b)) (l := List.range ids.length)
    rw [map_range_getD] at h2
    rw [h2, List.map_map]
    rfl
  unfold dbO
  have h3 : (List.range ids.length).flatMap (fun i => dbI ls N ids i ids.length) = ((List.range ids.length).map fun i => ids.getD i 0).flatMap fun a => (ids.filter fun b => kinB ls N a b && decide (a < b)).map fun b => (a, b) := by
    rw [List.flatMap_map]
    have : ∀ l : List Nat, (∀ i ∈ l, i < ids.length) → l.flatMap (fun i => dbI ls N ids i ids.length) = l.flatMap fun i => (ids.filter fun b => kinB ls N (ids.getD i 0) b && decide (ids.getD i 0 < b)).map fun b => (ids.getD i 0, b) := by
      intro l
      induction l with
      | nil => intro _; rfl
      | cons a l ih => intro h; rw [List.flatMap_cons, List.flatMap_cons, ih fun i hi => h i (List.mem_cons_of_mem _ hi), h1 a (h a (by simp))]
    exact this _ fun i hi => List.mem_range.1 hi
  rw [h3, map_range_getD]
theorem flat_filter {β : Type} (p : Nat → Bool) (F : Nat → List β) : ∀ l : List Nat, (l.filter p).flatMap F = l.flatMap fun a => if p a = true then F a else []
  | [] => rfl
  | a :: l => by
    rw [List.flatMap_cons, ← flat_filter p F l]
    by_cases h : p a = true
    · rw [List.filter_cons_of_pos h, if_pos h, List.flatMap_cons]
    · rw [List.filter_cons_of_neg h, if_neg h]; rfl
def parL (c : Nat) : ByteArray := if c = 0 then nWest else nEast
theorem own_par (S c : Nat) (hc : c < 2) : ownL (grE S) (parL c) S = (List.range S).filter fun i => decide (i % 2 = c) := by
  unfold ownL
  refine List.filter_congr fun i hi => ?_
  rw [List.mem_range] at hi
  have e : (grE S).getD i etD = grW i := by
    unfold grE
    rw [List.getD_eq_getElem?_getD]
    simp [hi]
  rw [e]
  unfold grW parL
  have h01 : nWest ≠ nEast := by decide
  have h2 := Nat.mod_lt i (show 0 < 2 by omega)
  by_cases h : i % 2 = 0
  · rw [if_pos h]
    by_cases g : c = 0
    · rw [if_pos g, decide_eq_true (show (nWest, [(i, 0)]).1 = nWest from rfl), decide_eq_true (by omega)]
    · rw [if_neg g, decide_eq_false (show ¬ (nWest, [(i, 0)]).1 = nEast from h01), decide_eq_false (by omega)]
  · rw [if_neg h]
    by_cases g : c = 0
    · rw [if_pos g, decide_eq_false (show ¬ (nEast, [(i, 0)]).1 = nWest from fun e => h01 e.symm), decide_eq_false (by omega)]
    · rw [if_neg g, decide_eq_true (show (nEast, [(i, 0)]).1 = nEast from rfl), decide_eq_true (by omega)]
theorem dbl_par (ls : List Lk) (S c : Nat) (hc : c < 2) : dblL (grE S) ls (parL c) = prO (kinB ls S) c S S := by
  unfold dblL
  rw [grE_len, own_par S c hc]
  have hp : ((List.range S).filter fun i => decide (i % 2 = c)).Pairwise (· < ·) := List.pairwise_lt_range.filter _
  rw [db_ids _ _ _ hp, flat_filter]
  unfold prO
  congr 1
  funext a
  unfold prK
  by_cases h : a % 2 = c
  · rw [if_pos (decide_eq_true h), List.filter_filter]
    congr 1
    refine List.filter_congr fun b _ => ?_
    rw [decide_eq_true h, Bool.and_true]
    congr 1
    rw [h]
    exact decide_eq_decide.2 eq_comm
  · rw [if_neg (by simpa using h)]
    rw [decide_eq_false h]
    simp
theorem own_north (S : Nat) (ls : List Lk) : dblL (grE S) ls { data := #[110, 111, 114, 116, 104] } = [] := by
  have h : ownL (grE S) { data := #[110, 111, 114, 116, 104] } S = [] := by
    unfold ownL
    rw [List.filter_eq_nil_iff]
    intro i hi
    rw [List.mem_range] at hi
    have e : (grE S).getD i etD = grW i := by
      unfold grE
      rw [List.getD_eq_getElem?_getD]
      simp [hi]
    rw [e, decide_eq_true_iff]
    unfold grW
    have h1 : nWest ≠ { data := #[110, 111, 114, 116, 104] } := by decide
    have h2 : nEast ≠ { data := #[110, 111, 114, 116, 104] } := by decide
    split
    · exact h1
    · exact h2
  unfold dblL
  rw [grE_len, h]
  rfl
end Go.Proofs.YtmfomjaomhohkaaDoor
namespace Go.Proofs.YtmfomjaomhohkaaDoor
open Go Go.RowKit Go.Shelf
def srcI (ls : List Lk) (S i : Nat) : List Int := (srcL ls S i).map Int.ofNat
theorem srcI_len (ls : List Lk) (S i : Nat) : (srcI ls S i).length = (srcL ls S i).length := by unfold srcI; simp
/-- The first k lists of sources. -/
structure SrW (w W : World) (ls : List Lk) (S k : Nat) (v : Value) (rs : List Rw) : Prop where
  own : W.ownsRow w.heap.size 31 1 v k (fl encR rs)
  len : rs.length = k
  row : ∀ i, i < k → (rs.getD i rwD).2.1 = (srcL ls S i).length ∧ W.ownsRow w.heap.size 3 1 (slR (rs.getD i rwD)) (srcL ls S i).length (fl encI (srcI ls S i))
  bl : Below w.heap.size w W
theorem SrW.nil (w : World) (ls : List Lk) (S : Nat) : SrW w w ls S 0 (.slice none 0 0) [] := ⟨World.ownsRow_nil _ _ _ _, rfl, fun _ h => absurd h (Nat.not_lt_zero _), Below.refl _ _⟩
theorem SrW.below {w W W' : World} {ls : List Lk} {S k : Nat} {v : Value} {rs : List Rw} (h : SrW w W ls S k v rs) (hb : Below W.heap.size W W') : SrW w W' ls S k v rs := ⟨owns_below h.own hb, h.len, fun i hi => ⟨(h.row i hi).1, owns_below (h.row i hi).2 hb⟩, bl_trans h.bl hb⟩
theorem SrW.push {w W W1 W2 : World} {ls : List Lk} {S k : Nat} {v v' : Value} {rs : List Rw} {A : Option Addr} {d : Nat} (h : SrW w W ls S k v rs) (hb : Below W.heap.size W W1) (hD : W1.ownsRow w.heap.size 3 1 (.slice A (srcL ls S k).length d) (srcL ls S k).length (fl encI (srcI ls S k)))
    (h1 : W2.ownsRow w.heap.size 31 1 v' (k + 1) (fl encR (rs ++ [(A, (srcL ls S k).length, d)]))) (h2 : W1.grownBy W2 v.ownBlock) : SrW w W2 ls S (k + 1) v' (rs ++ [(A, (srcL ls S k).length, d)]) := by
  have h' := h.below hb
  have hkp : ∀ {x : Value} {m : Nat} {xs : List Value}, W1.ownsRow w.heap.size 3 1 x m xs → W2.ownsRow w.heap.size 3 1 x m xs := fun {x m xs} hv => by
    refine hv.kept h2 ?_
    exact owns_neQ hv h'.own (by decide)
  refine ⟨h1, by rw [List.length_append, h.len]; rfl, fun i hi => ?_, bl_grown h'.bl h2 fun r e => (h'.own.lt r e).1⟩
  rw [getD_snoc, h.len]
  by_cases q : i < k
  · rw [if_pos q]
    exact ⟨(h'.row i q).1, hkp (h'.row i q).2⟩
  · have e : i = k := by omega
    rw [if_neg q, if_pos e, e]
    exact ⟨rfl, hkp hD⟩
theorem SrW.cell {w W : World} {ls : List Lk} {S k : Nat} {v : Value} {rs : List Rw} (h : SrW w W ls S k v rs) (hk : 0 < k) : ∃ g c, v = .slice (some ⟨g, 0, none⟩) k c ∧ g < W.heap.size ∧ ∀ i, i < k → ∃ A d, W.cell? ⟨g, i, none⟩ = some (.slice A (srcL ls S i).length d) ∧ Rd W A (fl encI (srcI ls S i)) := by
  obtain ⟨a, cap, rfl, h1⟩ := owns_slice h.own
  obtain ⟨b, o, e, _, hc⟩ := rdR (rd_of_owns h.own) (by rw [h.len]; omega)
  rcases h1 with h1 | ⟨g, hg, hg2, e2⟩
  · omega
  · rw [e2] at e
    simp only [Option.some.injEq, Addr.mk.injEq, and_true] at e
    obtain ⟨rfl, rfl⟩ := e
    refine ⟨g, cap, by rw [e2], hg2, fun i hi => ?_⟩
    obtain ⟨r1, r2⟩ := h.row i hi
    have hci := hc i (by rw [h.len]; exact hi)
    obtain ⟨x, hx⟩ : ∃ x, x = rs.getD i rwD := ⟨_, rfl⟩
    have e3 : rs.getD i (none, 0, 0) = x := hx.symm
    rw [← hx] at r1 r2
    unfold rA rN rC at hci
    rw [e3] at hci
    obtain ⟨A, m, d⟩ := x
    have r1 : m = (srcL ls S i).length := r1
    subst r1
    rw [Nat.zero_add] at hci
    exact ⟨A, d, hci, rd_of_owns r2⟩
/-- The pairs of the two languages. -/
def prL (ls : List Lk) (S c i k : Nat) : List (Nat × Nat) := prO (kinB ls S) c S i ++ prK (kinB ls S) c i k
theorem prL_len (ls : List Lk) (S c i k : Nat) : (prL ls S c i k).length ≤ i * S + k := by
  unfold prL
  rw [List.length_append]
  have h1 := prO_len (kinB ls S) c S i
  have h2 := prK_len (kinB ls S) c i k
  omega
theorem prL_succ (ls : List Lk) (S c i k : Nat) : prL ls S c i (k + 1) = prL ls S c i k ++ if (kinB ls S i k && decide (i < k) && decide (i % 2 = k % 2) && decide (i % 2 = c)) = true then [(i, k)] else [] := by
  unfold prL
  rw [prK_succ, List.append_assoc]
theorem prL_next (ls : List Lk) (S c i : Nat) : prL ls S c (i + 1) 0 = prL ls S c i S := by
  unfold prL
  rw [prO_succ]
  simp [prK]
structure PrW (wb W : World) (P : Nat) (ls : List Lk) (S i k : Nat) (r0 r1 : Rw) : Prop where
  blk : Blk W P #[slR r0, slR r1] 40
  n0 : r0.2.1 = (prL ls S 0 i k).length
  n1 : r1.2.1 = (prL ls S 1 i k).length
  o0 : W.ownsRow wb.heap.size 43 2 (slR r0) (prL ls S 0 i k).length (fl encP (prL ls S 0 i k))
  o1 : W.ownsRow wb.heap.size 43 2 (slR r1) (prL ls S 1 i k).length (fl encP (prL ls S 1 i k))
  dis : (slR r0).ownBlock = none ∨ (slR r0).ownBlock ≠ (slR r1).ownBlock
  hP : wb.heap.size ≤ P
  bl : Below wb.heap.size wb W
theorem PrW.below {wb W W' : World} {P : Nat} {ls : List Lk} {S i k : Nat} {r0 r1 : Rw} (h : PrW wb W P ls S i k r0 r1) (hb : Below W.heap.size W W') : PrW wb W' P ls S i k r0 r1 := ⟨h.blk.below hb, h.n0, h.n1, owns_below h.o0 hb, owns_below h.o1 hb, h.dis, h.hP, bl_trans h.bl hb⟩
theorem PrW.same {wb W : World} {P : Nat} {ls : List Lk} {S i k i' k' : Nat} {r0 r1 : Rw} (h : PrW wb W P ls S i k r0 r1) (e0 : prL ls S 0 i' k' = prL ls S 0 i k) (e1 : prL ls S 1 i' k' = prL ls S 1 i k) : PrW wb W P ls S i' k' r0 r1 := ⟨h.blk, by rw [e0]; exact h.n0, by rw [e1]; exact h.n1, by rw [e0]; exact h.o0, by rw [e1]; exact h.o1, h.dis, h.hP, h.bl⟩
theorem own_ne_blkS {W : World} {base e k n B : Nat} {v : Value} {xs : List Value} {cs : Array Value} {t : TypeId} (hv : W.ownsRow base e k v n xs) (hB : Blk W B cs t) (he : t ≠ e) : v.ownBlock ≠ some B := fun e' => by
  have h1 := own_kind hv e'
  rw [hB.kind] at h1
  exact he (by simpa using h1)
theorem grown_setQ (W : World) (b o : Nat) (v : Value) : W.grownBy (W.setCell ⟨b, o, none⟩ v) (some b) :=
  ⟨rfl, rfl, rfl, by simp, fun k _ hk => heap_setCell_other W ⟨b, o, none⟩ k v fun e => hk (by have e' : k = b := e; rw [e'])⟩
theorem PrW.kb0 {wb W W2 : World} {P : Nat} {ls : List Lk} {S i k : Nat} {r0 r1 : Rw} (h : PrW wb W P ls S i k r0 r1) (h2 : W.grownBy W2 (slR r0).ownBlock) : Blk W2 P #[slR r0, slR r1] 40 := h.blk.grown h2 fun e => own_ne_blkS h.o0 h.blk (by decide) e.symm
theorem PrW.kb1 {wb W W2 : World} {P : Nat} {ls : List Lk} {S i k : Nat} {r0 r1 : Rw} (h : PrW wb W P ls S i k r0 r1) (h2 : W.grownBy W2 (slR r1).ownBlock) : Blk W2 P #[slR r0, slR r1] 40 := h.blk.grown h2 fun e => own_ne_blkS h.o1 h.blk (by decide) e.symm
/-- A pair more in the first list. -/
theorem PrW.put0 {wb W W2 : World} {P : Nat} {ls : List Lk} {S i k : Nat} {r0 r1 r0' : Rw} (h : PrW wb W P ls S i k r0 r1) (e0 : prL ls S 0 i (k + 1) = prL ls S 0 i k ++ [(i, k)]) (e1 : prL ls S 1 i (k + 1) = prL ls S 1 i k) (hn : r0'.2.1 = (prL ls S 0 i k).length + 1)
    (h1 : W2.ownsRow wb.heap.size 43 2 (slR r0') ((prL ls S 0 i k).length + 1) (fl encP (prL ls S 0 i k ++ [(i, k)]))) (h2 : W.grownBy W2 (slR r0).ownBlock) (h3 : (slR r0').ownBlock = (slR r0).ownBlock ∨ (slR r0').ownBlock = some W.heap.size) :
    PrW wb (W2.setCell ⟨P, 0, none⟩ (slR r0')) P ls S i (k + 1) r0' r1 := by
  have hk0 := own_ne_blkS h.o0 h.blk (by decide)
  have hB2 : Blk W2 P #[slR r0, slR r1] 40 := h.blk.grown h2 fun e => hk0 e.symm
  have ho1 : W2.ownsRow wb.heap.size 43 2 (slR r1) (prL ls S 1 i k).length (fl encP (prL ls S 1 i k)) := h.o1.kept h2 (by
    rcases h.dis with q | q
    · cases e : (slR r1).ownBlock with
      | none => exact .inl rfl
      | some b => exact .inr (by rw [q]; exact fun e => by cases e)
    · exact .inr fun e => q e.symm)
  have g := grown_setQ W2 P 0 (slR r0')
  refine ⟨hB2.set 0 (slR r0'), ?_, ?_, ?_, ?_, ?_, h.hP, bl_set (bl_grown h.bl h2 fun r e => (h.o0.lt r e).1) P 0 none _ h.hP⟩
  · rw [e0, List.length_append]; exact hn
  · rw [e1]; exact h.n1
  · rw [e0, List.length_append]
    exact h1.kept g (.inr fun e => own_ne_blkS h1 hB2 (by decide) e)
  · rw [e1]
    exact ho1.kept g (.inr fun e => own_ne_blkS ho1 hB2 (by decide) e)
  · rcases h3 with q | q
    · rw [q]; exact h.dis
    · refine .inr fun e => ?_
      rw [q] at e
      have := (h.o1.lt _ e.symm).2
      omega
/-- A pair more in the second list. -/
theorem PrW.put1 {wb W W2 : World} {P : Nat} {ls : List Lk} {S i k : Nat} {r0 r1 r1' : Rw} (h : PrW wb W P ls S i k r0 r1) (e0 : prL ls S 0 i (k + 1) = prL ls S 0 i k) (e1 : prL ls S 1 i (k + 1) = prL ls S 1 i k ++ [(i, k)]) (hn : r1'.2.1 = (prL ls S 1 i k).length + 1)
    (h1 : W2.ownsRow wb.heap.size 43 2 (slR r1') ((prL ls S 1 i k).length + 1) (fl encP (prL ls S 1 i k ++ [(i, k)]))) (h2 : W.grownBy W2 (slR r1).ownBlock) (h3 : (slR r1').ownBlock = (slR r1).ownBlock ∨ (slR r1').ownBlock = some W.heap.size) :
    PrW wb (W2.setCell ⟨P, 1, none⟩ (slR r1')) P ls S i (k + 1) r0 r1' := by
  have hk0 := own_ne_blkS h.o1 h.blk (by decide)
  have hB2 : Blk W2 P #[slR r0, slR r1] 40 := h.blk.grown h2 fun e => hk0 e.symm
  have ho1 : W2.ownsRow wb.heap.size 43 2 (slR r0) (prL ls S 0 i k).length (fl encP (prL ls S 0 i k)) := h.o0.kept h2 h.dis
  have g := grown_setQ W2 P 1 (slR r1')
  refine ⟨hB2.set 1 (slR r1'), ?_, ?_, ?_, ?_, ?_, h.hP, bl_set (bl_grown h.bl h2 fun r e => (h.o1.lt r e).1) P 1 none _ h.hP⟩
  · rw [e0]; exact h.n0
  · rw [e1, List.length_append]; exact hn
  · rw [e0]
    exact ho1.kept g (.inr fun e => own_ne_blkS ho1 hB2 (by decide) e)
  · rw [e1, List.length_append]
    exact h1.kept g (.inr fun e => own_ne_blkS h1 hB2 (by decide) e)
  · rcases h3 with q | q
    · rw [q]; exact h.dis
    · rcases h.dis with d | d
      · exact .inl d
      · refine .inr fun e => ?_
        rw [q] at e
        have := (h.o0.lt _ e).2
        omega
end Go.Proofs.YtmfomjaomhohkaaDoor
namespace Go.Proofs.YtmfomjaomhohkaaDoor
open Go Go.RowKit Go.Shelf
/-- What the first p words of a list have in common with another one. -/
def cmP (l m : List Int) (p : Nat) : Bool := (l.take p).any fun x => decide (x ∈ m)
theorem cmP_succ (l m : List Int) {p : Nat} (h : p < l.length) : cmP l m (p + 1) = (cmP l m p || decide (l.getD p 0 ∈ m)) := by
  unfold cmP
  rw [List.take_add_one, List.getElem?_eq_getElem h, List.any_append, List.getD_eq_getElem?_getD, List.getElem?_eq_getElem h]
  simp
theorem cmP_full (l m : List Int) : cmP l m l.length = cmnI l m := by unfold cmP cmnI; rw [List.take_length]
theorem take_mem (m : List Int) (u : Int) {q : Nat} (h : q < m.length) : decide (u ∈ m.take (q + 1)) = (decide (u ∈ m.take q) || decide (u = m.getD q 0)) := by
  rw [List.take_add_one, List.getElem?_eq_getElem h, List.getD_eq_getElem?_getD, List.getElem?_eq_getElem h]
  rw [Bool.eq_iff_iff, Bool.or_eq_true, decide_eq_true_iff, decide_eq_true_iff, decide_eq_true_iff, List.mem_append]
  simp
set_option maxHeartbeats 16000000 in
set_option maxRecDepth 100000 in
theorem srclaw_any (x : Nat) (a : Option Addr) (n c : Nat) (l : List T3) (w : World) (hx : x < 256) (hl : l.length = n) (hn : n ≤ 1152921504606846976) (hA : Rd w a (fl enc3 l)) (hF : ∀ t ∈ l, t.1 < 256 ∧ t.2.1 < 256 ∧ t.2.2 < 256) :
    Calls Tryd.prog 3 #[.int .u8 x, .slice a n c] w fun e w' => e = .returned (.bool true) ∧ Below w.heap.size w w' := by
  have HGW := Lib.hid (grown_any x (grS x) rfl a n c l w hx hl hn hA hF)
  have hS10 : grS x ≤ 10 := by unfold grS; omega
  have hS1 : 1 ≤ grS x := by unfold grS; omega
  have HAS : Hid (Asc (grL (grS x) l) (grS x)) := asc_grL (by omega) l
  have HLE : Hid ((grE (grS x)).length = grS x) := grE_len _
  obtain ⟨S, hS⟩ : ∃ y, y = grS x := ⟨_, rfl⟩
  rw [← hS] at HGW HAS HLE hS10 hS1
  have hm20 := grL_len S l
  obtain ⟨ls, hls⟩ : ∃ y, y = grL S l := ⟨_, rfl⟩
  rw [← hls] at HGW HAS hm20
  clear hl hn hA hF hS hls
  go_enter Tryd.func3, Tryd.ntmps3
  go_wp2_with fail
  refine HGW.out.mono ?_
  rintro e w1 ⟨O, g, r, vv, rfl, hG, hX, hXO, hOb, hb1⟩
  obtain ⟨va, vc, rfl, _⟩ := owns_slice hX
  obtain ⟨m, hm⟩ : ∃ y, y = ls.length := ⟨_, rfl⟩
  rw [← hm] at hX hXO
  have HM := Lib.hid hm
  have HG := Lib.hid hG
  have HX := Lib.hid (rd_of_owns hX)
  rw [← hm] at hm20
  have HB1 := Lib.hid hb1
  have HLN := Lib.hid (len_yes hG)
  rw [HLE.out] at HLN
  rw [← hm]
  have HFR := Lib.hid (from_any va m vc S ls w1 hm.symm (by omega) hS10 hS1 (rd_of_owns hX) HAS.out)
  clear hm hG hX hb1 HGW hXO hOb
  go_wp2_with first | fail | (go_at_call 11; refine HLN.out.mono ?_; rintro e w2 ⟨rfl, hw2⟩; subst w2)
  refine HFR.out.mono ?_
  rintro e w2 ⟨v7, rs, rfl, hF7⟩
  obtain ⟨a7, c7, rfl, _⟩ := owns_slice hF7.own
  have HF7 := Lib.hid hF7
  have HG2 := Lib.hid (HG.out.bl hF7.bl)
  have HX2 := Lib.hid (HX.out.bl hF7.bl)
  have HB2 := Lib.hid (HB1.out.trans (hF7.bl.mono HB1.out.size))
  have HUP : Hid (∀ i, i < S → ∃ g7 D o d, a7 = some ⟨g7, 0, none⟩ ∧ g7 < w2.heap.size ∧ w2.cell? ⟨g7, i, none⟩ = some (.slice (some ⟨D, o, none⟩) S d) ∧ D < w2.heap.size ∧ ∀ a, a < S → w2.cell? ⟨D, o + a, none⟩ = some (.bool (decide (a ∈ abL ls S i)))) := fun i hi => by
    obtain ⟨g7, c, D, o, d, e, h1, h2, h3, h4⟩ := HF7.out.cell hi hS1
    exact ⟨g7, D, o, d, (Value.slice.inj e).1, h1, h2, h3, h4⟩
  have HR0 := Lib.hid (SrW.nil w2 ls S)
  clear hF7 HFR HLN HF7
  go_wp2_with fail
  go_loopw [10, 9] (fun y z wr => ∃ (k : Nat) (oa : Option Addr) (oc : Nat) (rs : List Rw), k ≤ S ∧ y = .int .i64 k ∧ z = .slice oa k oc ∧ Hid (SrW w2 wr ls S k (.slice oa k oc) rs)) (fun y _ _ => S - (intOf y).toNat)
  case atStart => exact ⟨0, none, 0, [], by omega, rfl, rfl, HR0⟩
  case round =>
    clear HR0
    obtain ⟨k, oa, oc, rs, hk, rfl, rfl, hR⟩ := hrel
    obtain ⟨wo, rfl⟩ : ∃ wo : World, wo = wr := ⟨_, rfl⟩
    by_cases hlt : k < S
    · obtain ⟨g7, D7, o7, d7, rfl, hg7, f1, hD7, f2⟩ := HUP.out k hlt
      have F2 := Lib.hid f2
      clear f2
      have HW0 : Hid (wo.ownsRow wo.heap.size 3 1 (.slice none 0 0) 0 (fl encI ((swL ls S k 0).map Int.ofNat))) := World.ownsRow_nil _ _ _ _
      have HN0 : Hid (0 = (swL ls S k 0).length) := rfl
      have HB0 : Hid (Below wo.heap.size wo wo) := Below.refl _ _
      go_wp2_with fail
      go_loopw [12, 11] (fun y z wr => ∃ (t : Nat) (wa : Option Addr) (wn wc : Nat), t ≤ k + 1 ∧ y = .int .i64 t ∧ z = .slice wa wn wc ∧ wn ≤ t ∧ Hid (wn = (swL ls S k t).length) ∧ Hid (wr.ownsRow wo.heap.size 3 1 (.slice wa wn wc) wn (fl encI ((swL ls S k t).map Int.ofNat))) ∧ Hid (Below wo.heap.size wo wr)) (fun y _ _ => k + 1 - (intOf y).toNat)
      case atStart => exact ⟨0, none, 0, 0, by omega, rfl, rfl, by omega, HN0, HW0, HB0⟩
      case round =>
        clear HW0 HN0 HB0
        obtain ⟨t, wa, wn, wcc, ht, rfl, rfl, hwn, hN, hW, hB⟩ := hrel
        obtain ⟨wi, rfl⟩ : ∃ wi : World, wi = wr := ⟨_, rfl⟩
        have hBt := bl_trans hR.out.bl hB.out
        by_cases htk : t < k + 1
        · have HK0 : Hid (true = nfP ls t 0) := rfl
          have HQ0 : Hid (∃ nq, wi = wi.drewN nq) := ⟨0, rfl⟩
          have HXi := Lib.hid (HX2.out.bl hBt)
          have HBt := Lib.hid hBt
          clear hBt
          go_wp2_with fail
          go_loopw [14, 13] (fun y z w' => ∃ (i : Nat) (b : Bool), i ≤ m ∧ y = .int .i64 i ∧ z = .bool b ∧ Hid (b = nfP ls t i) ∧ Hid (∃ nq, w' = wi.drewN nq)) (fun y _ _ => m - (intOf y).toNat)
          case atStart => exact ⟨0, true, by omega, rfl, rfl, HK0, HQ0⟩
          case round =>
            clear HK0 HQ0
            obtain ⟨i, b, hi, rfl, rfl, hb, hw⟩ := hrel
            obtain ⟨n0, rfl⟩ := hw.out
            clear hw
            by_cases him : i < m
            · have hil : i < ls.length := by rw [← HM.out]; exact him
              obtain ⟨b1, o1, rfl, hbl, hc⟩ := rdLk HXi.out (by omega)
              obtain ⟨_, _, c2⟩ := hc i hil
              obtain ⟨p, q, hp, hq, hpq, hqS⟩ := HAS.out.at hil
              rw [hq] at c2
              have hsu := nfP_succ ls t i
              rw [hq, ← hb.out] at hsu
              clear hc hp hq
              cases b with
              | false =>
                have HK1 : Hid (false = nfP ls t (i + 1)) := by show _ = _; rw [hsu]; rfl
                clear hsu hb
                go_wp2_with fail
                go_roundw
                case rel => exact ⟨i + 1, false, by omega, by go_num, rfl, HK1, n0, rfl⟩
                case measure => simp [intOf]; omega
              | true =>
                by_cases e : q = t
                · have e2 : ((q : Int) != (t : Int)) = false := by simp; omega
                  have HK1 : Hid (false = nfP ls t (i + 1)) := by show _ = _; rw [hsu, decide_eq_true (by omega)]; rfl
                  clear hsu hb e
                  go_wp2_with fail
                  go_roundw
                  case rel => exact ⟨i + 1, false, by omega, by go_num, rfl, HK1, n0, rfl⟩
                  case measure => simp [intOf]; omega
                · have e2 : ((q : Int) != (t : Int)) = true := by simp; omega
                  have HK1 : Hid (true = nfP ls t (i + 1)) := by show _ = _; rw [hsu, decide_eq_false (by omega)]; rfl
                  clear hsu hb e
                  go_wp2_with fail
                  go_roundw
                  case rel => exact ⟨i + 1, true, by omega, by go_num, rfl, HK1, n0, rfl⟩
                  case measure => simp [intOf]; omega
            · have him2 : i = m := by omega
              subst i
              have hbn : b = noFr ls t := by rw [hb.out, HM.out, nfP_full]
              have HBN := Lib.hid hbn
              have f3 := F2.out t (by omega)
              have f1' : wi.cell? ⟨g7, k, none⟩ = some (.slice (some ⟨D7, o7, none⟩) S d7) := (HBt.out.cell (p := ⟨g7, k, none⟩) hg7).trans f1
              have f3' : wi.cell? ⟨D7, o7 + t, none⟩ = some (.bool (decide (t ∈ abL ls S k))) := (HBt.out.cell (p := ⟨D7, o7 + t, none⟩) hD7).trans f3
              obtain ⟨y, hy⟩ : ∃ y, y = decide (t ∈ abL ls S k) := ⟨_, rfl⟩
              rw [← hy] at f3'
              have hsw := swL_succ ls S k t
              rw [← hbn, ← hy] at hsw
              have HSW := Lib.hid hsw
              clear hb hbn hy hsw f3 him
              have hB0 := bl_trans hB.out (bl_drewN (Below.refl _ wi) n0)
              cases hby : (b && y) with
              | false =>
                have HN1 : Hid (wn = (swL ls S k (t + 1)).length) := by show _ = _; rw [HSW.out, hby, hN.out]; simp
                have HW1 : Hid ((wi.drewN n0).ownsRow wo.heap.size 3 1 (.slice wa wn wcc) wn (fl encI ((swL ls S k (t + 1)).map Int.ofNat))) := by
                  show World.ownsRow _ _ _ _ _ _ _
                  rw [HSW.out, hby]; simp only [Bool.false_eq_true, if_false, List.append_nil]; exact hW.out
                have HB1 := Lib.hid hB0
                clear HSW hW hN hB hB0
                cases b with
                | false =>
                  clear hby
                  go_wp2_with fail
                  go_roundw
                  case rel => exact ⟨t + 1, wa, wn, wcc, by omega, by go_num, rfl, by omega, HN1, HW1, HB1⟩
                  case measure => simp [intOf]; omega
                | true =>
                  have hy2 : y = false := hby
                  subst hy2
                  clear hby
                  go_wp2_with fail
                  go_roundw
                  case rel => exact ⟨t + 1, wa, wn, wcc, by omega, by go_num, rfl, by omega, HN1, HW1, HB1⟩
                  case measure => simp [intOf]; omega
              | true =>
                obtain ⟨hb1, hy1⟩ : b = true ∧ y = true := by simpa using hby
                subst hb1 hy1
                have HS1 : Hid (swL ls S k (t + 1) = swL ls S k t ++ [t]) := by show _ = _; rw [HSW.out]; rfl
                have HW1 := Lib.hid (owns_below hW.out (bl_drewN (Below.refl _ wi) n0))
                have HB1 := Lib.hid hB0
                have HRA : Hid (∀ o, ((wi.drewN n0).alloc o).ownsRow wo.heap.size 3 1 (.slice wa wn wcc) wn (fl encI ((swL ls S k t).map Int.ofNat))) := fun o => owns_below HW1.out (bl_alloc (Below.refl _ (wi.drewN n0)) o)
                have HSA : Hid (∀ o, wo.heap.size ≤ ((wi.drewN n0).alloc o).heap.size) := fun o => Nat.le_trans HB1.out.size (bl_alloc (Below.refl _ (wi.drewN n0)) o).size
                clear HSW hby hB hW hB0
                go_wp2_with first | fail | (at_builtin; refine wpList_pushs rfl encI_len (by decide) encI_one Tryd.underlying31 info_I rfl (.tmp 76) (.tmp 78) rfl (.slice wa wn wcc) ((swL ls S k t).map Int.ofNat) wn (by rw [hN.out]; simp) rfl (HRA.out _) (some ⟨(wi.drewN n0).heap.size, 0, none⟩) 1 1 [(t : Int)] rfl rfl (rd_of_blkQ (cs := encI (t : Int)) (Blk.new (wi.drewN n0) _ 3)) (fun e => by cases e) (by omega) (by decide) (HSA.out _) ?_; intro v9 w9 h91 h92 h93; have H91 := Lib.hid h91; have H92 := Lib.hid h92; clear h91 h92 h93)
                obtain ⟨va9, c9, rfl, _⟩ := owns_slice H91.out
                have HB9 : Hid (Below wo.heap.size wo w9) := bl_grown (HB1.out.trans ((bl_alloc (Below.refl _ (wi.drewN n0)) (.cells #[.int .i64 (t : Int)] 3)).mono HB1.out.size)) H92.out fun k e => (HW1.out.lt k e).1
                have HN9 : Hid (wn + 1 = (swL ls S k (t + 1)).length) := by show _ = _; rw [HS1.out, List.length_append, ← hN.out]; rfl
                have HW9 : Hid (w9.ownsRow wo.heap.size 3 1 (.slice va9 (wn + 1) c9) (wn + 1) (fl encI ((swL ls S k (t + 1)).map Int.ofNat))) := by
                  have h := H91.out
                  show World.ownsRow _ _ _ _ _ _ _
                  rw [HS1.out, List.map_append]
                  exact h
                go_roundw
                case rel => exact ⟨t + 1, va9, wn + 1, c9, by omega, by go_num, rfl, by omega, HN9, HW9, HB9⟩
                case measure => simp [intOf]; omega
        · have htk2 : t = k + 1 := by omega
          subst t
          rw [swL_full HAS.out hlt] at hN hW
          obtain ⟨y0, hy0⟩ := srcL_ne HAS.out k hlt
          have hne : wn ≠ 0 := fun e => by
            rw [hN.out] at e
            have := List.eq_nil_of_length_eq_zero e
            rw [this] at hy0; cases hy0
          have hne2 : ((wn : Int) == 0) = false := by simpa using hne
          have hGi := HG2.out.bl hBt
          have hs := gsources_any hGi (k : Int)
          have hT : hasB (k : Int) S = true := by unfold hasB; simp; omega
          have e1 : ckE (grE S).length [(k : Int)] = 0 := by rw [ckE_one, HLE.out, hT]; rfl
          have e2 : srcO ls (grE S).length (k : Int) = srcL ls S k := by unfold srcO; rw [HLE.out, hT]; rfl
          rw [e1, e2, ← hN.out] at hs
          have HSC := Lib.hid hs
          clear hs hT e1 e2 hy0 htk hne hBt hGi
          have hkl : ¬ ((k : Int) + 1 ≤ (k : Int)) := by omega
          go_wp2_with fail
          refine HSC.out.mono ?_
          rintro e w5 ⟨v5, rfl, h51, hb5⟩
          obtain ⟨a5, c5, rfl, _⟩ := owns_slice h51
          have HR5 := Lib.hid (rd_of_owns h51)
          have HB5 := Lib.hid (bl_trans hB.out hb5)
          have HW5 := Lib.hid (owns_below hW.out hb5)
          have hlm : ((srcL ls S k).map Int.ofNat).length = wn := by rw [hN.out]; simp
          have HEQ := Lib.hid (equal_any a5 wa wn wn c5 wcc ((srcL ls S k).map Int.ofNat) ((srcL ls S k).map Int.ofNat) w5 hlm hlm (by omega) (by omega) HR5.out (rd_of_owns HW5.out))
          rw [show decide ((srcL ls S k).map Int.ofNat = (srcL ls S k).map Int.ofNat) = true by simp] at HEQ
          clear hb5 h51 hlm HSC hB hW
          go_wp2_with fail
          refine HEQ.out.mono ?_
          rintro e w6 ⟨rfl, n6, rfl⟩
          have HB6 := Lib.hid (bl_drewN HB5.out n6)
          have HW6 : Hid ((w5.drewN n6).ownsRow wo.heap.size 3 1 (.slice wa wn wcc) wn (fl encI (srcI ls S k))) := owns_below HW5.out (bl_drewN (Below.refl _ w5) n6)
          clear HEQ HB5 HW5 HR5
          obtain ⟨w6, hw6⟩ : ∃ y, y = w5.drewN n6 := ⟨_, rfl⟩
          rw [← hw6] at HB6 HW6 ⊢
          clear hw6
          have hR6 := hR.out.below HB6.out
          have HR6 := Lib.hid hR6
          have HRA : Hid (∀ o, (w6.alloc o).ownsRow w2.heap.size 31 1 (.slice oa k oc) k (fl encR rs)) := fun o => owns_below HR6.out.own (bl_alloc (Below.refl _ w6) o)
          have HSA : Hid (∀ o, w2.heap.size ≤ (w6.alloc o).heap.size) := fun o => Nat.le_trans HR6.out.bl.size (bl_alloc (Below.refl _ w6) o).size
          have hn3 : ¬ (wn = 0) := fun e => by rw [e] at hne2; cases hne2
          clear hR6
          go_wp2_with first | fail | (at_builtin; refine wpList_pushs rfl encR_len (by decide) encR_oneQ Tryd.underlying30 info_R rfl (.tmp 99) (.tmp 101) rfl (.slice oa k oc) rs k HR6.out.len.symm rfl (HRA.out _) (some ⟨w6.heap.size, 0, none⟩) 1 1 [(wa, wn, wcc)] rfl rfl (rd_of_blkQ (cs := encR (wa, wn, wcc)) (Blk.new w6 _ 31)) (fun e => by cases e) (by omega) (by decide) (HSA.out _) ?_; intro v9 w9 h91 h92 h93; have H91 := Lib.hid h91; have H92 := Lib.hid h92; clear h91 h92 h93)
          obtain ⟨va9, c9, rfl, _⟩ := owns_slice H91.out
          have hNe := hN.out
          subst hNe
          have HR9 : Hid (SrW w2 w9 ls S (k + 1) (.slice va9 (k + 1) c9) (rs ++ [(wa, (srcL ls S k).length, wcc)])) := hR.out.push (bl_trans HB6.out (bl_alloc (Below.refl _ w6) (.cells #[.slice wa (srcL ls S k).length wcc] 31))) (owns_mono (owns_below HW6.out (bl_alloc (Below.refl _ w6) _)) hR.out.bl.size) H91.out H92.out
          go_roundw
          case rel => exact ⟨k + 1, va9, c9, _, by omega, by go_num, rfl, HR9⟩
          case measure => simp [intOf]; omega
    · have hkS : k = S := by omega
      subst k
      obtain ⟨gs, cs, es, hgs, hsc⟩ := hR.out.cell (show 0 < S by omega)
      obtain ⟨e8, _, e9⟩ := Value.slice.inj es
      subst e8 e9
      have HSC := Lib.hid hsc
      have hP0 : PrW wo (wo.alloc (.cells #[.slice none 0 0, .slice none 0 0] 40)) wo.heap.size ls S 0 0 (none, 0, 0) (none, 0, 0) :=
        ⟨Blk.new _ _ _, rfl, rfl, World.ownsRow_nil _ _ _ _, World.ownsRow_nil _ _ _ _, .inl rfl, Nat.le_refl _, bl_alloc (Below.refl _ wo) _⟩
      have HGo := Lib.hid (HG2.out.bl hR.out.bl)
      have HBo := Lib.hid (HB2.out.trans (hR.out.bl.mono HB2.out.size))
      have HUo : Hid (∀ i, i < S → ∃ g7 D o d, a7 = some ⟨g7, 0, none⟩ ∧ g7 < wo.heap.size ∧ wo.cell? ⟨g7, i, none⟩ = some (.slice (some ⟨D, o, none⟩) S d) ∧ D < wo.heap.size ∧ ∀ a, a < S → wo.cell? ⟨D, o + a, none⟩ = some (.bool (decide (a ∈ abL ls S i)))) := fun i hi => by
        obtain ⟨g7, D, o, d, e, h1, h2, h3, h4⟩ := HUP.out i hi
        have hz := hR.out.bl.size
        exact ⟨g7, D, o, d, e, by omega, (hR.out.bl.cell (p := ⟨g7, i, none⟩) h1).trans h2, by omega, fun a ha => (hR.out.bl.cell (p := ⟨D, o + a, none⟩) h3).trans (h4 a ha)⟩
      have HP0 := Lib.hid hP0
      clear es hsc hP0 hR hlt
      go_wp2_with fail
      obtain ⟨w11, hw11⟩ : ∃ y, y = wo.alloc (.cells #[.slice none 0 0, .slice none 0 0] 40) := ⟨_, rfl⟩
      obtain ⟨P, hP⟩ : ∃ y, y = wo.heap.size := ⟨_, rfl⟩
      rw [← hw11, ← hP] at HP0 ⊢
      clear hw11 hP
      go_loopw [18] (fun y wr => ∃ (i : Nat) (r0 r1 : Rw), i ≤ S ∧ y = .int .i64 i ∧ Hid (PrW wo wr P ls S i 0 r0 r1)) (fun y _ => S - (intOf y).toNat)
      case atStart => exact ⟨0, _, _, by omega, rfl, HP0⟩
      case round =>
        clear HP0
        obtain ⟨i, r0, r1, hi, rfl, hP⟩ := hrel
        by_cases hiS : i < S
        · obtain ⟨Ai, di, hci, hri⟩ := HSC.out i hiS
          obtain ⟨ni, hni⟩ : ∃ y, y = (srcL ls S i).length := ⟨_, rfl⟩
          rw [← hni] at hci
          have HNI : Hid ((srcI ls S i).length = ni) := by show _ = _; rw [srcI_len, hni]
          have hni10 : ni ≤ 10 := by rw [hni]; have := srcL_len ls S i; omega
          have HCI := Lib.hid hci
          have HRI := Lib.hid hri
          obtain ⟨li, hli⟩ : ∃ y, y = srcI ls S i := ⟨_, rfl⟩
          rw [← hli] at HNI HRI
          have HLI := Lib.hid hli
          clear hci hri hni hli
          go_wp2_with fail
          go_loopw [19] (fun y wr => ∃ (k : Nat) (r0 r1 : Rw), k ≤ S ∧ y = .int .i64 k ∧ Hid (PrW wo wr P ls S i k r0 r1)) (fun y _ => S - (intOf y).toNat)
          case atStart => exact ⟨0, r0, r1, by omega, rfl, hP⟩
          case round =>
            clear hP
            obtain ⟨k, r0, r1, hk, rfl, hP⟩ := hrel
            obtain ⟨wk, rfl⟩ : ∃ wk : World, wk = wr := ⟨_, rfl⟩
            by_cases hkS : k < S
            · obtain ⟨Ak, dk, hck, hrk⟩ := HSC.out k hkS
              obtain ⟨nk, hnk⟩ : ∃ y, y = (srcL ls S k).length := ⟨_, rfl⟩
              rw [← hnk] at hck
              have HNK : Hid ((srcI ls S k).length = nk) := by show _ = _; rw [srcI_len, hnk]
              have hnk10 : nk ≤ 10 := by rw [hnk]; have := srcL_len ls S k; omega
              have k1 : wk.cell? ⟨gs, i, none⟩ = some (.slice Ai ni di) := (hP.out.bl.cell (p := ⟨gs, i, none⟩) hgs).trans HCI.out
              have k2 : wk.cell? ⟨gs, k, none⟩ = some (.slice Ak nk dk) := (hP.out.bl.cell (p := ⟨gs, k, none⟩) hgs).trans hck
              have K2 := Lib.hid k2
              have HRK := Lib.hid (hrk.bl hP.out.bl)
              have HRI2 := Lib.hid (HRI.out.bl hP.out.bl)
              obtain ⟨lk, hlk⟩ : ∃ y, y = srcI ls S k := ⟨_, rfl⟩
              rw [← hlk] at HNK HRK
              have HKB : Hid (cmnI li lk = kinB ls S i k) := by show _ = _; rw [HLI.out, hlk]; rfl
              have HC0 : Hid (false = cmP li lk 0) := rfl
              have HQ0 : Hid (∃ nq, wk = wk.drewN nq) := ⟨0, rfl⟩
              clear hck hrk hnk hlk k2
              go_wp2_with fail
              go_loopw [118, 20] (fun y z w' => ∃ (p : Nat) (b : Bool), p ≤ ni ∧ y = .int .i64 p ∧ z = .bool b ∧ Hid (b = cmP li lk p) ∧ Hid (∃ nq, w' = wk.drewN nq)) (fun y _ _ => ni - (intOf y).toNat)
              case atStart => exact ⟨0, false, by omega, rfl, rfl, HC0, HQ0⟩
              case round =>
                clear HC0 HQ0
                obtain ⟨p, b, hp, rfl, rfl, hb, hw⟩ := hrel
                obtain ⟨n0, rfl⟩ := hw.out
                clear hw
                by_cases hpn : p < ni
                · obtain ⟨bi, oi, rfl, _, hxi⟩ := rdI HRI2.out (by rw [HNI.out]; omega)
                  have q1 := hxi p (by rw [HNI.out]; exact hpn)
                  obtain ⟨u, hu⟩ : ∃ y, y = iA li p := ⟨_, rfl⟩
                  rw [← hu] at q1
                  have hcs := cmP_succ li lk (show p < li.length by rw [HNI.out]; exact hpn)
                  rw [show li.getD p 0 = u from hu.symm, ← hb.out] at hcs
                  have HCS := Lib.hid hcs
                  have k2 := K2.out
                  have HC1 : Hid (b = (b || decide (u ∈ lk.take 0))) := by show _ = _; simp
                  have HQ1 : Hid (∃ nq, wk.drewN n0 = wk.drewN nq) := ⟨n0, rfl⟩
                  clear hxi hu hcs hb
                  go_wp2_with fail
                  go_loopw [127, 20] (fun y z w' => ∃ (q : Nat) (d : Bool), q ≤ nk ∧ y = .int .i64 q ∧ z = .bool d ∧ Hid (d = (b || decide (u ∈ lk.take q))) ∧ Hid (∃ nq, w' = wk.drewN nq)) (fun y _ _ => nk - (intOf y).toNat)
                  case atStart => exact ⟨0, b, by omega, rfl, rfl, HC1, HQ1⟩
                  case round =>
                    clear HC1 HQ1
                    obtain ⟨q, d, hq, rfl, rfl, hd, hw⟩ := hrel
                    obtain ⟨n1, rfl⟩ := hw.out
                    clear hw
                    by_cases hqn : q < nk
                    · obtain ⟨bk, ok, rfl, _, hxk⟩ := rdI HRK.out (by rw [HNK.out]; omega)
                      have q2 := hxk q (by rw [HNK.out]; exact hqn)
                      obtain ⟨v, hv⟩ : ∃ y, y = iA lk q := ⟨_, rfl⟩
                      rw [← hv] at q2
                      have htm := take_mem lk u (show q < lk.length by rw [HNK.out]; exact hqn)
                      rw [show lk.getD q 0 = v from hv.symm] at htm
                      have HTM := Lib.hid htm
                      clear hxk hv htm
                      cases d with
                      | true =>
                        have HD1 : Hid (true = (b || decide (u ∈ lk.take (q + 1)))) := by show _ = _; rw [HTM.out, ← Bool.or_assoc, ← hd.out]; rfl
                        clear hd
                        go_wp2_with fail
                        go_roundw
                        case rel => exact ⟨q + 1, true, by omega, by go_num, rfl, HD1, n1, rfl⟩
                        case measure => simp [intOf]; omega
                      | false =>
                        have HD1 : Hid ((u == v) = (b || decide (u ∈ lk.take (q + 1)))) := by
                          show _ = _
                          rw [HTM.out, ← Bool.or_assoc, ← hd.out, Bool.false_or]
                          exact (by by_cases e : u = v <;> simp [e])
                        clear hd
                        by_cases e : u = v
                        · have e2 : (u == v) = true := by simpa using e
                          rw [e2] at HD1
                          clear e
                          go_wp2_with fail
                          go_roundw
                          case rel => exact ⟨q + 1, true, by omega, by go_num, rfl, HD1, n1, rfl⟩
                          case measure => simp [intOf]; omega
                        · have e2 : (u == v) = false := by simpa using e
                          rw [e2] at HD1
                          clear e
                          go_wp2_with fail
                          go_roundw
                          case rel => exact ⟨q + 1, false, by omega, by go_num, rfl, HD1, n1, rfl⟩
                          case measure => simp [intOf]; omega
                    · have hq2 : q = nk := by omega
                      subst q
                      have HD1 : Hid (d = cmP li lk (p + 1)) := by
                        show _ = _
                        rw [HCS.out, hd.out, List.take_of_length_le (by rw [HNK.out]; exact Nat.le_refl _)]
                      clear hd hqn
                      go_wp2_with fail
                      go_roundw
                      case rel => exact ⟨p + 1, d, by omega, by go_num, rfl, HD1, n1, rfl⟩
                      case measure => simp [intOf]; omega
                · have hp2 : p = ni := by omega
                  subst p
                  have HBB : Hid (b = kinB ls S i k) := by show _ = _; rw [hb.out, ← HNI.out, cmP_full, HKB.out]
                  have hPn := hP.out.below (bl_drewN (Below.refl _ wk) n0)
                  have HPn := Lib.hid hPn
                  obtain ⟨wn, hwn⟩ : ∃ y, y = wk.drewN n0 := ⟨_, rfl⟩
                  rw [← hwn] at HPn ⊢
                  have hs := kin_any (HGo.out.bl HPn.out.bl) (i : Int) (k : Int)
                  have hT : hasB (i : Int) S = true := by unfold hasB; simp; omega
                  have hT2 : hasB (k : Int) S = true := by unfold hasB; simp; omega
                  have e1 : ckE (grE S).length [(i : Int), (k : Int)] = 0 := by rw [ckE_two, HLE.out, hT, hT2]; rfl
                  have e2 : kinO ls (grE S).length (i : Int) (k : Int) = b := by unfold kinO; rw [HLE.out, hT, hT2, HBB.out]; rfl
                  rw [e1, e2] at hs
                  have HKN := Lib.hid hs
                  have tbb : (b != b) = false := by simp
                  clear hwn hPn hs hT hT2 e1 e2 hb hpn hP k1 HRK HRI2 HKB K2
                  go_wp2_with fail
                  refine HKN.out.mono ?_
                  rintro e w15 ⟨rfl, hb15⟩
                  have HP15 := Lib.hid (HPn.out.below hb15)
                  clear hb15 HKN HPn
                  obtain ⟨g7, D7, o7, d7, e7, hg7, f1, hD7, f2⟩ := HUo.out k hkS
                  subst e7
                  have f3 := f2 i hiS
                  have f1 : w15.cell? ⟨g7, k, none⟩ = some (.slice (some ⟨D7, o7, none⟩) S d7) := (HP15.out.bl.cell (p := ⟨g7, k, none⟩) hg7).trans f1
                  have f3 : w15.cell? ⟨D7, o7 + i, none⟩ = some (.bool (decide (i ∈ abL ls S k))) := (HP15.out.bl.cell (p := ⟨D7, o7 + i, none⟩) hD7).trans f3
                  have hup : decide (i ∈ abL ls S k) = true → b = true := fun h => by rw [HBB.out]; exact kin_up HAS.out hiS hkS (of_decide_eq_true h)
                  obtain ⟨ub, hub⟩ : ∃ y, y = decide (i ∈ abL ls S k) := ⟨_, rfl⟩
                  rw [← hub] at f3 hup
                  clear f2 hub
                  have hi2 := Nat.mod_lt i (show 0 < 2 by omega)
                  go_upto_region 43 with fail
                  go_cut [165] (fun s wx => s = .bool false ∧ wx = w15)
                  case first =>
                    cases b with
                    | false =>
                      have hu : ub = false := by
                        cases ub with
                        | false => rfl
                        | true => exact absurd (hup rfl) (by decide)
                      subst hu
                      go_wp2_with fail
                      go_meet
                      exact ⟨rfl, rfl⟩
                    | true =>
                      cases ub
                      all_goals
                        go_wp2_with fail
                        go_meet
                        exact ⟨rfl, rfl⟩
                  case rest =>
                  obtain ⟨rfl, hwc⟩ := hcut
                  rw [hwc]
                  clear hwc hup f1 f3
                  cases b with
                  | false =>
                    have HP20 : Hid (PrW wo w15 P ls S i (k + 1) r0 r1) := HP15.out.same (by rw [prL_succ, ← HBB.out]; simp) (by rw [prL_succ, ← HBB.out]; simp)
                    go_wp2_with fail
                    go_roundw
                    case rel => exact ⟨k + 1, r0, r1, by omega, by go_num, HP20⟩
                    case measure => simp [intOf]; omega
                  | true =>
                    by_cases hik : i < k
                    · by_cases hpar : i % 2 = k % 2
                      · have HPAR := Lib.hid hpar
                        by_cases hc : i % 2 = 0
                        · have him : (i : Int) % 2 = 0 := by omega
                          have hkm : (k : Int) % 2 = 0 := by omega
                          clear hpar
                          obtain ⟨A0, N0, C0⟩ := r0
                          have d0 : w15.cell? ⟨P, 0, none⟩ = some (.slice A0 N0 C0) := HP15.out.blk.cell 0
                          have HN0 : Hid (N0 = (prL ls S 0 i k).length) := HP15.out.n0
                          have hN0 : N0 ≤ 110 := by
                            have h1 := prL_len ls S 0 i k
                            rw [← HN0.out] at h1
                            have h2 : i * S ≤ 10 * 10 := Nat.mul_le_mul (by omega) hS10
                            omega
                          have e0 : Hid (prL ls S 0 i (k + 1) = prL ls S 0 i k ++ [(i, k)]) := by
                            show _ = _
                            rw [prL_succ, ← HBB.out, decide_eq_true hik, decide_eq_true HPAR.out, decide_eq_true (show i % 2 = 0 by omega)]; rfl
                          have e1 : Hid (prL ls S 1 i (k + 1) = prL ls S 1 i k) := by
                            show _ = _
                            rw [prL_succ, decide_eq_false (show ¬ i % 2 = 1 by omega), Bool.and_false]; simp
                          have HPA : Hid (∀ o, PrW wo (w15.alloc o) P ls S i k (A0, N0, C0) r1) := fun o => HP15.out.below (bl_alloc (Below.refl _ w15) o)
                          have HSA : Hid (∀ o, wo.heap.size ≤ (w15.alloc o).heap.size) := fun o => (HPA.out o).bl.size
                          have HOA : Hid (∀ o, (w15.alloc o).ownsRow wo.heap.size 43 2 (.slice A0 N0 C0) N0 (fl encP (prL ls S 0 i k))) := fun o => by
                            have h := (HPA.out o).o0
                            rw [← HN0.out] at h; exact h
                          go_wp2_with first | fail | (at_builtin; refine wpList_pushs rfl encP_len (by decide) encP_one Tryd.underlying39 infoP rfl (.tmp 184) (.tmp 188) rfl (.slice A0 N0 C0) (prL ls S 0 i k) N0 HN0.out rfl (HOA.out _) (some ⟨w15.heap.size, 0, none⟩) 1 1 [(i, k)] rfl rfl (rd_of_blkQ (cs := encP (i, k)) (Blk.new w15 _ 43)) (fun e => by cases e) (by omega) (by decide) (HSA.out _) ?_; intro v9 w9 h91 h92 h93; obtain ⟨va9, c9, rfl, _⟩ := owns_slice h91; have hB9 := (HPA.out _).kb0 h92; have H91 := Lib.hid h91; have H92 := Lib.hid h92; have H93 := Lib.hid h93; have d9 : w9.cell? ⟨P, 0, none⟩ = some (.slice A0 N0 C0) := (hB9.cell 0); have f9 : w9.frozen? ⟨P, 0, none⟩ = false := (hB9.free 0); clear h91 h92 h93 hB9)
                          have HP20 : Hid (PrW wo (w9.setCell ⟨P, 0, none⟩ (.slice va9 (N0 + 1) c9)) P ls S i (k + 1) (va9, N0 + 1, c9) r1) := (HPA.out _).put0 (r0' := (va9, N0 + 1, c9)) e0.out e1.out (by show N0 + 1 = _; rw [HN0.out]) (by rw [← HN0.out]; exact H91.out) H92.out H93.out
                          go_roundw
                          case rel => exact ⟨k + 1, _, _, by omega, by go_num, HP20⟩
                          case measure => simp [intOf]; omega
                        · have hc1 : i % 2 = 1 := by omega
                          have him : (i : Int) % 2 = 1 := by omega
                          have hkm : (k : Int) % 2 = 1 := by omega
                          clear hpar
                          obtain ⟨A0, N0, C0⟩ := r1
                          have d0 : w15.cell? ⟨P, 1, none⟩ = some (.slice A0 N0 C0) := HP15.out.blk.cell 1
                          have HN0 : Hid (N0 = (prL ls S 1 i k).length) := HP15.out.n1
                          have hN0 : N0 ≤ 110 := by
                            have h1 := prL_len ls S 1 i k
                            rw [← HN0.out] at h1
                            have h2 : i * S ≤ 10 * 10 := Nat.mul_le_mul (by omega) hS10
                            omega
                          have e1 : Hid (prL ls S 1 i (k + 1) = prL ls S 1 i k ++ [(i, k)]) := by
                            show _ = _
                            rw [prL_succ, ← HBB.out, decide_eq_true hik, decide_eq_true HPAR.out, decide_eq_true (show i % 2 = 1 by omega)]; rfl
                          have e0 : Hid (prL ls S 0 i (k + 1) = prL ls S 0 i k) := by
                            show _ = _
                            rw [prL_succ, decide_eq_false (show ¬ i % 2 = 0 by omega), Bool.and_false]; simp
                          have HPA : Hid (∀ o, PrW wo (w15.alloc o) P ls S i k r0 (A0, N0, C0)) := fun o => HP15.out.below (bl_alloc (Below.refl _ w15) o)
                          have HSA : Hid (∀ o, wo.heap.size ≤ (w15.alloc o).heap.size) := fun o => (HPA.out o).bl.size
                          have HOA : Hid (∀ o, (w15.alloc o).ownsRow wo.heap.size 43 2 (.slice A0 N0 C0) N0 (fl encP (prL ls S 1 i k))) := fun o => by
                            have h := (HPA.out o).o1
                            rw [← HN0.out] at h; exact h
                          go_wp2_with first | fail | (at_builtin; refine wpList_pushs rfl encP_len (by decide) encP_one Tryd.underlying39 infoP rfl (.tmp 184) (.tmp 188) rfl (.slice A0 N0 C0) (prL ls S 1 i k) N0 HN0.out rfl (HOA.out _) (some ⟨w15.heap.size, 0, none⟩) 1 1 [(i, k)] rfl rfl (rd_of_blkQ (cs := encP (i, k)) (Blk.new w15 _ 43)) (fun e => by cases e) (by omega) (by decide) (HSA.out _) ?_; intro v9 w9 h91 h92 h93; obtain ⟨va9, c9, rfl, _⟩ := owns_slice h91; have hB9 := (HPA.out _).kb1 h92; have H91 := Lib.hid h91; have H92 := Lib.hid h92; have H93 := Lib.hid h93; have d9 : w9.cell? ⟨P, 1, none⟩ = some (.slice A0 N0 C0) := (hB9.cell 1); have f9 : w9.frozen? ⟨P, 1, none⟩ = false := (hB9.free 1); clear h91 h92 h93 hB9)
                          have HP20 : Hid (PrW wo (w9.setCell ⟨P, 1, none⟩ (.slice va9 (N0 + 1) c9)) P ls S i (k + 1) r0 (va9, N0 + 1, c9)) := (HPA.out _).put1 (r1' := (va9, N0 + 1, c9)) e0.out e1.out (by show N0 + 1 = _; rw [HN0.out]) (by rw [← HN0.out]; exact H91.out) H92.out H93.out
                          go_roundw
                          case rel => exact ⟨k + 1, _, _, by omega, by go_num, HP20⟩
                          case measure => simp [intOf]; omega
                      · have hne : ((i : Int) % 2 == (k : Int) % 2) = false := by simp; omega
                        have HP20 : Hid (PrW wo w15 P ls S i (k + 1) r0 r1) := HP15.out.same (by rw [prL_succ, decide_eq_false hpar]; simp) (by rw [prL_succ, decide_eq_false hpar]; simp)
                        have hne2 : ¬ ((i : Int) % 2 = (k : Int) % 2) := by omega
                        clear hpar
                        go_wp2_with fail
                        go_roundw
                        case rel => exact ⟨k + 1, r0, r1, by omega, by go_num, HP20⟩
                        case measure => simp [intOf]; omega
                    · have HP20 : Hid (PrW wo w15 P ls S i (k + 1) r0 r1) := HP15.out.same (by rw [prL_succ, decide_eq_false hik]; simp) (by rw [prL_succ, decide_eq_false hik]; simp)
                      go_wp2_with fail
                      go_roundw
                      case rel => exact ⟨k + 1, r0, r1, by omega, by go_num, HP20⟩
                      case measure => simp [intOf]; omega
            · have hkS2 : k = S := by omega
              subst k
              have HP20 : Hid (PrW wo wk P ls S (i + 1) 0 r0 r1) := hP.out.same (prL_next ls S 0 i) (prL_next ls S 1 i)
              clear hP
              go_wp2_with fail
              go_roundw
              case rel => exact ⟨i + 1, r0, r1, by omega, by go_num, HP20⟩
              case measure => simp [intOf]; omega
        · have hiS2 : i = S := by omega
          subst i
          obtain ⟨A0, N0, C0⟩ := r0
          obtain ⟨A1, N1, C1⟩ := r1
          have e0 : prL ls S 0 S 0 = dblL (grE S) ls nWest := by
            rw [show nWest = parL 0 from rfl, dbl_par ls S 0 (by omega)]; unfold prL; simp [prK]
          have e1 : prL ls S 1 S 0 = dblL (grE S) ls nEast := by
            rw [show nEast = parL 1 from rfl, dbl_par ls S 1 (by omega)]; unfold prL; simp [prK]
          have n0 : N0 = (prL ls S 0 S 0).length := hP.out.n0
          have n1 : N1 = (prL ls S 1 S 0).length := hP.out.n1
          have m0 : N0 ≤ 110 := by have h1 := prL_len ls S 0 S 0; have h2 : S * S ≤ 10 * 10 := Nat.mul_le_mul hS10 hS10; omega
          have m1 : N1 ≤ 110 := by have h1 := prL_len ls S 1 S 0; have h2 : S * S ≤ 10 * 10 := Nat.mul_le_mul hS10 hS10; omega
          have r0 : Rd wr A0 (fl encP (prL ls S 0 S 0)) := by
            have h := hP.out.o0; rw [← n0] at h; exact rd_of_owns h
          have r1 : Rd wr A1 (fl encP (prL ls S 1 S 0)) := by
            have h := hP.out.o1; rw [← n1] at h; exact rd_of_owns h
          rw [e0] at n0 r0
          rw [e1] at n1 r1
          have HDW : Hid (∀ W, Below wr.heap.size wr W → Calls Tryd.prog 17 #[.pointer (some ⟨g, 0, none⟩), .string { data := #[119, 101, 115, 116] }] W fun e w' => ∃ a c, e = .returned (.slice a N0 c) ∧ Rd w' a (fl encP (dblL (grE S) ls nWest)) ∧ Below W.heap.size W w') := fun W hW => by
            refine (doublets_any (HGo.out.bl (bl_trans hP.out.bl hW)) nWest).mono ?_
            rintro e w' ⟨v, rfl, h1, h2⟩
            obtain ⟨a, c, rfl, _⟩ := owns_slice h1
            exact ⟨a, c, by rw [n0], rd_of_owns h1, h2⟩
          have HDE : Hid (∀ W, Below wr.heap.size wr W → Calls Tryd.prog 17 #[.pointer (some ⟨g, 0, none⟩), .string { data := #[101, 97, 115, 116] }] W fun e w' => ∃ a c, e = .returned (.slice a N1 c) ∧ Rd w' a (fl encP (dblL (grE S) ls nEast)) ∧ Below W.heap.size W w') := fun W hW => by
            refine (doublets_any (HGo.out.bl (bl_trans hP.out.bl hW)) nEast).mono ?_
            rintro e w' ⟨v, rfl, h1, h2⟩
            obtain ⟨a, c, rfl, _⟩ := owns_slice h1
            exact ⟨a, c, by rw [n1], rd_of_owns h1, h2⟩
          have HDN : Hid (∀ W, Below wr.heap.size wr W → Calls Tryd.prog 17 #[.pointer (some ⟨g, 0, none⟩), .string { data := #[110, 111, 114, 116, 104] }] W fun e w' => ∃ a c, e = .returned (.slice a 0 c) ∧ Below W.heap.size W w') := fun W hW => by
            refine (doublets_any (HGo.out.bl (bl_trans hP.out.bl hW)) { data := #[110, 111, 114, 116, 104] }).mono ?_
            rintro e w' ⟨v, rfl, h1, h2⟩
            obtain ⟨a, c, rfl, _⟩ := owns_slice h1
            exact ⟨a, c, by rw [own_north]; rfl, h2⟩
          have HSW : Hid (∀ W a c, Below wr.heap.size wr W → Rd W a (fl encP (dblL (grE S) ls nWest)) → Calls Tryd.prog 16 #[.slice a N0 c, .slice A0 N0 C0] W fun e w' => e = .returned (.bool true) ∧ Below W.heap.size W w') := fun W a c hW hR => by
            refine (same_any a A0 N0 N0 c C0 _ _ W n0.symm n0.symm (by omega) (by omega) hR (r0.bl hW)).mono ?_
            rintro e w' ⟨rfl, n, rfl⟩
            exact ⟨by rw [decide_eq_true rfl], bl_drewN (Below.refl _ W) n⟩
          have HSE : Hid (∀ W a c, Below wr.heap.size wr W → Rd W a (fl encP (dblL (grE S) ls nEast)) → Calls Tryd.prog 16 #[.slice a N1 c, .slice A1 N1 C1] W fun e w' => e = .returned (.bool true) ∧ Below W.heap.size W w') := fun W a c hW hR => by
            refine (same_any a A1 N1 N1 c C1 _ _ W n1.symm n1.symm (by omega) (by omega) hR (r1.bl hW)).mono ?_
            rintro e w' ⟨rfl, n, rfl⟩
            exact ⟨by rw [decide_eq_true rfl], bl_drewN (Below.refl _ W) n⟩
          have HWK := Lib.hid works_any
          have HC0 : Hid (∀ W, Below wr.heap.size wr W → W.cell? ⟨P, 0, none⟩ = some (.slice A0 N0 C0)) := fun W hW => (hP.out.blk.below hW).cell 0
          have HC1 : Hid (∀ W, Below wr.heap.size wr W → W.cell? ⟨P, 1, none⟩ = some (.slice A1 N1 C1)) := fun W hW => (hP.out.blk.below hW).cell 1
          have HBZ := Lib.hid (HBo.out.trans (hP.out.bl.mono HBo.out.size))
          have HBk : Hid (Below wr.heap.size wr wr.drew) := bl_drewN (Below.refl _ wr) 1
          have j0 := HC0.out wr (Below.refl _ _)
          have j1 := HC1.out wr (Below.refl _ _)
          clear e0 e1 n0 n1 r0 r1 hP m0 m1
          go_wp2_with fail
          have T1 : True := trivial
          have T2 : True := trivial
          have T3 : True := trivial
          have T4 : True := trivial
          have T5 : True := trivial
          go_region_held3 (fun w' => w'.cell? ⟨P, 0, none⟩ = some (.slice A0 N0 C0) ∧ w'.cell? ⟨P, 1, none⟩ = some (.slice A1 N1 C1)) (go_keep) (first
            | (clear T1; go_at_call 17; refine (HDW.out _ HBk.out).mono ?_; rintro e wk ⟨a8, c8, rfl, h8, hbk⟩; have HR8 := Lib.hid h8; have HBk := Lib.hid (bl_trans HBk.out hbk); have j0 := HC0.out wk HBk.out; have j1 := HC1.out wk HBk.out; clear hbk; clear h8)
            | (clear T2; go_at_call 16; refine (HSW.out _ a8 _ HBk.out HR8.out).mono ?_; rintro e wk ⟨rfl, hbk⟩; have HBk := Lib.hid (bl_trans HBk.out hbk); have j0 := HC0.out wk HBk.out; have j1 := HC1.out wk HBk.out; clear hbk)
            | (clear T3; go_at_call 17; refine (HDE.out _ HBk.out).mono ?_; rintro e wk ⟨a9, c9, rfl, h9, hbk⟩; have HR9 := Lib.hid h9; have HBk := Lib.hid (bl_trans HBk.out hbk); have j0 := HC0.out wk HBk.out; have j1 := HC1.out wk HBk.out; clear hbk; clear h9)
            | (clear T4; go_at_call 16; refine (HSE.out _ a9 _ HBk.out HR9.out).mono ?_; rintro e wk ⟨rfl, hbk⟩; have HBk := Lib.hid (bl_trans HBk.out hbk); have j0 := HC0.out wk HBk.out; have j1 := HC1.out wk HBk.out; clear hbk)
            | (clear T5; go_at_call 17; refine (HDN.out _ HBk.out).mono ?_; rintro e wk ⟨a10, c10, rfl, hbk⟩; have HBk := Lib.hid (bl_trans HBk.out hbk); have j0 := HC0.out wk HBk.out; have j1 := HC1.out wk HBk.out; clear hbk)
            | (go_at_call 18; refine (HWK.out _).mono ?_; rintro e wk ⟨rfl, hbk⟩; have HBk := Lib.hid (bl_trans HBk.out hbk); have j0 := HC0.out wk HBk.out; have j1 := HC1.out wk HBk.out; clear hbk))
          go_wp2_with fail
          go_ret
          exact ⟨rfl, HBZ.out.trans (HBk.out.mono HBZ.out.size)⟩
end Go.Proofs.YtmfomjaomhohkaaDoor
