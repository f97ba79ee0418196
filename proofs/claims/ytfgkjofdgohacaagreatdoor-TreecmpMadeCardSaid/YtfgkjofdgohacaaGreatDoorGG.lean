/- The tree of a family: how many inner nodes there are, which names they take (plain). Sets of names in maps of the call's own; has, put. math/bits.TrailingZeros64; cmp.Or of two numbers. slices.SortFunc at numbers that a rank tells apart, on rows of the call's own. slices.SortFunc at places by a rank; the order of sets. The program's children: numbers of sets in the order of their ranks (plain). The growing tree in memory. The comparison of two children. treecmp.build's recursive closure. The rows of children while they are filled. -/
import Derived.Test.YtfgkjofdgohacaaGreatDoorGF
import Derived.Maps.OwnSet
import Derived.Maps.OwnIn
import Derived.Maps.RangeWalk
import Derived.Shelf.Spec.TrailingZeros
import Derived.Test.YtfgkjofdgohacaaGreatDoorGE
import Derived.Test.YtfgkjofdgohacaaGreatDoorGC
namespace Go.Proofs.YtfgkjofdgohacaaGreatDoor
open Go Go.RowKit Go.Shelf Go.Maps
/-- How many names below -n no leaf has. -/
def frC (nm : List ByteArray) : Nat → Nat
  | 0 => 0
  | n + 1 => frC nm n + if dash n ∈ nm then 0 else 1
theorem frC_skip (nm : List ByteArray) (n : Nat) : ∀ k, (∀ j, n ≤ j → j < n + k → dash j ∈ nm) → frC nm (n + k) = frC nm n
  | 0, _ => rfl
  | k + 1, h => by
    show frC nm (n + k) + (if dash (n + k) ∈ nm then 0 else 1) = _
    rw [frC_skip nm n k fun j a b => h j a (by omega), if_pos (h (n + k) (by omega) (by omega))]; rfl
theorem frC_next (nm : List ByteArray) (n : Nat) : frC nm (frN nm n + 1) = frC nm n + 1 := by
  obtain ⟨a, _, b, c⟩ := frN_spec nm n
  show frC nm (frN nm n) + _ = _
  rw [if_neg b]
  obtain ⟨k, hk⟩ : ∃ k, frN nm n = n + k := ⟨frN nm n - n, by omega⟩
  rw [hk] at c ⊢
  rw [frC_skip nm n k c]
theorem frC_tk (nm : List ByteArray) : ∀ n, n = frC nm n + ((List.range n).filter fun j => decide (dash j ∈ nm)).length
  | 0 => rfl
  | n + 1 => by
    have ih := frC_tk nm n
    show n + 1 = frC nm n + (if dash n ∈ nm then 0 else 1) + _
    rw [List.range_succ, List.filter_append, List.length_append]
    by_cases q : dash n ∈ nm <;> simp [q] <;> omega
theorem frC_le (nm : List ByteArray) (n : Nat) : n ≤ frC nm n + nm.length := by
  have h1 := frC_tk nm n
  have h2 := nd_rel (R := fun j b => dash j = b) ((List.range n).filter fun j => decide (dash j ∈ nm)) nm (List.nodup_range.filter _) (fun x hx => by
    rw [List.mem_filter, decide_eq_true_eq] at hx
    exact ⟨dash x, hx.2, rfl⟩) fun x y b _ _ h1 h2 => dash_inj (h1.trans h2.symm)
  omega
/-- How many of some sets are not single leaves. -/
def innL (l : List Nat) : Nat := (l.filter fun x => !oneB x).length
theorem innL_app (l m : List Nat) : innL (l ++ m) = innL l + innL m := by unfold innL; rw [List.filter_append, List.length_append]
theorem foldl_frC (nm : List ByteArray) (g : List Nd × Nat → Nat → List Nd × Nat) (h : Nat → List Nat) : ∀ (l : List Nat) (s : List Nd × Nat), (∀ y s, y ∈ l → frC nm (g s y).2 = frC nm s.2 + innL (h y)) → frC nm (l.foldl g s).2 = frC nm s.2 + innL (l.flatMap h)
  | [], s, _ => by simp [innL]
  | y :: l, s, hg => by
    rw [List.foldl_cons, foldl_frC nm g h l _ fun z s hz => hg z s (by simp [hz]), hg y s (by simp), List.flatMap_cons, innL_app]
    omega
theorem nxG_frC (nm : List ByteArray) (x nx : Nat) : frC nm (nxG nm x nx) = frC nm nx + innL [x] := by
  unfold nxG innL
  cases q : oneB x
  · simp only [Bool.false_eq_true, if_false, frC_next]
    simp [q]
  · simp [q]
theorem grw_frC (nm : List ByteArray) (F : List Nat) : ∀ f x p st, frC nm (grw nm F f x p st).2 = frC nm st.2 + innL (preS F nm.length f x)
  | 0, x, p, st => by simp [grw, preS, innL]
  | f + 1, x, p, st => by
    unfold grw preS
    rw [foldl_frC nm _ (fun y => preS F nm.length f y) _ _ fun y s _ => grw_frC nm F f y _ s]
    have h := innL_app [x] ((kdS F x nm.length).flatMap fun y => preS F nm.length f y)
    rw [List.singleton_append] at h
    rw [h, nxG_frC]
    omega
/-- b is the lowest leaf of a child of x, not of x itself. -/
def KdB (F : List Nat) (x b : Nat) : Prop := x.testBit b = true ∧ b ≠ lo x ∧ ∃ y, Kid F x y ∧ lo y = b
theorem lo_eq {x k : Nat} (h0 : x ≠ 0) (h : x < 2 ^ 64) (h1 : x.testBit k = true) (h2 : ∀ j, x.testBit j = true → k ≤ j) : lo x = k := by
  obtain ⟨a, b, _⟩ := lo_bit h0 h
  have := h2 _ a
  by_cases q : k < lo x
  · rw [b k q] at h1; cases h1
  · omega
theorem lo_le {x k : Nat} (h0 : x ≠ 0) (h : x < 2 ^ 64) (h1 : x.testBit k = true) : lo x ≤ k := by
  obtain ⟨_, b, _⟩ := lo_bit h0 h
  by_cases q : k < lo x
  · rw [b k q] at h1; cases h1
  · omega
theorem kdb_one {F : List Nat} (hF : Lam F) {x z b : Nat} (hz : z ∈ F) (hw : WiN z x) (hx : KdB F x b) (hzb : KdB F z b) : x = z := by
  obtain ⟨h1, h2, y, hy, e⟩ := hx
  obtain ⟨k1, k2, _⟩ := hzb
  by_cases q : z = x
  · exact q.symm
  · have hyb : y.testBit b = true := by rw [← e]; exact (lo_bit (hF.ne y hy.mem) (hF.lt y hy.mem)).1
    have hlo : lo z = b := by
      refine lo_eq (hF.ne z hz) (hF.lt z hz) k1 fun j hj => ?_
      rw [← e]
      rcases hF.nest hy.mem hz hyb k1 with r | r
      · have := hy.max z hz (bw_iff.2 ⟨q, hw⟩) r
        rw [this] at hj
        exact lo_le (hF.ne y hy.mem) (hF.lt y hy.mem) hj
      · exact lo_le (hF.ne y hy.mem) (hF.lt y hy.mem) (r j hj)
    exact absurd hlo.symm k2
theorem kdb_inj {F : List Nat} (hF : Lam F) {x z b : Nat} (hxm : x ∈ F) (hz : z ∈ F) (hx : KdB F x b) (hzb : KdB F z b) : x = z := by
  rcases hF.nest hxm hz hx.1 hzb.1 with q | q
  · exact (kdb_one hF hxm q hzb hx).symm
  · exact kdb_one hF hz q hx hzb
theorem kdb_ex {L : Nat} {F : List Nat} (hH : Hier L F) (hL : L ≤ 64) {x : Nat} (hx : x ∈ F) (h1 : oneB x = false) : ∃ b, b ∈ List.range' 1 (L - 1) ∧ KdB F x b := by
  have hF := hH.lam hL
  have h0 := hF.ne x hx
  have hlt := hF.lt x hx
  obtain ⟨a1, a2, a3⟩ := lo_bit h0 hlt
  have hone : ∀ k, x.testBit k = true → ∃ y, Kid F x y ∧ y.testBit k = true := by
    intro k hk
    have hkL := bit_lt4 (hH.lt x hx) hk
    have hne : 2 ^ k ≠ x := fun e => by rw [← e, oneB_pow (by omega)] at h1; cases h1
    obtain ⟨y, hy, hw⟩ := kid_ex hF (hH.one k hkL) (bw_iff.2 ⟨hne, one_wi hk⟩)
    exact ⟨y, hy, hw k Nat.testBit_two_pow_self⟩
  obtain ⟨y1, hy1, hb1⟩ := hone _ a1
  have hbw1 := bw_iff.1 hy1.bw
  have hd0 : x ^^^ y1 ≠ 0 := fun e => hbw1.1 (by
    apply Nat.eq_of_testBit_eq
    intro i
    have := congrArg (fun u => u.testBit i) e
    simp only [Nat.testBit_xor, Nat.zero_testBit] at this
    cases p : x.testBit i <;> cases r : y1.testBit i <;> rw [p, r] at this <;> first | rfl | (cases this))
  have hdl : x ^^^ y1 < 2 ^ 64 := Nat.xor_lt_two_pow hlt (hF.lt y1 hy1.mem)
  have hdb : ∀ i, (x ^^^ y1).testBit i = true ↔ x.testBit i = true ∧ y1.testBit i = false := by
    intro i
    rw [Nat.testBit_xor]
    cases r : y1.testBit i
    · simp
    · rw [hbw1.2 i r]; simp
  obtain ⟨c1, c2, c3⟩ := lo_bit hd0 hdl
  obtain ⟨d1, d2⟩ := (hdb _).1 c1
  obtain ⟨y2, hy2, hb2⟩ := hone _ d1
  have hne : ∀ k, y2.testBit k = true → y1.testBit k = false := by
    intro k hk
    cases r : y1.testBit k
    · rfl
    · have e := hy1.same hF hy2 r hk
      have d3 := congrArg (fun u => u.testBit (lo (x ^^^ y1))) e
      simp only [d2, hb2] at d3
      cases d3
  have hlo : lo y2 = lo (x ^^^ y1) := by
    refine lo_eq (hF.ne _ hy2.mem) (hF.lt _ hy2.mem) hb2 fun j hj => ?_
    exact lo_le hd0 hdl ((hdb j).2 ⟨(bw_iff.1 hy2.bw).2 j hj, hne j hj⟩)
  have hcl : lo (x ^^^ y1) ≠ lo x := fun e => by rw [e, hb1] at d2; cases d2
  have h5 := lo_le h0 hlt d1
  have h6 := bit_lt4 (hH.lt x hx) d1
  refine ⟨lo (x ^^^ y1), ?_, d1, hcl, y2, hy2, hlo⟩
  rw [List.mem_range'_1]
  omega
/-- There are fewer inner nodes than leaves. -/
theorem inn_few {L : Nat} {F : List Nat} (hH : Hier L F) (hL : L ≤ 64) {l : List Nat} (hn : l.Nodup) (hs : ∀ x, x ∈ l → x ∈ F) : innL l ≤ L - 1 := by
  have h := nd_rel (R := KdB F) (l.filter fun x => !oneB x) (List.range' 1 (L - 1)) (hn.filter _) (fun x hx => by
    rw [List.mem_filter, Bool.not_eq_true'] at hx
    exact kdb_ex hH hL (hs x hx.1) hx.2) fun x y b hx hy h1 h2 => kdb_inj (hH.lam hL) (hs x (List.mem_filter.1 hx).1) (hs y (List.mem_filter.1 hy).1) h1 h2
  rw [List.length_range'] at h
  exact h
/-- Up to where names can be sought. -/
theorem nx_le {nm : List ByteArray} {n k : Nat} (h : frC nm n ≤ k) : n ≤ k + nm.length := by
  have := frC_le nm n
  omega
/-- Which names nodes have taken. -/
structure NmI (nm : List ByteArray) (st : List Nd × Nat) : Prop where
  own : ∀ u, u ∈ st.1 → u.2 ∈ nm ∨ ∃ m, m < st.2 ∧ u.2 = dash m
  tak : ∀ m, m < st.2 → dash m ∈ nm ∨ ∃ u, u ∈ st.1 ∧ u.2 = dash m
theorem NmI.nil (nm : List ByteArray) : NmI nm ([], 0) := ⟨fun u h => by simp at h, fun m h => by simp at h⟩
theorem sA_mem {l : List ByteArray} {i : Nat} (h : i < l.length) : sA l i ∈ l := by
  unfold sA
  rw [List.getD_eq_getElem?_getD, List.getElem?_eq_getElem h]
  exact List.getElem_mem h
theorem NmI.push {nm : List ByteArray} {st : List Nd × Nat} (h : NmI nm st) {x : Nat} (p : Int) (hx : lo x < nm.length) : NmI nm (st.1 ++ [(p, nmG nm x st.2)], nxG nm x st.2) := by
  obtain ⟨a, _, b, c⟩ := frN_spec nm st.2
  cases q : oneB x
  · have e1 : nmG nm x st.2 = dash (frN nm st.2) := by unfold nmG; rw [q]; rfl
    have e2 : nxG nm x st.2 = frN nm st.2 + 1 := by unfold nxG; rw [q]; rfl
    rw [e1, e2]
    refine ⟨fun u hu => ?_, fun m hm => ?_⟩
    · rcases List.mem_append.1 hu with hu | hu
      · rcases h.own u hu with r | ⟨m, r1, r2⟩
        · exact .inl r
        · exact .inr ⟨m, Nat.lt_of_lt_of_le r1 (Nat.le_succ_of_le a), r2⟩
      · rw [List.mem_singleton.1 hu]
        exact .inr ⟨_, Nat.lt_succ_self _, rfl⟩
    · by_cases r : m < st.2
      · rcases h.tak m r with s | ⟨u, s1, s2⟩
        · exact .inl s
        · exact .inr ⟨u, List.mem_append_left _ s1, s2⟩
      · by_cases s : m = frN nm st.2
        · exact .inr ⟨(p, dash (frN nm st.2)), by simp, by rw [s]⟩
        · exact .inl (c m (by omega) (by have : m < frN nm st.2 + 1 := hm; omega))
  · have e1 : nmG nm x st.2 = sA nm (lo x) := by unfold nmG; rw [q]; rfl
    have e2 : nxG nm x st.2 = st.2 := by unfold nxG; rw [q]; rfl
    rw [e1, e2]
    refine ⟨fun u hu => ?_, fun m hm => ?_⟩
    · rcases List.mem_append.1 hu with hu | hu
      · exact h.own u hu
      · rw [List.mem_singleton.1 hu]
        exact .inl (sA_mem hx)
    · rcases h.tak m hm with s | ⟨u, s1, s2⟩
      · exact .inl s
      · exact .inr ⟨u, List.mem_append_left _ s1, s2⟩
theorem foldl_inv {α β : Type} {P : β → Prop} (g : β → α → β) : ∀ (l : List α) (s : β), P s → (∀ y s, y ∈ l → P s → P (g s y)) → P (l.foldl g s)
  | [], _, h, _ => h
  | y :: l, s, h, hg => foldl_inv g l (g s y) (hg y s (by simp) h) fun z s hz => hg z s (by simp [hz])
theorem NmI.grw {nm : List ByteArray} {F : List Nat} (hF : Lam F) (hL : ∀ x, x ∈ F → x < 2 ^ nm.length) : ∀ (f x : Nat) (p : Int) (st : List Nd × Nat), x ∈ F → NmI nm st → NmI nm (Go.Proofs.YtfgkjofdgohacaaGreatDoor.grw nm F f x p st)
  | 0, _, _, _, _, h => h
  | f + 1, x, p, st, hx, h => by
    unfold Go.Proofs.YtfgkjofdgohacaaGreatDoor.grw
    refine foldl_inv _ _ _ (h.push p ?_) fun y s hy hs => NmI.grw hF hL f y _ s ((kdS_mem hF hL).1 hy).mem hs
    exact bit_lt4 (hL x hx) (lo_bit (hF.ne x hx) (hF.lt x hx)).1
/-- The document's search for a name: from 0 on, what neither a leaf nor a node has. -/
theorem NmI.search {nm : List ByteArray} {st : List Nd × Nat} (h : NmI nm st) : (dash (frN nm st.2) ∉ nm ∧ ∀ u, u ∈ st.1 → u.2 ≠ dash (frN nm st.2)) ∧ ∀ j, j < frN nm st.2 → dash j ∈ nm ∨ ∃ u, u ∈ st.1 ∧ u.2 = dash j := by
  obtain ⟨a, _, b, c⟩ := frN_spec nm st.2
  refine ⟨⟨b, fun u hu e => ?_⟩, fun j hj => ?_⟩
  · rcases h.own u hu with r | ⟨m, r1, r2⟩
    · rw [e] at r; exact b r
    · rw [e] at r2
      have := dash_inj r2
      omega
  · by_cases r : j < st.2
    · exact h.tak j r
    · exact .inl (c j (by omega) hj)
end Go.Proofs.YtfgkjofdgohacaaGreatDoor
namespace Go.Proofs.YtfgkjofdgohacaaGreatDoor
open Go Go.RowKit Go.Maps
abbrev memB4 := decMemB
theorem lawN : Keyed Tryz.prog 9 := string_keyed Tryz.underlying9
/-- A name as a key. -/
def kN (x : ByteArray) : Lit := .string x.data.toList
theorem kN_inj {x y : ByteArray} (h : kN x = kN y) : x = y := strLit_inj.1 h
theorem kN_key {x : ByteArray} (hx : x.size ≤ maxLen) : keyOf Tryz.prog 9 (.string x) = some (kN x) := Go.WideMaps.keyOf_string_mk Tryz.underlying9 hx
/-- Block b is a set that holds S. -/
structure MN (w : World) (b n : Nat) (S : List ByteArray) : Prop where
  ex : ∃ D : DataW Unit, w.ownsMap Tryz.prog 9 unitElem b n D ∧ (∀ x : ByteArray, has D (kN x) = decide (x ∈ S)) ∧ Maps.size D = S.length
  nd : S.Nodup
  lt : ∀ x, x ∈ S → x.size ≤ maxLen
theorem MN.made (w : World) : MN (w.alloc (.map #[] 0)) w.heap.size 0 [] := ⟨⟨_, World.ownsMap_made w _ _ _, fun _ => rfl, rfl⟩, List.nodup_nil, fun x h => absurd h (by simp)⟩
theorem MN.kept {w w' : World} {b n : Nat} {S : List ByteArray} {row : Option Nat} (h : MN w b n S) (hg : w.grownBy w' row) (hne : some b ≠ row) : MN w' b n S := let ⟨D, h1, h2, h3⟩ := h.ex; ⟨⟨D, h1.kept hg hne, h2, h3⟩, h.nd, h.lt⟩
theorem MN.alloc {w : World} {b n : Nat} {S : List ByteArray} (h : MN w b n S) (o : Obj) : MN (w.alloc o) b n S := let ⟨D, h1, h2, h3⟩ := h.ex; ⟨⟨D, h1.alloc o, h2, h3⟩, h.nd, h.lt⟩
theorem MN.mono {w : World} {b n n' : Nat} {S : List ByteArray} (h : MN w b n S) (hn : n ≤ n') : MN w b n' S := let ⟨D, h1, h2, h3⟩ := h.ex; ⟨⟨D, h1.mono hn, h2, h3⟩, h.nd, h.lt⟩
theorem MN.blk {w : World} {b n : Nat} {S : List ByteArray} (h : MN w b n S) : ∃ es c, w.heap[b]? = some (.map es c) := let ⟨_, ⟨es, c, h1, _⟩, _⟩ := h.ex; ⟨es, c, h1⟩
theorem MN.blt {w : World} {b n : Nat} {S : List ByteArray} (h : MN w b n S) : b < w.heap.size := let ⟨_, _, e⟩ := h.blk; (Array.getElem?_eq_some_iff.1 e).1
theorem MN.at {w w' : World} {b n : Nat} {S : List ByteArray} (h : MN w b n S) (he : w'.heap[b]? = w.heap[b]?) : MN w' b n S := by
  obtain ⟨D, ⟨es, clock, h1, h2⟩, h3, h4⟩ := h.ex
  exact ⟨⟨D, ⟨es, clock, he.trans h1, h2⟩, h3, h4⟩, h.nd, h.lt⟩
theorem MN.bl {w w' : World} {b n : Nat} {S : List ByteArray} (h : MN w b n S) (hb : Below w.heap.size w w') : MN w' b n S := h.at (hb.block b h.blt)
theorem MN.set {w : World} {b n : Nat} {S : List ByteArray} (h : MN w b n S) (a : Addr) (v : Value) : MN (w.setCell a v) b n S := by
  obtain ⟨es, c, hb⟩ := h.blk
  refine h.at ?_
  by_cases e : b = a.block
  · subst e
    rw [hb]
    show (w.heap.modify a.block _)[a.block]? = _
    rw [Array.getElem?_modify, if_pos rfl, hb]; rfl
  · exact Below.heap_setCell w a v b e
theorem MN.le {w : World} {b n : Nat} {S : List ByteArray} (h : MN w b n S) : S.length ≤ n := by
  obtain ⟨D, h1, _, h3⟩ := h.ex
  rw [← h3]; exact h1.size_le
theorem zeroTN (w : World) : (zeroValue 128).run Tryz.prog w = .ok (.agg #[]) w := by kernel_rfl
theorem MN.ask {w : World} {b n : Nat} {S : List ByteArray} (h : MN w b n S) (x : ByteArray) (hx : x.size ≤ maxLen) : (Instr.lookup 95 (.map (some b)) (.string x) true).run Tryz.prog w = .ok (.tuple #[.agg #[], .bool (decide (x ∈ S))]) w := by
  obtain ⟨D, h1, h2, _⟩ := h.ex
  obtain ⟨v, ps, hrun, hv⟩ := h1.look_ok lawN Tryz.underlying95 (zeroTN w) (unitElem_mk) (kN_key hx)
  obtain ⟨rfl, _⟩ := unitElem_inv hv
  rw [← h2 x]; exact hrun
theorem MN.len {w : World} {b n : Nat} {S : List ByteArray} (h : MN w b n S) (ty : TypeId) : (Builtin.len_ #[95] ty #[.map (some b)]).run Tryz.prog w = .ok (.int .i64 (S.length : Int)) w := by
  obtain ⟨D, h1, _, h3⟩ := h.ex
  rw [← h3]; exact h1.len Tryz.underlying95 ty
/-- A set with one more. -/
def addN (S : List ByteArray) (x : ByteArray) : List ByteArray := if x ∈ S then S else S ++ [x]
theorem addN_mem (S : List ByteArray) (x y : ByteArray) : y ∈ addN S x ↔ y ∈ S ∨ y = x := by
  unfold addN
  by_cases h : x ∈ S
  · rw [if_pos h]
    exact ⟨.inl, fun h2 => by rcases h2 with h2 | h2; exact h2; rw [h2]; exact h⟩
  · rw [if_neg h]; simp
theorem addN_nd {S : List ByteArray} (h : S.Nodup) (x : ByteArray) : (addN S x).Nodup := by
  unfold addN
  by_cases q : x ∈ S
  · rw [if_pos q]; exact h
  · rw [if_neg q, List.nodup_append]
    exact ⟨h, by simp, fun a ha b hb e => by rw [List.mem_singleton.1 hb] at e; rw [e] at ha; exact q ha⟩
theorem MN.put_of {w w' : World} {b n : Nat} {x : ByteArray} {S : List ByteArray} {D : DataW Unit} (h : MN w b n S) (hx : x.size ≤ maxLen) (hD : w.ownsMap Tryz.prog 9 unitElem b n D) (h2 : ∀ x : ByteArray, has D (kN x) = decide (x ∈ S)) (h3 : Maps.size D = S.length) (hD' : w'.ownsMap Tryz.prog 9 unitElem b (n + 1) (D.put (kN x) (.agg []))) : MN w' b (n + 1) (addN S x) := by
  refine ⟨⟨_, hD', fun y => ?_, ?_⟩, addN_nd h.nd x, fun y hy => ?_⟩
  · rw [Bool.eq_iff_iff, decide_eq_true_eq, addN_mem]
    by_cases e : y = x
    · subst e
      rw [has_put_same hD.isMap (lawN.key (kN_key hx)) _]
      simp
    · rw [has_put_other (fun e2 => e (kN_inj e2)), h2, decide_eq_true_eq]
      exact ⟨.inl, fun q => q.resolve_right e⟩
  · rw [size_put (hD.tidy lawN), h2, h3]
    unfold addN
    by_cases q : x ∈ S
    · rw [if_pos q, if_pos (by simpa using q)]
    · rw [if_neg q, if_neg (by simpa using q)]; simp
  · rcases (addN_mem S x y).1 hy with q | q
    · exact h.lt y q
    · rw [q]; exact hx
theorem wpList_putN {w : World} {ops : Array Oper} {rest : List Oper} {o : Oper} {a : Act} {Q : Exit → Act → World → Prop} (hg : o.guard = none) (m x v : Operand) (hop : o.op = Op.mapUpdate 95 m x v) (b n : Nat) (S : List ByteArray) (hm : a.eval m = .map (some b)) (h : MN w b n S) (hn : n < 1152921504606846976)
    (z : ByteArray) (hx : a.eval x = .string z) (hv : a.eval v = .agg #[]) (hz : z.size ≤ maxLen) (hK : ∀ w', MN w' b (n + 1) (addN S z) → w.grownBy w' (some b) → wpList Tryz.prog ops Q rest (a.put o.dst undef) w') : wpList Tryz.prog ops Q (o :: rest) a w := by
  obtain ⟨D, h1, h2, h3⟩ := h.ex
  refine wpList_mapUpdate_own w hg m x v 95 hop 9 128 lawN Tryz.underlying95 _ b n D hm h1 (by unfold maxLen; omega) _ _ _ hx hv (kN_key hz) _ [] unitElem_mk fun w' h5 h4 => hK w' (h.put_of hz h1 h2 h3 h5) h4
theorem wpListIn_putN {F : Fence} {d : Nat} {w : World} {ops : Array Oper} {rest : List Oper} {o : Oper} {a : Act} {Q : Exit → Act → World → Prop} (hg : o.guard = none) (m x v : Operand) (hop : o.op = Op.mapUpdate 95 m x v) (b n : Nat) (S : List ByteArray) (hm : a.eval m = .map (some b)) (h : MN w b n S) (hn : n < 1152921504606846976)
    (z : ByteArray) (hx : a.eval x = .string z) (hv : a.eval v = .agg #[]) (hz : z.size ≤ maxLen) (hK : ∀ w', MN w' b (n + 1) (addN S z) → w.grownBy w' (some b) → wpListIn F d Tryz.prog ops Q rest (a.put o.dst undef) w') : wpListIn F d Tryz.prog ops Q (o :: rest) a w := by
  obtain ⟨D, h1, h2, h3⟩ := h.ex
  refine wpListIn_mapUpdate_own w hg m x v 95 hop 9 128 lawN Tryz.underlying95 _ b n D hm h1 (by unfold maxLen; omega) _ _ _ hx hv (kN_key hz) _ [] unitElem_mk fun w' h5 h4 => hK w' (h.put_of hz h1 h2 h3 h5) h4
set_option maxHeartbeats 2000000 in
theorem hasN_any (b n : Nat) (x : ByteArray) (S : List ByteArray) (w : World) (h : MN w b n S) (hx : x.size ≤ maxLen) :
    Calls Tryz.prog 67 #[.map (some b), .string x] w fun e w' => e = .returned (.bool (decide (x ∈ S))) ∧ w' = w.alloc (.cells #[] 128) := by
  have hlk := h.ask x hx
  obtain ⟨c, hc⟩ : ∃ c, c = decide (x ∈ S) := ⟨_, rfl⟩
  rw [← hc] at hlk ⊢
  clear hc h
  go_enter Tryz.func67, Tryz.ntmps67
  go_wp2_with fail
  go_ret
  exact ⟨rfl, rfl⟩
/-- A set with the numbers of a list. -/
def addM (S l : List ByteArray) : List ByteArray := l.foldl addN S
theorem addM_snoc (S l : List ByteArray) (x : ByteArray) : addM S (l ++ [x]) = addN (addM S l) x := by simp [addM]
theorem addM_mem (S l : List ByteArray) (y : ByteArray) : y ∈ addM S l ↔ y ∈ S ∨ y ∈ l := by
  refine snoc_rec (P := fun l => y ∈ addM S l ↔ y ∈ S ∨ y ∈ l) (by simp [addM]) (fun l x ih => ?_) l
  rw [addM_snoc, addN_mem, ih]
  simp [or_assoc]
theorem addM_nd {S : List ByteArray} (h : S.Nodup) (l : List ByteArray) : (addM S l).Nodup :=
  snoc_rec (P := fun l => (addM S l).Nodup) (by simpa [addM] using h) (fun l x ih => by rw [addM_snoc]; exact addN_nd ih x) l
theorem take_snocN {l : List ByteArray} {k : Nat} (h : k < l.length) : l.take (k + 1) = l.take k ++ [sA l k] := by
  rw [List.take_succ_eq_append_getElem h]
  simp [sA, h]
set_option maxRecDepth 100000 in
set_option maxHeartbeats 2000000 in
theorem putN_any (b n : Nat) (S : List ByteArray) (a : Option Addr) (N c : Nat) (l : List ByteArray) (w : World) (h : MN w b n S) (hl : l.length = N) (hN : N ≤ 1048576) (hn : n ≤ 1048576) (hA : Rd w a (fl encS l)) (hF : ∀ i, i < N → (sA l i).size ≤ maxLen) :
    Calls Tryz.prog 68 #[.map (some b), .slice a N c] w fun e w' => e = .returned (.tuple #[]) ∧ MN w' b (n + N) (addM S l) ∧ w.grownBy w' (some b) := by
  have HL := Lib.hid hl
  have HA := Lib.hid hA
  have HF := Lib.hid hF
  have HM := Lib.hid h
  have HG : Hid (w.grownBy w (some b)) := ⟨rfl, rfl, rfl, Nat.le_refl _, fun _ _ _ => rfl⟩
  obtain ⟨es, cl, hbk⟩ := h.blk
  have HBK := Lib.hid hbk
  clear h hl hA hF hbk
  go_enter Tryz.func68, Tryz.ntmps68
  go_wp2_with fail
  go_loopw [8, 5] (fun x _ wr => ∃ k : Nat, k ≤ N ∧ x = .int .i64 k ∧ Hid (MN wr b (n + k) (addM S (l.take k))) ∧ Hid (w.grownBy wr (some b))) (fun x _ _ => N - (intOf x).toNat)
  case atStart => exact ⟨0, by omega, rfl, (by show MN w b (n + 0) (addM S (l.take 0)); exact HM.out), HG⟩
  case round =>
    clear HM HG
    obtain ⟨k, hk, rfl, HM, HG⟩ := hrel
    by_cases hlt : k < N
    · have HR : Hid (Rd wr a (fl encS l)) := by
        intro h0
        obtain ⟨bb, off, e, hlt2, hc⟩ := HA.out h0
        have hbb : bb ≠ b := fun e2 => by
          have h1 := hc 0 (by omega)
          subst e2
          simp [World.cell?, HBK.out] at h1
        exact ⟨bb, off, e, Nat.lt_of_lt_of_le hlt2 HG.out.size, fun i hi => by
          rw [← hc i hi]
          simp only [World.cell?]
          rw [HG.out.block bb hlt2 (fun e2 => hbb (Option.some.inj e2))]⟩
      obtain ⟨bb, o, rfl, hb, hc⟩ := rdS HR.out (by rw [HL.out]; omega)
      have G := hc k (by rw [HL.out]; exact hlt)
      have hz := HF.out k hlt
      have HNX : Hid (addN (addM S (l.take k)) (sA l k) = addM S (l.take (k + 1))) := by
        show _ = _
        rw [take_snocN (by rw [HL.out]; exact hlt), addM_snoc]
      clear hc
      generalize sA l k = z at *
      go_wp2_with (refine wpList_putN rfl (.tmp 12) (.tmp 13) (.tmp 14) rfl b (n + k) _ rfl HM.out (by omega) z rfl rfl hz ?_; intro w2 hm2 hg2; have HM2 := Lib.hid hm2; have HG2 := Lib.hid hg2; clear hm2 hg2)
      go_roundw
      case rel => exact ⟨k + 1, by omega, by go_num, by rw [← HNX.out]; exact HM2.out, ⟨HG2.out.os.trans HG.out.os, HG2.out.tape.trans HG.out.tape, HG2.out.output.trans HG.out.output, Nat.le_trans HG.out.size HG2.out.size, fun i hi hne => (HG2.out.block i (Nat.lt_of_lt_of_le hi HG.out.size) hne).trans (HG.out.block i hi hne)⟩⟩
      case measure => simp [intOf]; omega
    · obtain rfl : k = N := by omega
      go_wp2_with fail
      go_end0
      refine ⟨rfl, ?_, HG.out⟩
      have h := HM.out
      rw [List.take_of_length_le (by rw [HL.out]; exact Nat.le_refl _)] at h
      exact h
end Go.Proofs.YtfgkjofdgohacaaGreatDoor
namespace Go.Proofs.YtfgkjofdgohacaaGreatDoor
open Go Go.RowKit Go.Shelf Go.Maps
/-- The table of TrailingZeros64 in its variable. -/
def TzG (w : World) : Prop := TabAt 0 Lib.deBruijn64tab w
theorem TzG.bl {w W : World} (h : TzG w) (hb : Below w.heap.size w W) : TzG W := fun j hj => by
  have h1 := h j hj
  have hz : 0 < w.heap.size := by
    by_cases q : 0 < w.heap.size
    · exact q
    · have e : w.heap.size = 0 := by omega
      simp [World.cell?, e] at h1
  rw [hb.cell (p := ⟨0, j, none⟩) hz]
  exact h1
set_option maxHeartbeats 1000000 in
theorem tz_core (x k idx : Nat) (w : World) (hx0 : ((x : Int) == 0) = false)
    (key : IntKind.u64.wrap (bits BinOp.and IntKind.u64 (x : Int) (IntKind.u64.wrap (-(x : Int))) * 285870213051353865) / 288230376151711744 = (idx : Int))
    (hi : idx < 64) (hk : k < 64) (hcell : w.cell? ⟨0, idx, none⟩ = some (.int .u8 k)) :
    Calls Tryz.prog 100 #[.int .u64 x] w fun e w' => e = .returned (.int .i64 k) ∧ w' = w := by
  go_enter Tryz.func100, Tryz.ntmps100
  go_wp2_with (simp only [key])
  go_ret
  exact ⟨rfl, rfl⟩
theorem tz_any (x : Nat) (w : World) (h0 : x ≠ 0) (hx : x < 18446744073709551616) (hT : TzG w) :
    Calls Tryz.prog 100 #[.int .u64 x] w fun e w' => e = .returned (.int .i64 (lo x : Nat)) ∧ w' = w := by
  obtain ⟨hlow, hk⟩ := Lib.lowest_bit 64 x h0 hx
  obtain ⟨hi, htab⟩ := Lib.deBruijn64_at _ hk
  have hcell := hT _ hi
  rw [htab] at hcell
  exact tz_core x _ _ w (by simp; omega) (tz64_key x _ hx h0 hlow) hi hk hcell
/-- The first that is not zero. -/
def orI (a b : Int) : Int := if a = 0 then b else a
set_option maxHeartbeats 1000000 in
theorem or_any (B : Nat) (a b : Int) (w : World) (hB : Blk w B #[.int .i64 a, .int .i64 b] 3) :
    Calls Tryz.prog 99 #[.slice (some ⟨B, 0, none⟩) 2 2] w fun e w' => e = .returned (.int .i64 (orI a b)) ∧ w' = w := by
  have c0 : w.cell? ⟨B, 0, none⟩ = some (.int .i64 a) := hB.cell 0
  have c1 : w.cell? ⟨B, 1, none⟩ = some (.int .i64 b) := hB.cell 1
  go_enter Tryz.func99, Tryz.ntmps99
  go_wp2_with fail
  go_loopw [8, 5] (fun x _ wr => ∃ k : Nat, k ≤ 2 ∧ x = .int .i64 k ∧ Hid ((0 < k → a = 0) ∧ (1 < k → b = 0)) ∧ wr = w) (fun x _ _ => 2 - (intOf x).toNat)
  case atStart => exact ⟨0, by omega, rfl, ⟨fun h => absurd h (by omega), fun h => absurd h (by omega)⟩, rfl⟩
  case round =>
    obtain ⟨k, hk, rfl, HE, rfl⟩ := hrel
    obtain rfl | rfl | rfl : k = 0 ∨ k = 1 ∨ k = 2 := by omega
    · by_cases ha : a = 0
      · have HE2 : Hid ((0 < 1 → a = 0) ∧ (1 < 1 → b = 0)) := ⟨fun _ => ha, fun h => absurd h (by omega)⟩
        have t1 : (a != 0) = false := by simp [ha]
        have t2 : (a == 0) = true := by simp [ha]
        clear ha HE
        go_wp2_with fail
        exact ⟨⟨1, by omega, by go_num, HE2, trivial⟩, by simp [intOf]⟩
      · have HV : Hid (orI a b = a) := if_neg ha
        have t1 : (a != 0) = true := by simp [ha]
        have t2 : (a == 0) = false := by simp [ha]
        clear ha HE
        go_wp2_with fail
        go_ret
        exact ⟨by rw [HV.out]; rfl, rfl⟩
    · have HV : Hid (orI a b = b) := if_pos (HE.out.1 (by omega))
      by_cases hb : b = 0
      · have HE2 : Hid ((0 < 2 → a = 0) ∧ (1 < 2 → b = 0)) := ⟨fun _ => HE.out.1 (by omega), fun _ => hb⟩
        have t1 : (b != 0) = false := by simp [hb]
        have t2 : (b == 0) = true := by simp [hb]
        clear hb HE
        go_wp2_with fail
        exact ⟨⟨2, by omega, by go_num, HE2, trivial⟩, by simp [intOf]⟩
      · have t1 : (b != 0) = true := by simp [hb]
        have t2 : (b == 0) = false := by simp [hb]
        clear hb HE
        go_wp2_with fail
        go_ret
        exact ⟨by rw [HV.out]; rfl, rfl⟩
    · have HV : Hid (orI a b = 0) := by
        show _ = _
        unfold orI
        rw [if_pos (HE.out.1 (by omega))]
        exact HE.out.2 (by omega)
      clear HE
      go_wp2_with fail
      go_ret
      exact ⟨by rw [HV.out]; rfl, rfl⟩
/-- The program's order of sets: greater ones first, then by the lowest leaves. -/
def cmS (x y : Nat) : Int := orI ((cntB y 64 : Int) - (cntB x 64 : Int)) ((lo x : Int) - (lo y : Int))
set_option maxHeartbeats 1000000 in
theorem cmS_any (x y : Nat) (w : World) (h0 : x ≠ 0) (hx : x < 18446744073709551616) (k0 : y ≠ 0) (hy : y < 18446744073709551616) (hT : TzG w) :
    Calls Tryz.prog 98 #[.int .u64 x, .int .u64 y] w fun e w' => e = .returned (.int .i64 (cmS x y)) ∧ ∃ o : Obj, w' = w.alloc o := by
  have H1 := Lib.hid (ones_any y w hy)
  have H2 := Lib.hid (ones_any x w hx)
  have H3 := Lib.hid (tz_any x w h0 hx hT)
  have H4 := Lib.hid (tz_any y w k0 hy hT)
  have hc1 := cntB_le y 64
  have hc2 := cntB_le x 64
  have hl1 := (lo_bit h0 hx).2.2
  have hl2 := (lo_bit k0 hy).2.2
  have HO := Lib.hid (fun (a b : Int) => or_any w.heap.size a b (w.alloc (.cells #[.int .i64 a, .int .i64 b] 3)) (Blk.new _ _ _))
  unfold cmS
  generalize cntB y 64 = cy at *
  generalize cntB x 64 = cx at *
  generalize lo x = lx at *
  generalize lo y = ly at *
  clear hT h0 hx k0 hy
  go_enter Tryz.func98, Tryz.ntmps98
  go_wp2_with fail
  refine H1.out.mono ?_
  rintro e w1 ⟨rfl, rfl⟩
  go_wp2_with fail
  refine H2.out.mono ?_
  rintro e w1 ⟨rfl, rfl⟩
  go_wp2_with fail
  refine H3.out.mono ?_
  rintro e w1 ⟨rfl, rfl⟩
  go_wp2_with fail
  refine H4.out.mono ?_
  rintro e w1 ⟨rfl, rfl⟩
  have hw1 : IntKind.i64.wrap ((cy : Int) - (cx : Int)) = (cy : Int) - (cx : Int) := IntWalk.i64_in _ ⟨by omega, by omega⟩
  have hw2 : IntKind.i64.wrap ((lx : Int) - (ly : Int)) = (lx : Int) - (ly : Int) := IntWalk.i64_in _ ⟨by omega, by omega⟩
  go_wp2_with fail
  refine (HO.out _ _).mono ?_
  rintro e w2 ⟨rfl, rfl⟩
  go_wp2_with fail
  go_ret
  exact ⟨rfl, _, rfl⟩
end Go.Proofs.YtfgkjofdgohacaaGreatDoor
namespace Go.Proofs.YtfgkjofdgohacaaGreatDoor
open Go Go.RowKit Go.Shelf Go.Sort Go.Lib
def subL (F xs : List Nat) (h : ∀ x, x ∈ xs → x ∈ F) : List {x : Nat // x ∈ F} := xs.pmap (fun x hx => ⟨x, hx⟩) h
theorem subL_val {F xs : List Nat} (h : ∀ x, x ∈ xs → x ∈ F) : (subL F xs h).map Subtype.val = xs := by simp [subL, List.map_pmap]
/-- The comparison of members, by a rank. -/
structure RkOk (F : List Nat) (cf : Nat → Nat → Int) (r : Nat → Nat) : Prop where
  lt : ∀ x y, x ∈ F → y ∈ F → (cf x y < 0 ↔ r x < r y)
  inj : ∀ x y, x ∈ F → y ∈ F → r x = r y → x = y
def cfM (F : List Nat) (cf : Nat → Nat → Int) (x y : {x : Nat // x ∈ F}) : Int := cf x.val y.val
theorem RkOk.ltOf {F : List Nat} {cf : Nat → Nat → Int} {r : Nat → Nat} (h : RkOk F cf r) (x y : {x : Nat // x ∈ F}) : Go.Proofs.ltOf (cfM F cf) x y = decide (r x.val < r y.val) := by
  unfold Go.Proofs.ltOf cfM
  rw [Bool.eq_iff_iff, decide_eq_true_eq, decide_eq_true_eq]
  exact h.lt _ _ x.2 y.2
theorem RkOk.swo {F : List Nat} {cf : Nat → Nat → Int} {r : Nat → Nat} (h : RkOk F cf r) : SWO (Go.Proofs.ltOf (cfM F cf)) :=
  ⟨fun x => by rw [h.ltOf]; simp, fun x y z => by rw [h.ltOf, h.ltOf, h.ltOf]; simp; omega, fun x y z => by rw [h.ltOf, h.ltOf, h.ltOf]; simp; omega⟩
theorem RkOk.tot {F : List Nat} {cf : Nat → Nat → Int} {r : Nat → Nat} (h : RkOk F cf r) (x y : {x : Nat // x ∈ F}) (h1 : (Go.Proofs.ltOf (cfM F cf)) x y = false) (h2 : (Go.Proofs.ltOf (cfM F cf)) y x = false) : x = y := by
  rw [h.ltOf] at h1 h2
  simp at h1 h2
  exact Subtype.ext (h.inj _ _ x.2 y.2 (by omega))
def srtR (F : List Nat) (cf : Nat → Nat → Int) (l : List {x : Nat // x ∈ F}) : List {x : Nat // x ∈ F} := l.mergeSort fun x y => !(Go.Proofs.ltOf (cfM F cf)) y x
theorem srtR_spec {F xs : List Nat} {cf : Nat → Nat → Int} {r : Nat → Nat} (h : RkOk F cf r) (hm : ∀ x, x ∈ xs → x ∈ F) (hnd : xs.Nodup) :
    ((srtR F cf (subL F xs hm)).map Subtype.val).Perm xs ∧ ((srtR F cf (subL F xs hm)).map Subtype.val).Pairwise (fun a b => r a < r b) := by
  have hp : ((srtR F cf (subL F xs hm)).map Subtype.val).Perm xs := by
    have := (List.mergeSort_perm (subL F xs hm) fun x y => !(Go.Proofs.ltOf (cfM F cf)) y x).map Subtype.val
    rw [subL_val] at this
    exact this
  refine ⟨hp, ?_⟩
  have h1 : (srtR F cf (subL F xs hm)).Pairwise (fun x y => r x.val ≤ r y.val) := by
    have := List.pairwise_mergeSort (le := fun x y : {x : Nat // x ∈ F} => !(Go.Proofs.ltOf (cfM F cf)) y x) (fun a b c h1 h2 => by simp only [h.ltOf] at *; simp at *; omega) (fun a b => by simp only [h.ltOf]; simp; omega) (subL F xs hm)
    refine this.imp fun {a b} q => ?_
    rw [h.ltOf] at q
    simp at q
    exact q
  have h2 := hp.nodup_iff.2 hnd
  have h3 : ((srtR F cf (subL F xs hm)).map Subtype.val).Pairwise (fun a b => r a ≤ r b) := List.pairwise_map.2 h1
  have h4 := h3.and h2
  refine List.Pairwise.imp_of_mem (fun {a b} ha hb q => ?_) h4
  have h5 : r a ≠ r b := fun e => q.2 (h.inj a b (hm a (hp.mem_iff.1 ha)) (hm b (hp.mem_iff.1 hb)) e)
  omega
theorem alloc_grow (W : World) (o : Obj) : ∃ q os, W.alloc o = grow (W.drewN q) os := ⟨0, #[o], by rw [alloc_eq_grow]; rfl⟩
def encM (F : List Nat) (x : {x : Nat // x ∈ F}) : Value := .int .u64 (x.val : Int)
def encMI (F : List Nat) (x : {x : Nat // x ∈ F}) : Value := .int .i64 (x.val : Int)
theorem mapM (F : List Nat) (l : List {x : Nat // x ∈ F}) : l.map (encM F) = fl encV (l.map Subtype.val) := by rw [fl_V1, List.map_map]; rfl
theorem fl_I1 (l : List Nat) : fl encI (iN l) = l.map fun x : Nat => Value.int .i64 (x : Int) := by
  induction l with
  | nil => rfl
  | cons x l ih => show encI (x : Int) ++ fl encI (iN l) = _; rw [ih]; rfl
theorem mapMI (F : List Nat) (l : List {x : Nat // x ∈ F}) : l.map (encMI F) = fl encI (iN (l.map Subtype.val)) := by rw [fl_I1, List.map_map]; rfl
theorem sortByU_any {a0 w : World} {base n : Nat} {v : Value} (F xs : List Nat) (cf : Nat → Nat → Int) (r : Nat → Nat) (hR : RkOk F cf r) (hm : ∀ x, x ∈ xs → x ∈ F) (hnd : xs.Nodup) (hn : n = xs.length) (h : w.ownsRow base 41 1 v n (fl encV xs)) (hsz : n < 1048576)
    (gf : Nat) (hen : Enters Tryz.prog gf) (cb : Array Value) (ha0 : Go.RowKit.Below a0.heap.size a0 w) (hb0 : a0.heap.size ≤ base)
    (hcmp : ∀ W, Go.RowKit.Below a0.heap.size a0 W → ∀ x y, x ∈ F → y ∈ F → Calls Tryz.prog gf (#[.int .u64 (x : Int), .int .u64 (y : Int)] ++ cb) W fun e w' => e = .returned (.int .i64 (cf x y)) ∧ ∃ q os, w' = grow (W.drewN q) os) :
    Calls Tryz.prog 122 #[v, .func (.func gf) #[] cb] w fun e w' => e = .returned (.tuple #[]) ∧ ∃ ys : List Nat, ys.Perm xs ∧ ys.Pairwise (fun a b => r a < r b) ∧ w'.ownsRow base 41 1 v n (fl encV ys) ∧ ∀ a : World, Go.RowKit.Below a.heap.size a w → a.heap.size ≤ base → Go.RowKit.Below a.heap.size a w' := by
  subst hn
  rcases h.2 with ⟨rfl, hnil⟩ | ⟨g, cap, cur, rfl, hg, hh, _⟩
  · have e : xs = [] := List.eq_nil_of_length_eq_zero hnil
    subst e
    have hc := AnyF.slices_SortFunc_none (P := Tryz.prog) (ρ := Tryz.laysSlF6_f122_ren) { Tryz.laysSlF6_f122 with } none 0 (.func (.func gf) #[] cb) w
    refine Calls.mono hc ?_
    rintro e w' ⟨he, rfl⟩
    exact ⟨he, [], List.Perm.refl _, List.Pairwise.nil, h, fun a ha _ => ha⟩
  · by_cases e0 : xs = []
    · subst e0
      have hc := AnyF.slices_SortFunc_none (P := Tryz.prog) (ρ := Tryz.laysSlF6_f122_ren) { Tryz.laysSlF6_f122 with } (some ⟨g, 0, none⟩) cap (.func (.func gf) #[] cb) w
      refine Calls.mono hc ?_
      rintro e w' ⟨he, rfl⟩
      exact ⟨he, [], List.Perm.refl _, List.Pairwise.nil, h, fun a ha _ => ha⟩
    · obtain ⟨x0, hx0⟩ := List.exists_mem_of_ne_nil xs e0
      have hx0 : x0 ∈ F := hm x0 hx0
      obtain ⟨ls, hls⟩ : ∃ ls, ls = subL F xs hm := ⟨_, rfl⟩
      have hval : ls.map Subtype.val = xs := by rw [hls]; exact subL_val hm
      have hlen : ls.length = xs.length := by rw [← hval, List.length_map]
      haveI : Inhabited {x : Nat // x ∈ F} := ⟨⟨x0, hx0⟩⟩
      have h2 := h
      rw [← hval, ← mapM, List.length_map] at h2
      have hH := holdsG (encM F) h2
      have hlt := (h.lt g rfl).2
      have hc := Tryz.slices_SortFunc_total_f122 (encM F) (fun _ => rfl) (cfM F cf) hR.swo gf cb g 0 cap ls.toArray w hen (fun m os dk hs x y => hcmp _ (below_putG (encM F) ha0 (by omega) m dk os) _ _ x.2 y.2) hH hlt (by simp; omega) hR.tot
      rw [List.size_toArray, hlen] at hc
      refine hc.mono ?_
      rintro e w' ⟨he, q, os, rfl⟩
      obtain ⟨s1, s2⟩ := srtR_spec hR hm hnd
      rw [← hls] at s1 s2
      refine ⟨he, (srtR F cf ls).map Subtype.val, s1, s2, ?_, fun a ha hb => below_putG (encM F) ha (by omega) q _ os⟩
      have h3 : (Sort.ahead w q).ownsRow base 41 1 (.slice (some ⟨g, 0, none⟩) ls.length cap) ls.length (ls.map (encM F)) := h2
      have h4 := owns_putG (encM F) h3 (srtR F cf ls) (List.length_mergeSort ls)
      have h5 := owns_below h4 (bl_growN (Go.RowKit.Below.refl _ _) os)
      rw [hlen, mapM] at h5
      exact h5
end Go.Proofs.YtfgkjofdgohacaaGreatDoor
namespace Go.Proofs.YtfgkjofdgohacaaGreatDoor
open Go Go.RowKit Go.Shelf Go.Sort Go.Lib
theorem gb_refl0 (w : World) (r : Option Nat) : w.grownBy w r := ⟨rfl, rfl, rfl, Nat.le_refl _, fun _ _ _ => rfl⟩
theorem grown_putG {α : Type} [Inhabited α] (enc : α → Value) (w : World) (g m : Nat) (d : Array α) (os : Array Obj) : w.grownBy (grow (putRow enc (Sort.ahead w m) g 0 d) os) (some g) := by
  refine ⟨rfl, rfl, rfl, ?_, fun i hi hne => ?_⟩
  · rw [size_grow, size_putRow]
    show w.heap.size ≤ w.heap.size + _
    omega
  · have hne : ¬ g = i := fun e => hne (by rw [e])
    have hi2 : i < (putRow enc (Sort.ahead w m) g 0 d).heap.size := by rw [size_putRow]; exact hi
    show ((putRow enc (Sort.ahead w m) g 0 d).heap ++ os)[i]? = w.heap[i]?
    rw [Array.getElem?_append_left hi2]
    simp only [putRow, mapBlock, Array.getElem?_modify]
    rw [if_neg hne]
    rfl
theorem sortByI_any {a0 w : World} {base n : Nat} {v : Value} (F xs : List Nat) (cf : Nat → Nat → Int) (r : Nat → Nat) (hR : RkOk F cf r) (hm : ∀ x, x ∈ xs → x ∈ F) (hnd : xs.Nodup) (hn : n = xs.length) (h : w.ownsRow base 3 1 v n (fl encI (iN xs))) (hsz : n < 1048576)
    (gf : Nat) (hen : Enters Tryz.prog gf) (cb : Array Value) (ha0 : Go.RowKit.Below a0.heap.size a0 w) (hb0 : a0.heap.size ≤ base)
    (hcmp : ∀ W, Go.RowKit.Below a0.heap.size a0 W → ∀ x y, x ∈ F → y ∈ F → Calls Tryz.prog gf (#[.int .i64 (x : Int), .int .i64 (y : Int)] ++ cb) W fun e w' => e = .returned (.int .i64 (cf x y)) ∧ ∃ q os, w' = grow (W.drewN q) os) :
    Calls Tryz.prog 103 #[v, .func (.func gf) #[] cb] w fun e w' => e = .returned (.tuple #[]) ∧ ∃ ys : List Nat, ys.Perm xs ∧ ys.Pairwise (fun a b => r a < r b) ∧ w'.ownsRow base 3 1 v n (fl encI (iN ys)) ∧ w.grownBy w' v.ownBlock := by
  subst hn
  rcases h.2 with ⟨rfl, hnil⟩ | ⟨g, cap, cur, rfl, hg, hh, _⟩
  · have e : xs = [] := List.eq_nil_of_length_eq_zero hnil
    subst e
    have hc := AnyF.slices_SortFunc_none (P := Tryz.prog) (ρ := Tryz.laysSlF6_f103_ren) { Tryz.laysSlF6_f103 with } none 0 (.func (.func gf) #[] cb) w
    refine Calls.mono hc ?_
    rintro e w' ⟨he, rfl⟩
    exact ⟨he, [], List.Perm.refl _, List.Pairwise.nil, h, gb_refl0 _ _⟩
  · by_cases e0 : xs = []
    · subst e0
      have hc := AnyF.slices_SortFunc_none (P := Tryz.prog) (ρ := Tryz.laysSlF6_f103_ren) { Tryz.laysSlF6_f103 with } (some ⟨g, 0, none⟩) cap (.func (.func gf) #[] cb) w
      refine Calls.mono hc ?_
      rintro e w' ⟨he, rfl⟩
      exact ⟨he, [], List.Perm.refl _, List.Pairwise.nil, h, gb_refl0 _ _⟩
    · obtain ⟨x0, hx0⟩ := List.exists_mem_of_ne_nil xs e0
      have hx0 : x0 ∈ F := hm x0 hx0
      obtain ⟨ls, hls⟩ : ∃ ls, ls = subL F xs hm := ⟨_, rfl⟩
      have hval : ls.map Subtype.val = xs := by rw [hls]; exact subL_val hm
      have hlen : ls.length = xs.length := by rw [← hval, List.length_map]
      haveI : Inhabited {x : Nat // x ∈ F} := ⟨⟨x0, hx0⟩⟩
      have h2 := h
      rw [← hval, ← mapMI, List.length_map] at h2
      have hH := holdsG (encMI F) h2
      have hlt := (h.lt g rfl).2
      have hc := Tryz.slices_SortFunc_total_f103 (encMI F) (fun _ => rfl) (cfM F cf) hR.swo gf cb g 0 cap ls.toArray w hen (fun m os dk hs x y => hcmp _ (below_putG (encMI F) ha0 (by omega) m dk os) _ _ x.2 y.2) hH hlt (by simp; omega) hR.tot
      rw [List.size_toArray, hlen] at hc
      refine hc.mono ?_
      rintro e w' ⟨he, q, os, rfl⟩
      obtain ⟨s1, s2⟩ := srtR_spec hR hm hnd
      rw [← hls] at s1 s2
      refine ⟨he, (srtR F cf ls).map Subtype.val, s1, s2, ?_, grown_putG _ _ _ _ _ _⟩
      have h3 : (Sort.ahead w q).ownsRow base 3 1 (.slice (some ⟨g, 0, none⟩) ls.length cap) ls.length (ls.map (encMI F)) := h2
      have h4 := owns_putG (encMI F) h3 (srtR F cf ls) (List.length_mergeSort ls)
      have h5 := owns_below h4 (bl_growN (Go.RowKit.Below.refl _ _) os)
      rw [hlen, mapMI] at h5
      exact h5
/-- The rank of a set. -/
def rkS (x : Nat) : Nat := (64 - cntB x 64) * 64 + lo x
theorem cmS_lt {x y : Nat} : cmS x y < 0 ↔ cntB y 64 < cntB x 64 ∨ (cntB x 64 = cntB y 64 ∧ lo x < lo y) := by
  unfold cmS orI
  split
  · constructor
    · intro h; exact .inr ⟨by omega, by omega⟩
    · rintro (h | ⟨_, h⟩) <;> omega
  · constructor
    · intro h; exact .inl (by omega)
    · rintro (h | ⟨_, h⟩) <;> omega
theorem Lam.rk {F : List Nat} (h : Lam F) : RkOk F cmS rkS where
  lt x y hx hy := by
    rw [cmS_lt]
    have h1 := cntB_le x 64
    have h2 := cntB_le y 64
    have h3 := (lo_bit (h.ne x hx) (h.lt x hx)).2.2
    have h4 := (lo_bit (h.ne y hy) (h.lt y hy)).2.2
    unfold rkS
    omega
  inj x y hx hy e := by
    have h1 := cntB_le x 64
    have h2 := cntB_le y 64
    obtain ⟨b1, _, h3⟩ := lo_bit (h.ne x hx) (h.lt x hx)
    obtain ⟨b2, _, h4⟩ := lo_bit (h.ne y hy) (h.lt y hy)
    unfold rkS at e
    have e1 : cntB x 64 = cntB y 64 := by omega
    have e2 : lo x = lo y := by omega
    rw [← e2] at b2
    by_cases q : x = y
    · exact q
    · rcases h.nest hx hy b1 b2 with r | r
      · have := r.cnt_lt (h.lt x hx) (h.lt y hy) q
        omega
      · have := r.cnt_lt (h.lt y hy) (h.lt x hx) fun e => q e.symm
        omega
set_option maxHeartbeats 1000000 in
theorem sortedF_any {a0 w : World} (gf : Nat) (hen : Enters Tryz.prog gf) (lb : Array Value) (N : Nat) (S : List Nat) (Sp : List Nat → Prop) (Kp : World → World → Prop) (hF : Lam S) (hN : S.length < 1048576) (hN2 : N < 4398046511104) (hnd : S.Nodup)
    (hseq : SeqStopsK Fence.wide 9 Tryz.prog gf lb (fun x : Nat => #[.int .u64 (x : Int)]) Kp (fun xs => xs.Perm S) Sp N w)
    (hKt : ∀ {A B C : World}, Kp A B → Kp B C → Kp A C) (hKb : ∀ (W : World) (l : Nat) (o o' : Obj), w.heap.size ≤ l → W.heap[l]? = some o → o.isCells = false → o.isWalk = false → Kp W (W.putObj l o'))
    (hKp : ∀ W W', KeepsOthers W W' → (∀ B, B < w.heap.size → W'.heap[B]? = W.heap[B]?) → Kp W W') (hT : TzG a0) (ha0 : Go.RowKit.Below a0.heap.size a0 w) :
    Calls Tryz.prog 97 #[.func (.func gf) #[] lb, .func (.func 98) #[] #[]] w fun e w' => ∃ v ys, e = .returned v ∧ List.Perm ys S ∧ ys.Pairwise (fun a b => rkS a < rkS b) ∧ w'.ownsRow w.heap.size 41 1 v S.length (fl encV ys) ∧ Go.RowKit.Below w.heap.size w w' := by
  have HC := Lib.hid (colU_any gf hen lb N (fun xs => xs.Perm S) Sp Kp w hN2 hseq hKt hKb hKp)
  clear hseq hKt hKb hKp
  go_enter Tryz.func97, Tryz.ntmps97
  go_wp2_with fail
  refine HC.out.mono ?_
  rintro e w2 ⟨v, xs, rfl, hs, h1, h2⟩
  have e1 : xs.length = S.length := hs.length_eq
  rw [e1] at h1
  have HS := Lib.hid (sortByU_any (a0 := a0) S xs cmS rkS hF.rk (fun x hx => hs.mem_iff.1 hx) (hs.nodup_iff.2 hnd) e1.symm h1 hN 98 (enters_of Tryz.func98 (by kernel_rfl) rfl) #[] (bl_trans ha0 h2) ha0.size (fun W hb x y hx hy => (cmS_any x y W (hF.ne x hx) (hF.lt x hx) (hF.ne y hy) (hF.lt y hy) (hT.bl hb)).mono fun e w' ⟨h1, o, h2⟩ => ⟨h1, by rw [h2]; exact alloc_grow W o⟩))
  have H2 := Lib.hid h2
  have HP := Lib.hid hs
  clear h1 h2 hs e1
  go_wp2_with (go_at_call 122; refine HS.out.mono ?_; rintro e w3 ⟨rfl, ys, p1, p2, h3, h4⟩; have H3 := Lib.hid h3; have H4 := Lib.hid h4; have P1 := Lib.hid p1; have P2 := Lib.hid p2; clear h3 h4 p1 p2)
  go_ret
  exact ⟨v, ys, rfl, P1.out.trans HP.out, P2.out, H3.out, H4.out w H2.out (Nat.le_refl _)⟩
end Go.Proofs.YtfgkjofdgohacaaGreatDoor
namespace Go.Proofs.YtfgkjofdgohacaaGreatDoor
open Go Go.RowKit Go.Shelf Go.Maps
/-- The last before k that contains the k-th set. -/
def parP (ys : List Nat) (s : Nat) : Nat → Nat
  | 0 => 0
  | k + 1 => if vA ys k &&& s = s then k else parP ys s k
theorem parP_spec (ys : List Nat) (s : Nat) : ∀ k, (∃ i, i < k ∧ WiN s (vA ys i)) → parP ys s k < k ∧ WiN s (vA ys (parP ys s k)) ∧ ∀ i, parP ys s k < i → i < k → ¬ WiN s (vA ys i)
  | 0, ⟨i, h, _⟩ => by omega
  | k + 1, ⟨i, h1, h2⟩ => by
    unfold parP
    by_cases q : vA ys k &&& s = s
    · rw [if_pos q]
      exact ⟨Nat.lt_succ_self _, wi_r.1 q, fun j a b => by omega⟩
    · rw [if_neg q]
      have hi : i < k := by
        by_cases e : i = k
        · subst e; exact absurd (wi_r.2 h2) q
        · omega
      obtain ⟨a, b, c⟩ := parP_spec ys s k ⟨i, hi, h2⟩
      refine ⟨by omega, b, fun j h3 h4 => ?_⟩
      by_cases e : j = k
      · subst e; exact fun h => q (wi_r.2 h)
      · exact c j h3 (by omega)
theorem parP_le (ys : List Nat) (s : Nat) : ∀ k, 0 < k → parP ys s k < k
  | k + 1, _ => by
    unfold parP
    split
    · omega
    · cases k with
      | zero => simp [parP]
      | succ k => have := parP_le ys s (k + 1) (by omega); omega
/-- The children of place i among the first m. -/
def kI (ys : List Nat) (i m : Nat) : List Nat := (List.range m).filter fun k => decide (0 < k) && decide (parP ys (vA ys k) k = i)
theorem kI_succ (ys : List Nat) (i m : Nat) : kI ys i (m + 1) = if 0 < m ∧ parP ys (vA ys m) m = i then kI ys i m ++ [m] else kI ys i m := by
  unfold kI
  rw [List.range_succ, List.filter_append]
  by_cases q : 0 < m ∧ parP ys (vA ys m) m = i
  · rw [if_pos q]; simp [q.1, q.2]
  · rw [if_neg q]
    have : (decide (0 < m) && decide (parP ys (vA ys m) m = i)) = false := by
      cases h : (decide (0 < m) && decide (parP ys (vA ys m) m = i))
      · rfl
      · rw [Bool.and_eq_true, decide_eq_true_eq, decide_eq_true_eq] at h; exact absurd h q
    simp [this]
theorem kI_mem {ys : List Nat} {i m k : Nat} : k ∈ kI ys i m ↔ k < m ∧ 0 < k ∧ parP ys (vA ys k) k = i := by
  unfold kI
  rw [List.mem_filter, List.mem_range, Bool.and_eq_true, decide_eq_true_eq, decide_eq_true_eq]
theorem kI_nodup (ys : List Nat) (i m : Nat) : (kI ys i m).Nodup := List.nodup_range.filter _
/-- A family in the order of the ranks. -/
structure Rkd (L : Nat) (F ys : List Nat) : Prop where
  hier : Hier L F
  l1 : 1 ≤ L
  l32 : L ≤ 32
  mem : ∀ x, x ∈ ys ↔ x ∈ F
  pw : ys.Pairwise fun a b => rkS a < rkS b
theorem Rkd.lam {L : Nat} {F ys : List Nat} (h : Rkd L F ys) : Lam F := h.hier.lam (by have := h.l32; omega)
theorem vA_mem4 {l : List Nat} {i : Nat} (h : i < l.length) : vA l i ∈ l := by rw [vA_get h]; exact List.getElem_mem h
theorem mem_vA4 {l : List Nat} {x : Nat} (h : x ∈ l) : ∃ i, i < l.length ∧ vA l i = x := by
  obtain ⟨i, hi, e⟩ := List.getElem_of_mem h
  exact ⟨i, hi, by rw [vA_get hi]; exact e⟩
theorem Rkd.inF {L : Nat} {F ys : List Nat} (h : Rkd L F ys) {i : Nat} (hi : i < ys.length) : vA ys i ∈ F := (h.mem _).1 (vA_mem4 hi)
theorem Rkd.ord {L : Nat} {F ys : List Nat} (h : Rkd L F ys) {i j : Nat} (hij : i < j) (hj : j < ys.length) : rkS (vA ys i) < rkS (vA ys j) := by
  have := List.pairwise_iff_getElem.1 h.pw i j (by omega) hj hij
  rw [vA_get (by omega), vA_get hj]; exact this
theorem Rkd.inj {L : Nat} {F ys : List Nat} (h : Rkd L F ys) {i j : Nat} (hi : i < ys.length) (hj : j < ys.length) (e : vA ys i = vA ys j) : i = j := by
  rcases Nat.lt_trichotomy i j with q | q | q
  · have := h.ord q hj; rw [e] at this; omega
  · exact q
  · have := h.ord q hi; rw [e] at this; omega
/-- What lies below another one comes later. -/
theorem Rkd.later {L : Nat} {F ys : List Nat} (h : Rkd L F ys) {i j : Nat} (hi : i < ys.length) (hj : j < ys.length) (hb : bwB (vA ys i) (vA ys j) = true) : i < j := by
  obtain ⟨h1, h2⟩ := bw_iff.1 hb
  have h3 := h2.cnt_lt (h.lam.lt _ (h.inF hj)) (h.lam.lt _ (h.inF hi)) h1
  rcases Nat.lt_trichotomy i j with q | q | q
  · exact q
  · subst q; exact absurd rfl h1
  · have := (h.lam.rk.lt _ _ (h.inF hj) (h.inF hi)).2 (h.ord q hi)
    rw [cmS_lt] at this
    omega
theorem Rkd.zero {L : Nat} {F ys : List Nat} (h : Rkd L F ys) : 0 < ys.length ∧ vA ys 0 = 2 ^ L - 1 := by
  obtain ⟨i, hi, e⟩ := mem_vA4 ((h.mem _).2 h.hier.all)
  refine ⟨by omega, ?_⟩
  by_cases q : i = 0
  · subst q; exact e
  · exfalso
    have h0 := h.inF (i := 0) (by omega)
    have hw : WiN (vA ys 0) (vA ys i) := by rw [e]; exact wi_r.1 (sub_all4 (h.hier.lt _ h0))
    have := h.later hi (show 0 < ys.length by omega) (bw_iff.2 ⟨fun e2 => q (h.inj hi (by omega) e2.symm), hw⟩)
    omega
theorem Rkd.par {L : Nat} {F ys : List Nat} (h : Rkd L F ys) {k : Nat} (h0 : 0 < k) (hk : k < ys.length) : parP ys (vA ys k) k < k ∧ WiN (vA ys k) (vA ys (parP ys (vA ys k) k)) ∧ ∀ i, parP ys (vA ys k) k < i → i < k → ¬ WiN (vA ys k) (vA ys i) :=
  parP_spec ys _ k ⟨0, h0, by rw [h.zero.2]; exact wi_r.1 (sub_all4 (h.hier.lt _ (h.inF hk)))⟩
/-- The children, by their places. -/
theorem Rkd.kid {L : Nat} {F ys : List Nat} (h : Rkd L F ys) {i k : Nat} (hi : i < ys.length) (hk : k < ys.length) : Kid F (vA ys i) (vA ys k) ↔ 0 < k ∧ parP ys (vA ys k) k = i := by
  have hF := h.lam
  constructor
  · intro q
    have hik := h.later hi hk q.bw
    obtain ⟨a, b, c⟩ := h.par (by omega) hk
    refine ⟨by omega, ?_⟩
    rcases Nat.lt_trichotomy (parP ys (vA ys k) k) i with r | r | r
    · exact absurd (bw_iff.1 q.bw).2 (c i r hik)
    · exact r
    · exfalso
      obtain ⟨p, hp⟩ : ∃ p, p = parP ys (vA ys k) k := ⟨_, rfl⟩
      rw [← hp] at a b r
      have hpl : p < ys.length := by omega
      have hb := (lo_bit (hF.ne _ q.mem) (hF.lt _ q.mem)).1
      have hpi : vA ys p ≠ vA ys i := fun e => by have := h.inj hpl hi e; omega
      have hw : WiN (vA ys p) (vA ys i) := by
        rcases hF.nest (h.inF hpl) (h.inF hi) (b _ hb) ((bw_iff.1 q.bw).2 _ hb) with w | w
        · exact w
        · have := h.later hpl hi (bw_iff.2 ⟨fun e => hpi e.symm, w⟩)
          omega
      have e := q.max _ (h.inF hpl) (bw_iff.2 ⟨hpi, hw⟩) b
      have := h.inj hpl hk e
      omega
  · rintro ⟨h0, e⟩
    obtain ⟨a, b, c⟩ := h.par h0 hk
    rw [e] at a b c
    refine ⟨h.inF hk, bw_iff.2 ⟨fun e2 => by have := h.inj hk hi e2; omega, b⟩, fun z hz hbz hwz => ?_⟩
    obtain ⟨j, hj, rfl⟩ := mem_vA4 ((h.mem _).2 hz)
    have h1 := h.later hi hj hbz
    by_cases q : j = k
    · rw [q]
    · have h2 := h.later hj hk (bw_iff.2 ⟨fun e2 => q (h.inj hj hk e2.symm), hwz⟩)
      exact absurd hwz (c j h1 h2)
/-- A child's rank among its brothers: its lowest leaf. -/
def cmK (ys : List Nat) (a b : Nat) : Int := (lo (vA ys a) : Int) - (lo (vA ys b) : Int)
theorem Rkd.rkK {L : Nat} {F ys : List Nat} (h : Rkd L F ys) {i : Nat} (hi : i < ys.length) : RkOk (kI ys i ys.length) (cmK ys) (fun k => lo (vA ys k)) where
  lt x y _ _ := by unfold cmK; omega
  inj x y hx hy e := by
    obtain ⟨a1, a2, a3⟩ := kI_mem.1 hx
    obtain ⟨b1, b2, b3⟩ := kI_mem.1 hy
    have kx := (h.kid hi a1).2 ⟨a2, a3⟩
    have ky := (h.kid hi b1).2 ⟨b2, b3⟩
    have hx1 := (lo_bit (h.lam.ne _ kx.mem) (h.lam.lt _ kx.mem)).1
    have hy1 := (lo_bit (h.lam.ne _ ky.mem) (h.lam.lt _ ky.mem)).1
    have e : lo (vA ys x) = lo (vA ys y) := e
    rw [← e] at hy1
    exact h.inj a1 b1 (kx.same h.lam ky hx1 hy1)
/-- The sorted children are those of the document. -/
theorem Rkd.kids {L : Nat} {F ys : List Nat} (h : Rkd L F ys) {i : Nat} (hi : i < ys.length) {zs : List Nat} (hp : zs.Perm (kI ys i ys.length)) (hs : zs.Pairwise fun a b => lo (vA ys a) < lo (vA ys b)) : zs.map (vA ys) = kdS F (vA ys i) L := by
  refine kdS_ext h.lam h.hier.lt (List.pairwise_map.2 hs) fun y => ?_
  rw [List.mem_map]
  constructor
  · rintro ⟨k, hk, rfl⟩
    obtain ⟨a1, a2, a3⟩ := kI_mem.1 (hp.mem_iff.1 hk)
    exact (h.kid hi a1).2 ⟨a2, a3⟩
  · intro q
    obtain ⟨k, hk, rfl⟩ := mem_vA4 ((h.mem _).2 q.mem)
    obtain ⟨a2, a3⟩ := (h.kid hi hk).1 q
    exact ⟨k, hp.mem_iff.2 (kI_mem.2 ⟨hk, a2, a3⟩), rfl⟩
theorem Rkd.len {L : Nat} {F ys : List Nat} (h : Rkd L F ys) : ys.length = F.length := by
  have hn : ys.Nodup := h.pw.imp fun q e => by rw [e] at q; exact Nat.lt_irrefl _ q
  exact ((List.perm_ext_iff_of_nodup hn (sd_nodup h.hier.pw)).2 h.mem).length_eq
end Go.Proofs.YtfgkjofdgohacaaGreatDoor
namespace Go.Proofs.YtfgkjofdgohacaaGreatDoor
open Go Go.RowKit Go.Shelf Go.Maps
theorem blk_keptT {W W' : World} {B R : Nat} {cs : Array Value} {t tR : TypeId} (h : Blk W B cs t) (hg : W.grownBy W' (some R)) (hR : ∃ cs fr, W.heap[R]? = some (.cells cs tR fr)) (ht : t ≠ tR) : Blk W' B cs t := by
  refine gr_blk4 hg h fun e => ?_
  subst e
  obtain ⟨cs', fr, hR⟩ := hR
  have h2 : W.heap[B]? = some (.cells cs t (0, 0)) := h
  rw [h2] at hR
  injection hR with hR
  injection hR with _ hR _
  exact ht hR
theorem owns_keptT {W W' : World} {base e k n R : Nat} {v : Value} {xs : List Value} {tR : TypeId} (h : W.ownsRow base e k v n xs) (hg : W.grownBy W' (some R)) (hR : ∃ cs fr, W.heap[R]? = some (.cells cs tR fr)) (ht : e ≠ tR) : W'.ownsRow base e k v n xs := by
  refine h.kept hg ?_
  rcases h.2 with ⟨rfl, _⟩ | ⟨g, cap, cur, rfl, _, hgb, _⟩
  · exact .inl rfl
  · refine .inr fun e' => ?_
    have : g = R := Option.some.inj e'
    subst this
    obtain ⟨cs', fr, hR⟩ := hR
    rw [hgb] at hR
    injection hR with hR
    injection hR with _ hR _
    exact ht hR
theorem mn_keptT {W W' : World} {b m R : Nat} {S : List ByteArray} {tR : TypeId} (h : MN W b m S) (hg : W.grownBy W' (some R)) (hR : ∃ cs fr, W.heap[R]? = some (.cells cs tR fr)) : MN W' b m S := by
  refine h.kept hg fun e => ?_
  have : b = R := Option.some.inj e
  subst this
  obtain ⟨es, c, h1⟩ := h.blk
  obtain ⟨cs', fr, hR⟩ := hR
  rw [h1] at hR
  injection hR with hR
  cases hR
theorem owns_ty {W : World} {base e k n R : Nat} {v : Value} {xs : List Value} (h : W.ownsRow base e k v n xs) (hv : v.ownBlock = some R) : ∃ cs fr, W.heap[R]? = some (.cells cs e fr) := by
  rcases h.2 with ⟨rfl, _⟩ | ⟨g, cap, cur, rfl, _, hgb, _⟩
  · cases hv
  · have : g = R := Option.some.inj hv
    subst this
    exact ⟨_, _, hgb⟩
theorem owns_ge {W : World} {base e k n R : Nat} {v : Value} {xs : List Value} (h : W.ownsRow base e k v n xs) (hv : v.ownBlock = some R) : base ≤ R := by
  rcases h.2 with ⟨rfl, _⟩ | ⟨g, cap, cur, rfl, hb, hgb, _⟩
  · cases hv
  · have : g = R := Option.some.inj hv
    subst this
    exact hb
theorem gb_none {W W' : World} (hg : W.grownBy W' none) : Below W.heap.size W W' := bl_grown (Below.refl _ _) hg fun r e => by cases e
/-- Where things lie. -/
structure GrP where
  O : Nat
  Lc : Nat
  Nc : Nat
  X : Nat
  T : Nat
  K : Nat
  Gr : Nat
  tm : Nat
  KA : Nat
  A : Option Addr
  c : Nat
  an : Option Addr
  cn : Nat
  rws : List Rw
def pt0 (B : Nat) : Value := .pointer (some ⟨B, 0, none⟩)
def GrP.env (p : GrP) : Array Value := #[pt0 p.O, pt0 p.Lc, pt0 p.Nc, pt0 p.X, pt0 p.T, pt0 p.K, pt0 p.Gr]
def rwA (l : List Rw) (i : Nat) : Rw := l.getD i (none, 0, 0)
/-- What stays. -/
structure GrZ (a0 : World) (p : GrP) (nm : List ByteArray) (ys : List Nat) : Prop where
  lc : Blk a0 p.Lc #[.slice p.A ys.length p.c] 37
  ly : Rd a0 p.A (fl encV ys)
  nc : Blk a0 p.Nc #[.slice p.an nm.length p.cn] 46
  ln : Rd a0 p.an (fl encS nm)
  tz : TzG a0
  hO : a0.heap.size ≤ p.O
  hX : a0.heap.size ≤ p.X
  rl : p.rws.length = ys.length
  xr : ∀ i, i < ys.length → (slR (rwA p.rws i)).ownBlock ≠ some p.X
  rr : ∀ i j, i < ys.length → j < ys.length → i ≠ j → (slR (rwA p.rws i)).ownBlock = none ∨ (slR (rwA p.rws i)).ownBlock ≠ (slR (rwA p.rws j)).ownBlock
/-- The tree under way. -/
structure GrS (a0 : World) (p : GrP) (tk : List ByteArray) (ys : List Nat) (ks : Nat → List Nat) (st : List Nd × Nat) (W : World) : Prop where
  bl : Below a0.heap.size a0 W
  out : ∃ v, Blk W p.O #[v] 22 ∧ W.ownsRow a0.heap.size 56 2 v st.1.length (fl encNd st.1)
  nx : Blk W p.X #[.int .i64 st.2] 3
  tc : Blk W p.T #[.map (some p.tm)] 95
  ts : MN W p.tm 64 tk
  kc : Blk W p.K #[.slice (some ⟨p.KA, 0, none⟩) ys.length ys.length] 113
  ka : W.ownsRow a0.heap.size 30 1 (.slice (some ⟨p.KA, 0, none⟩) ys.length ys.length) ys.length (fl encR p.rws)
  rows : ∀ i, i < ys.length → W.ownsRow a0.heap.size 3 1 (slR (rwA p.rws i)) (ks i).length (fl encI (iN (ks i)))
  perm : ∀ i, i < ys.length → (ks i).Perm (kI ys i ys.length)
  gr : Blk W p.Gr #[.func (.func 101) #[] p.env] 138
theorem GrS.below {a0 : World} {p : GrP} {tk : List ByteArray} {ys : List Nat} {ks : Nat → List Nat} {st : List Nd × Nat} {W W' : World} (h : GrS a0 p tk ys ks st W) (hb : Below W.heap.size W W') : GrS a0 p tk ys ks st W' :=
  ⟨bl_trans h.bl hb, let ⟨v, h1, h2⟩ := h.out; ⟨v, h1.below hb, owns_below h2 hb⟩, h.nx.below hb, h.tc.below hb, h.ts.bl hb, h.kc.below hb, owns_below h.ka hb, fun i hi => owns_below (h.rows i hi) hb, h.perm, h.gr.below hb⟩
/-- The counter is set. -/
theorem GrS.setX {a0 : World} {p : GrP} {nm tk : List ByteArray} {ys : List Nat} {ks : Nat → List Nat} {l : List Nd} {x j : Nat} {W W' : World} (hz : GrZ a0 p nm ys) (h : GrS a0 p tk ys ks (l, x) W) (hg : W.grownBy W' (some p.X)) (hx : Blk W' p.X #[.int .i64 j] 3) : GrS a0 p tk ys ks (l, j) W' := by
  have hR : ∃ cs fr, W.heap[p.X]? = some (.cells cs 3 fr) := ⟨_, _, h.nx⟩
  obtain ⟨v, h1, h2⟩ := h.out
  exact ⟨bl_grown h.bl hg fun r e => by rw [← Option.some.inj e]; exact hz.hX, ⟨v, blk_keptT h1 hg hR (by decide), owns_keptT h2 hg hR (by decide)⟩, hx, blk_keptT h.tc hg hR (by decide), mn_keptT h.ts hg hR, blk_keptT h.kc hg hR (by decide), owns_keptT h.ka hg hR (by decide),
    fun i hi => (h.rows i hi).kept hg (.inr (hz.xr i hi)), h.perm, blk_keptT h.gr hg hR (by decide)⟩
/-- A row is sorted. -/
theorem GrS.sorted {a0 : World} {p : GrP} {nm tk : List ByteArray} {ys : List Nat} {ks : Nat → List Nat} {st : List Nd × Nat} {W W' : World} {i : Nat} {zs : List Nat} (hz : GrZ a0 p nm ys) (h : GrS a0 p tk ys ks st W) (hi : i < ys.length) (hp : zs.Perm (ks i)) (hg : W.grownBy W' (slR (rwA p.rws i)).ownBlock)
    (ho : W'.ownsRow a0.heap.size 3 1 (slR (rwA p.rws i)) (ks i).length (fl encI (iN zs))) : GrS a0 p tk ys (fun j => if j = i then zs else ks j) st W' := by
  have hrow : ∀ j, j < ys.length → W'.ownsRow a0.heap.size 3 1 (slR (rwA p.rws j)) (if j = i then zs else ks j).length (fl encI (iN (if j = i then zs else ks j))) := by
    intro j hj
    by_cases q : j = i
    · subst q
      simp only [if_true]
      rw [hp.length_eq]; exact ho
    · rw [if_neg q]
      exact (h.rows j hj).kept hg (hz.rr j i hj hi q)
  have hperm : ∀ j, j < ys.length → (if j = i then zs else ks j).Perm (kI ys j ys.length) := by
    intro j hj
    by_cases q : j = i
    · subst q; simp only [if_true]; exact hp.trans (h.perm j hj)
    · rw [if_neg q]; exact h.perm j hj
  obtain ⟨v, h1, h2⟩ := h.out
  cases hv : (slR (rwA p.rws i)).ownBlock with
  | none =>
    rw [hv] at hg
    have hb := gb_none hg
    have hk := h.below hb
    exact ⟨hk.bl, hk.out, hk.nx, hk.tc, hk.ts, hk.kc, hk.ka, hrow, hperm, hk.gr⟩
  | some R =>
    rw [hv] at hg
    have hR := owns_ty (h.rows i hi) hv
    have hRX : p.X ≠ R := fun e => hz.xr i hi (by rw [hv, e])
    exact ⟨bl_grown h.bl hg fun r e => by rw [← Option.some.inj e]; exact owns_ge (h.rows i hi) hv, ⟨v, blk_keptT h1 hg hR (by decide), owns_keptT h2 hg hR (by decide)⟩, gr_blk4 hg h.nx hRX, blk_keptT h.tc hg hR (by decide), mn_keptT h.ts hg hR, blk_keptT h.kc hg hR (by decide), owns_keptT h.ka hg hR (by decide),
      hrow, hperm, blk_keptT h.gr hg hR (by decide)⟩
/-- A node is appended. -/
theorem GrS.push {a0 : World} {p : GrP} {nm tk : List ByteArray} {ys : List Nat} {ks : Nat → List Nat} {l : List Nd} {x : Nat} {y : Nd} {W W2 : World} {v v' : Value} (hz : GrZ a0 p nm ys) (h : GrS a0 p tk ys ks (l, x) W) (hv : W.ownsRow a0.heap.size 56 2 v l.length (fl encNd l)) (hg : W.grownBy W2 v.ownBlock)
    (ho : W2.ownsRow a0.heap.size 56 2 v' (l.length + 1) (fl encNd (l ++ [y]))) : GrS a0 p tk ys ks (l ++ [y], x) (W2.setCell ⟨p.O, 0, none⟩ v') := by
  have hk : Below a0.heap.size a0 W2 ∧ (∃ u, Blk W2 p.O #[u] 22) ∧ Blk W2 p.X #[.int .i64 x] 3 ∧ Blk W2 p.T #[.map (some p.tm)] 95 ∧ MN W2 p.tm 64 tk ∧ Blk W2 p.K #[.slice (some ⟨p.KA, 0, none⟩) ys.length ys.length] 113 ∧
      W2.ownsRow a0.heap.size 30 1 (.slice (some ⟨p.KA, 0, none⟩) ys.length ys.length) ys.length (fl encR p.rws) ∧ (∀ i, i < ys.length → W2.ownsRow a0.heap.size 3 1 (slR (rwA p.rws i)) (ks i).length (fl encI (iN (ks i)))) ∧ Blk W2 p.Gr #[.func (.func 101) #[] p.env] 138 := by
    obtain ⟨u, h1, _⟩ := h.out
    cases hvb : v.ownBlock with
    | none =>
      rw [hvb] at hg
      have hk := h.below (gb_none hg)
      obtain ⟨u, h1, _⟩ := hk.out
      exact ⟨hk.bl, ⟨u, h1⟩, hk.nx, hk.tc, hk.ts, hk.kc, hk.ka, hk.rows, hk.gr⟩
    | some R =>
      rw [hvb] at hg
      have hR := owns_ty hv hvb
      exact ⟨bl_grown h.bl hg fun r e => by rw [← Option.some.inj e]; exact owns_ge hv hvb, ⟨u, blk_keptT h1 hg hR (by decide)⟩, blk_keptT h.nx hg hR (by decide), blk_keptT h.tc hg hR (by decide), mn_keptT h.ts hg hR, blk_keptT h.kc hg hR (by decide), owns_keptT h.ka hg hR (by decide),
        fun i hi => owns_keptT (h.rows i hi) hg hR (by decide), blk_keptT h.gr hg hR (by decide)⟩
  obtain ⟨k1, ⟨u, k2⟩, k3, k4, k5, k6, k7, k8, k9⟩ := hk
  have hgo : W2.grownBy (W2.setCell ⟨p.O, 0, none⟩ v') (some p.O) := gb_set (gb_refl W2 (some p.O)) 0 v'
  have hR : ∃ cs fr, W2.heap[p.O]? = some (.cells cs 22 fr) := ⟨_, _, k2⟩
  have hO : Blk (W2.setCell ⟨p.O, 0, none⟩ v') p.O #[v'] 22 := heap_setCell_same W2 p.O 0 #[u] _ v' k2
  exact ⟨bl_set k1 _ _ _ _ hz.hO, ⟨v', hO, by rw [List.length_append]; exact owns_keptT ho hgo hR (by decide)⟩, blk_keptT k3 hgo hR (by decide), blk_keptT k4 hgo hR (by decide), mn_keptT k5 hgo hR, blk_keptT k6 hgo hR (by decide), owns_keptT k7 hgo hR (by decide),
    fun i hi => owns_keptT (k8 i hi) hgo hR (by decide), h.perm, blk_keptT k9 hgo hR (by decide)⟩
end Go.Proofs.YtfgkjofdgohacaaGreatDoor
namespace Go.Proofs.YtfgkjofdgohacaaGreatDoor
open Go Go.RowKit Go.Shelf Go.Maps
theorem TzG.drewN {w : World} (h : TzG w) (q : Nat) : TzG (w.drewN q) := h
set_option maxRecDepth 100000 in
set_option maxHeartbeats 1000000 in
theorem cmK_any (Lc n c a b : Nat) (A : Option Addr) (ys : List Nat) (W : World) (hB : Blk W Lc #[.slice A n c] 37) (hR : Rd W A (fl encV ys)) (hn : ys.length = n) (hN : n ≤ 1048576) (ha : a < n) (hb : b < n) (hz : ∀ i, i < n → vA ys i ≠ 0 ∧ vA ys i < 18446744073709551616) (hT : TzG W) :
    Calls Tryz.prog 104 #[.int .i64 a, .int .i64 b, .pointer (some ⟨Lc, 0, none⟩)] W fun e w' => e = .returned (.int .i64 (cmK ys a b)) ∧ ∃ q, w' = W.drewN q := by
  obtain ⟨g, o, rfl, _, hc⟩ := rdV hR (by omega)
  have c1 := hc a (by omega)
  have c2 := hc b (by omega)
  have c0 : W.cell? ⟨Lc, 0, none⟩ = some (.slice (some ⟨g, o, none⟩) n c) := hB.cell 0
  obtain ⟨x0, hx⟩ := hz a ha
  obtain ⟨y0, hy⟩ := hz b hb
  have l1 := (lo_bit x0 hx).2.2
  have l2 := (lo_bit y0 hy).2.2
  have HC : Hid (cmK ys a b = (lo (vA ys a) : Int) - (lo (vA ys b) : Int)) := rfl
  have HTZ : Hid (∀ (x : Nat) (q : Nat), x ≠ 0 → x < 18446744073709551616 → Calls Tryz.prog 100 #[.int .u64 (x : Int)] (W.drewN q) fun e w' => e = .returned (.int .i64 (lo x : Nat)) ∧ w' = W.drewN q) := fun x q h0 hx => tz_any x (W.drewN q) h0 hx (hT.drewN q)
  clear hB hR hn hz hT hc
  generalize vA ys a = x at *
  generalize vA ys b = y at *
  have hw : IntKind.i64.wrap ((lo x : Int) - (lo y : Int)) = (lo x : Int) - (lo y : Int) := IntWalk.i64_in _ ⟨by omega, by omega⟩
  go_enter Tryz.func104, Tryz.ntmps104
  go_wp2_with fail
  go_quiet ((go_at_call 100; refine Calls.quiet_of_same (HTZ.out _ _ (by assumption) (by assumption))))
  go_wp2_with fail
  go_ret
  exact ⟨by rw [HC.out]; rfl, nq, rfl⟩
end Go.Proofs.YtfgkjofdgohacaaGreatDoor
namespace Go.Proofs.YtfgkjofdgohacaaGreatDoor
open Go Go.RowKit Go.Shelf Go.Maps
theorem gb_setNew {w W : World} {r : Option Nat} (h : w.grownBy W r) {Z : Nat} (hz : w.heap.size ≤ Z) (i : Nat) (v : Value) : w.grownBy (W.setCell ⟨Z, i, none⟩ v) r :=
  ⟨h.os, h.tape, h.output, by rw [World.size_setCell]; exact h.size, fun k hk hne => (Below.heap_setCell W ⟨Z, i, none⟩ v k (by show k ≠ Z; omega)).trans (h.block k hk hne)⟩
theorem gb_drew {w W : World} {r : Option Nat} (h : w.grownBy W r) (q : Nat) : w.grownBy (W.drewN q) r := ⟨h.os, h.tape, h.output, h.size, h.block⟩
theorem owns_n {w : World} {base e k m n c : Nat} {a : Option Addr} {xs : List Value} (h : w.ownsRow base e k (slR (a, m, c)) n xs) : m = n := by
  rcases h.2 with ⟨hv, h0⟩ | ⟨_, _, _, hv, _⟩
  · change Value.slice a m c = _ at hv
    injection hv with _ h1 _; rw [h1, h0]
  · change Value.slice a m c = _ at hv
    injection hv
theorem blk_kept_ty {W W' : World} {B base e k n : Nat} {cs : Array Value} {t : TypeId} {v : Value} {xs : List Value} (h : Blk W B cs t) (ho : W.ownsRow base e k v n xs) (he : t ≠ e) (hg : W.grownBy W' v.ownBlock) : Blk W' B cs t := by
  cases hv : v.ownBlock with
  | none => rw [hv] at hg; exact h.below (gb_none hg)
  | some R => rw [hv] at hg; exact blk_keptT h hg (owns_ty ho hv) he
theorem dash_eq (j : Nat) : (⟨#[45]⟩ : ByteArray) ++ ⟨(Lib.decDigits j).toArray⟩ = dash j := by
  apply ByteArray.ext
  rw [← Array.toList_inj]
  unfold dash
  rw [to_ofBy]
  simp
theorem dec_two {i : Nat} (h : i < 100) : (Lib.decDigits i).length ≤ 2 := by
  by_cases q : i < 10
  · rw [Lib.decDigits_one q]; simp
  · rw [Lib.decDigits_two q h]; simp
theorem dash_size {j : Nat} (h : j < 100) : (dash j).size ≤ 3 := by
  have h1 := dec_two h
  have h2 : (dash j).size = (dash j).data.toList.length := by rw [Array.length_toList]; rfl
  rw [h2]
  unfold dash
  rw [to_ofBy, List.length_cons]
  omega
theorem fm_split (h : Nat → List Nat) (l : List Nat) {k : Nat} (hk : k < l.length) : l.flatMap h = (l.take k).flatMap h ++ (h (vA l k) ++ (l.drop (k + 1)).flatMap h) := by
  have e : l = l.take k ++ (vA l k :: l.drop (k + 1)) := by
    rw [vA_get hk, ← List.drop_eq_getElem_cons hk, List.take_append_drop]
  rw [← List.flatMap_cons, ← List.flatMap_append, ← e]
theorem fm_len (h : Nat → List Nat) (l : List Nat) {k : Nat} (hk : k < l.length) : ((l.take k).flatMap h).length + (h (vA l k)).length ≤ (l.flatMap h).length := by
  rw [fm_split h l hk, List.length_append, List.length_append]; omega
theorem fm_inn (h : Nat → List Nat) (l : List Nat) {k : Nat} (hk : k < l.length) : innL ((l.take k).flatMap h) + innL (h (vA l k)) ≤ innL (l.flatMap h) := by
  rw [fm_split h l hk, innL_app, innL_app]; omega
/-- The state after k children. -/
def chS (nm : List ByteArray) (F : List Nat) (f v : Nat) (s0 : List Nd × Nat) (l : List Nat) : List Nd × Nat := l.foldl (fun s y => grw nm F f y (v : Nat) s) s0
theorem chS_succ (nm : List ByteArray) (F : List Nat) (f v : Nat) (s0 : List Nd × Nat) (l : List Nat) {k : Nat} (hk : k < l.length) : chS nm F f v s0 (l.take (k + 1)) = grw nm F f (vA l k) (v : Nat) (chS nm F f v s0 (l.take k)) := by
  unfold chS
  rw [take_snocV hk, List.foldl_append]; rfl
theorem chS_len (nm : List ByteArray) (F : List Nat) (f v : Nat) (s0 : List Nd × Nat) (l : List Nat) : (chS nm F f v s0 l).1.length = s0.1.length + (l.flatMap (preS F nm.length f)).length := by
  unfold chS
  rw [foldl_len _ (fun y => (preS F nm.length f y).length) _ _ fun y s _ => grw_len nm F f y _ s, List.length_flatMap]
theorem chS_frC (nm : List ByteArray) (F : List Nat) (f v : Nat) (s0 : List Nd × Nat) (l : List Nat) : frC nm (chS nm F f v s0 l).2 = frC nm s0.2 + innL (l.flatMap (preS F nm.length f)) := by
  unfold chS
  exact foldl_frC nm _ (fun y => preS F nm.length f y) _ _ fun y s _ => grw_frC nm F f y _ s
set_option maxRecDepth 100000 in
set_option maxHeartbeats 2000000 in
theorem grow_any (a0 : World) (p : GrP) (nm tk : List ByteArray) (ys F : List Nat) (L : Nat) (hz : GrZ a0 p nm ys) (hR : Rkd L F ys) (hL : nm.length = L) (htk : ∀ s, s ∈ tk ↔ s ∈ nm) (hne : ∀ s, s ∈ nm → s ≠ ByteArray.empty) (hn : ys.length ≤ 1048575) :
    ∀ (f i : Nat) (parent : Int) (ks : Nat → List Nat) (st : List Nd × Nat) (W : World), GrS a0 p tk ys ks st W → i < ys.length → cntB (vA ys i) 64 ≤ f → st.1.length + (preS F L f (vA ys i)).length ≤ 4194304 → frC nm st.2 + innL (preS F L f (vA ys i)) ≤ 31 →
    Calls Tryz.prog 101 #[.int .i64 i, .int .i64 parent, pt0 p.O, pt0 p.Lc, pt0 p.Nc, pt0 p.X, pt0 p.T, pt0 p.K, pt0 p.Gr] W fun e w' => e = .returned (.tuple #[]) ∧ ∃ ks', GrS a0 p tk ys ks' (grw nm F f (vA ys i) parent st) w' ∧ ∀ j, j < i → ks' j = ks j := by
  intro f
  induction f with
  | zero =>
    intro i parent ks st W hS hi hc _ _
    have h1 := hR.inF hi
    have := cnt_pos (hR.lam.ne _ h1) (hR.lam.lt _ h1)
    omega
  | succ f ih =>
    intro i parent ks st W hS hi hc hlen hfr
    have hxF := hR.inF hi
    have hx0 := hR.lam.ne _ hxF
    have hx64 := hR.lam.lt _ hxF
    have hlo : lo (vA ys i) < L := bit_lt4 (hR.hier.lt _ hxF) (lo_bit hx0 hx64).1
    have hL32 := hR.l32
    have hpre : preS F L (f + 1) (vA ys i) = vA ys i :: (kdS F (vA ys i) L).flatMap (preS F L f) := rfl
    have hinn : innL (preS F L (f + 1) (vA ys i)) = (if oneB (vA ys i) then 0 else 1) + innL ((kdS F (vA ys i) L).flatMap (preS F L f)) := by
      rw [hpre]
      unfold innL
      rw [List.filter_cons]
      cases q : oneB (vA ys i)
      · simp [Nat.add_comm]
      · simp
    have hst63 : st.2 ≤ 63 := by have := frC_le nm st.2; omega
    have hfN : oneB (vA ys i) = false → frN nm st.2 ≤ 62 := fun q => by
      rw [q] at hinn
      simp only [Bool.false_eq_true, if_false] at hinn
      have h1 := frC_next nm st.2
      have h2 := frC_le nm (frN nm st.2 + 1)
      omega
    obtain ⟨hfs1, hfs2, hfs3, hfs4⟩ := frN_spec nm st.2
    have hgrw : grw nm F (f + 1) (vA ys i) parent st = (kdS F (vA ys i) nm.length).foldl (fun s y => grw nm F f y (st.1.length : Nat) s) (st.1 ++ [(parent, nmG nm (vA ys i) st.2)], nxG nm (vA ys i) st.2) := rfl
    obtain ⟨v0, hbo, hown⟩ := hS.out
    obtain ⟨oa, oc, rfl⟩ := owns_sl hown
    have HS := Lib.hid hS
    have HOW := Lib.hid hown
    have HZ := Lib.hid hz
    have HNM := Lib.hid hne
    have HTK := Lib.hid htk
    have HFR := Lib.hid hfs4
    have HGR := Lib.hid hgrw
    have HLEN := Lib.hid hlen
    have HFC := Lib.hid hfr
    have HINN := Lib.hid hinn
    have HPRE := Lib.hid hpre
    have HIH := Lib.hid ih
    have HFN := Lib.hid hfN
    have HFQ := Lib.hid hfs3
    have HRK := Lib.hid hR
    have hsz0 := hS.bl.size
    have o0 : W.cell? ⟨p.O, 0, none⟩ = some (.slice oa st.1.length oc) := hbo.cell 0
    have HBO0 := Lib.hid hbo
    have HLC := Lib.hid (fun W' (hb : Below W.heap.size W W') => hz.lc.below (bl_trans hS.bl hb))
    have HLY := Lib.hid (fun W' (hb : Below W.heap.size W W') => hz.ly.bl (bl_trans hS.bl hb))
    have HTZ := Lib.hid (fun W' (hb : Below W.heap.size W W') => hz.tz.bl (bl_trans hS.bl hb))
    have HON := Lib.hid (fun W' => ones_any (vA ys i) W' hx64)
    clear ih hlen hfr hinn hpre hgrw hfs4 hne htk hbo hown hfN hfs3
    obtain ⟨x, hx⟩ : ∃ x, x = vA ys i := ⟨_, rfl⟩
    rw [← hx] at HON hlo hx0 hx64 HGR HLEN HFC HINN HPRE HFN hc hxF ⊢
    have HX := Lib.hid hx
    clear hx
    have hone : oneB x = decide (cntB x 64 = 1) := rfl
    obtain ⟨Z, hZ⟩ : ∃ Z, Z = W.heap.size := ⟨_, rfl⟩
    have HB1 : Hid (Below W.heap.size W (W.alloc (.cells #[.int .i64 parent, .string ⟨#[]⟩] 56))) := bl_alloc (Below.refl _ _) _
    have HZ1 : Hid (Blk (W.alloc (.cells #[.int .i64 parent, .string ⟨#[]⟩] 56)) Z #[.int .i64 parent, .string ⟨#[]⟩] 56) := by rw [hZ]; exact Blk.new _ _ _
    have HZE := Lib.hid hZ
    unfold pt0
    go_enter Tryz.func101, Tryz.ntmps101
    go_upto_region 2 with fail
    rw [← hZ]
    generalize hw1 : W.alloc (.cells #[.int .i64 parent, .string ⟨#[]⟩] 56) = W1 at *
    have HB1 := Lib.hid HB1.out
    have hc1 : W1.cell? ⟨p.Lc, 0, none⟩ = some (.slice p.A ys.length p.c) := (HLC.out W1 HB1.out).cell 0
    have HLY1 := Lib.hid (HLY.out W1 HB1.out)
    obtain ⟨ly, oy, hA, _, hcy⟩ := rdV HLY1.out (by omega)
    have c9 := hcy i hi
    rw [← HX.out] at c9
    rw [hA] at hc1
    have HAE := Lib.hid hA
    have HLYA := Lib.hid hcy
    clear hA hcy hw1 hZ
    have hb25 : ((cntB x 64 : Int) == 1) = oneB x := by rw [hone, Bool.eq_iff_iff, beq_iff_eq, decide_eq_true_eq]; omega
    clear hone
    go_upto_if 25 with (go_at_call 87; refine (HON.out _).mono ?_; rintro e w2 ⟨rfl, hw2⟩; subst w2)
    have HZ1 := Lib.hid HZ1.out
    have HG1 : Hid (W.grownBy W1 (some p.X)) := by
      have h := HB1.out
      exact gb_below (gb_refl W (some p.X)) h
    obtain ⟨nm0, hnm0⟩ : ∃ n0, n0 = if oneB x then sA nm (lo x) else ⟨#[]⟩ := ⟨_, rfl⟩
    have HN0 := Lib.hid hnm0
    clear hnm0
    go_cut [12] (fun s wx => s = .pointer (some ⟨Z, 0, none⟩) ∧ Hid (W.grownBy wx (some p.X)) ∧ Hid (Blk wx Z #[.int .i64 parent, .string nm0] 56) ∧ Hid (Blk wx p.X #[.int .i64 st.2] 3))
    case first =>
      have HXC : Hid (Blk W1 p.X #[.int .i64 st.2] 3) := HS.out.nx.below HB1.out
      cases hq : oneB x with
      | true =>
        rw [hq] at hb25
        have hne0 : Hid (nm0 = sA nm (lo x)) := by show _ = _; rw [HN0.out, hq]; rfl
        clear hq
        have hn1 : W1.cell? ⟨p.Nc, 0, none⟩ = some (.slice p.an nm.length p.cn) := (HZ.out.nc.below (bl_trans HS.out.bl HB1.out)).cell 0
        obtain ⟨ln, on, hAN, _, hcn⟩ := rdS (HZ.out.ln.bl (bl_trans HS.out.bl HB1.out)) (by omega)
        have c8 := hcn (lo x) (by omega)
        rw [hAN] at hn1
        have HTZ1 : Hid (∀ q, Calls Tryz.prog 100 #[.int .u64 (x : Int)] (W1.drewN q) fun e w' => e = .returned (.int .i64 (lo x : Nat)) ∧ w' = W1.drewN q) := fun q => tz_any x (W1.drewN q) hx0 hx64 (show TzG (W1.drewN q) from HTZ.out W1 HB1.out)
        clear hAN hcn
        have hlo2 : lo x < nm.length := by omega
        generalize sA nm (lo x) = s0 at *
        generalize lo x = lx at *
        have z1 : W1.cell? ⟨Z, 1, none⟩ = some (.string ⟨#[]⟩) := HZ1.out.cell 1
        have zf : W1.frozen? ⟨Z, 1, none⟩ = false := HZ1.out.free 1
        go_upto_region 3 with fail
        refine wp_quiet_tail_lit 9 (by kernel_rfl) (by kernel_rfl) ?_
        simp only [List.take_succ_cons, List.take_zero, List.drop_succ_cons, List.drop_zero]
        repeat (go_big_quiet_step ((go_at_call 100; refine Calls.quiet_of_same (HTZ1.out _))))
        refine wpQuiet_nil ?_
        intro _ hw'
        obtain ⟨nq, hw''⟩ := hw'
        subst hw''
        try simp only [Act.put, List.setIfInBounds_toArray, List.set_cons_zero, List.set_cons_succ]
        go_wp2_with fail
        go_meet
        have hXZ : p.X ≠ Z := fun e => by have h1 := HXC.out.lt; have h2 := HS.out.nx.lt; have h3 := HZE.out; omega
        exact ⟨rfl, gb_setNew (gb_drew HG1.out nq) (by have := HZE.out; omega) 1 _, by rw [hne0.out]; exact (HZ1.out.drewN nq).set 1 _, (HXC.out.drewN nq).other hXZ 1 _⟩
      | false =>
        rw [hq] at hb25
        have hne0 : Hid (nm0 = ⟨#[]⟩) := by show _ = _; rw [HN0.out, hq]; rfl
        clear hq
        go_wp2_with fail
        go_meet
        exact ⟨rfl, HG1, by rw [hne0.out]; exact HZ1, HXC⟩
    case rest =>
    obtain ⟨rfl, HG2, HZ2, HX2⟩ := hcut
    clear hb25 HG1 HZ1 hc1 c9 HLY1 HLYA HON HB1 o0
    obtain ⟨N, hN⟩ : ∃ N, N = nmG nm x st.2 := ⟨_, rfl⟩
    obtain ⟨J, hJ⟩ : ∃ J, J = nxG nm x st.2 := ⟨_, rfl⟩
    rw [← hN, ← hJ] at HGR
    have HNE : Hid (N ≠ ⟨#[]⟩) := fun e => by
      rw [hN] at e
      unfold nmG at e
      split at e
      · exact HNM.out _ (sA_mem (by omega)) e
      · exact dash_ne _ e
    have HND : Hid (oneB x = false → N = dash (frN nm st.2) ∧ J = frN nm st.2 + 1) := fun q => by
      refine ⟨?_, ?_⟩
      · rw [hN]; unfold nmG; rw [q]; rfl
      · rw [hJ]; unfold nxG; rw [q]; rfl
    have HST0 : Hid ((nm0 = ⟨#[]⟩ ∧ oneB x = false ∧ st.2 ≤ st.2 ∧ st.2 ≤ frN nm st.2) ∨ (nm0 = N ∧ st.2 = J)) := by
      show _ ∨ _
      cases q : oneB x with
      | true => exact .inr ⟨by rw [HN0.out, q, hN]; unfold nmG; rw [q]; rfl, by rw [hJ]; unfold nxG; rw [q]; rfl⟩
      | false => exact .inl ⟨by rw [HN0.out, q]; rfl, rfl, Nat.le_refl _, hfs1⟩
    have HFJ : Hid (frC nm J ≤ frC nm st.2 + (if oneB x then 0 else 1)) := by
      show _ ≤ _
      rw [hJ, nxG_frC]
      unfold innL
      cases q : oneB x <;> simp [q]
    have HJ63 : Hid (J ≤ 63) := by
      show J ≤ 63
      rw [hJ]; unfold nxG
      cases q : oneB x with
      | true => exact hst63
      | false => have := HFN.out q; show frN nm st.2 + 1 ≤ 63; omega
    clear hN hJ HN0
    go_wp2_with fail
    go_loopw [13] (fun _ wr => ∃ (j : Nat) (s : ByteArray), j ≤ 63 ∧ Hid (W.grownBy wr (some p.X)) ∧ Hid (Blk wr Z #[.int .i64 parent, .string s] 56) ∧ Hid (Blk wr p.X #[.int .i64 j] 3) ∧ Hid ((s = ⟨#[]⟩ ∧ oneB x = false ∧ st.2 ≤ j ∧ j ≤ frN nm st.2) ∨ (s = N ∧ j = J))) (fun _ wr => 64 - (intOf ((wr.cell? ⟨p.X, 0, none⟩).getD undef)).toNat)
    case atStart => exact ⟨st.2, nm0, hst63, HG2, HZ2, HX2, HST0⟩
    case round =>
      clear HG2 HZ2 HX2 HST0
      obtain ⟨j, s, hj, HG, HZb, HXb, HD⟩ := hrel
      have hRX : ∃ cs fr, W.heap[p.X]? = some (.cells cs 3 fr) := ⟨_, _, HS.out.nx⟩
      have z0 : wr.cell? ⟨Z, 0, none⟩ = some (.int .i64 parent) := HZb.out.cell 0
      have z1 : wr.cell? ⟨Z, 1, none⟩ = some (.string s) := HZb.out.cell 1
      have x0 : wr.cell? ⟨p.X, 0, none⟩ = some (.int .i64 j) := HXb.out.cell 0
      have HXZ : Hid (p.X ≠ Z) := fun e => by have h2 := HS.out.nx.lt; have h3 := HZE.out; omega
      have HZG : Hid (W.heap.size ≤ Z) := by show _ ≤ _; have h3 := HZE.out; omega
      by_cases hs : s = ⟨#[]⟩
      · have hD2 : oneB x = false ∧ st.2 ≤ j ∧ j ≤ frN nm st.2 := by
          rcases HD.out with h | h
          · exact h.2
          · exact absurd (h.1.symm.trans hs) HNE.out
        obtain ⟨hq, hj1, hj2⟩ := hD2
        have hj3 := HFN.out hq
        have HQ := Lib.hid hq
        subst hs
        clear HD hq
        have zf : wr.frozen? ⟨Z, 1, none⟩ = false := HZb.out.free 1
        have xf : wr.frozen? ⟨p.X, 0, none⟩ = false := HXb.out.free 0
        have t0 : wr.cell? ⟨p.T, 0, none⟩ = some (.map (some p.tm)) := (blk_keptT HS.out.tc HG.out hRX (by decide)).cell 0
        have HTM : Hid (MN wr p.tm 64 tk) := mn_keptT HS.out.ts HG.out hRX
        have HI : Hid (∀ W', Calls Tryz.prog 102 #[.int .i64 (j : Int)] W' fun e w' => e = .returned (.string ⟨(Lib.decDigits j).toArray⟩) ∧ w' = W') := fun W' => Tryz.strconv_Itoa_small j (by omega) W'
        have HHS : Hid (Calls Tryz.prog 67 #[.map (some p.tm), .string (dash j)] wr fun e w' => e = .returned (.bool (decide (dash j ∈ tk))) ∧ w' = wr.alloc (.cells #[] 128)) := hasN_any p.tm 64 (dash j) tk wr HTM.out (by have := dash_size (show j < 100 by omega); unfold maxLen; omega)
        have hdl := dec_two (show j < 100 by omega)
        clear hRX
        go_wp2_with fail
        refine (HI.out _).mono ?_
        rintro e w2 ⟨rfl, hw2⟩
        subst w2
        go_upto_region 6 with fail
        rw [dash_eq]
        clear hdl
        by_cases hd : dash j ∈ nm
        · have hd2 : decide (dash j ∈ tk) = true := decide_eq_true ((HTK.out _).2 hd)
          have hlt : j + 1 ≤ frN nm st.2 := by
            by_cases e : j = frN nm st.2
            · rw [e] at hd; exact absurd hd HFQ.out
            · omega
          rw [hd2] at HHS
          clear hd hd2
          go_wp2_with fail
          refine HHS.out.mono ?_
          rintro e w2 ⟨rfl, hw2⟩
          have HG2 : Hid (W.grownBy w2 (some p.X)) := by show W.grownBy _ _; rw [hw2]; exact gb_alloc HG.out _
          have HZ2 : Hid (Blk w2 Z #[.int .i64 parent, .string ⟨#[]⟩] 56) := by show Blk _ _ _ _; rw [hw2]; exact HZb.out.alloc _
          have HX2 : Hid (Blk w2 p.X #[.int .i64 j] 3) := by show Blk _ _ _ _; rw [hw2]; exact HXb.out.alloc _
          have HXM := Lib.hid x0
          clear hw2 x0 xf z0 z1 zf t0 HG HZb HXb
          have x0 : w2.cell? ⟨p.X, 0, none⟩ = some (.int .i64 j) := HX2.out.cell 0
          have xf : w2.frozen? ⟨p.X, 0, none⟩ = false := HX2.out.free 0
          have z1 : w2.cell? ⟨Z, 1, none⟩ = some (.string ⟨#[]⟩) := HZ2.out.cell 1
          have zf : w2.frozen? ⟨Z, 1, none⟩ = false := HZ2.out.free 1
          go_wp2_with fail
          have hb1 : Blk (w2.setCell ⟨p.X, 0, none⟩ (.int .i64 ((j : Int) + 1))) p.X #[.int .i64 (j + 1 : Nat)] 3 := HX2.out.set 0 _
          refine ⟨⟨j + 1, ⟨#[]⟩, by omega, gb_set HG2.out 0 _, HZ2.out.other (fun e => HXZ.out e.symm) 0 _, hb1, .inl ⟨rfl, HQ.out, by omega, hlt⟩⟩, ?_⟩
          rw [hb1.cell 0, HXM.out]
          simp [intOf]
          omega
        · have hd2 : decide (dash j ∈ tk) = false := decide_eq_false fun h => hd ((HTK.out _).1 h)
          have hje : j = frN nm st.2 := by
            by_cases e : j < frN nm st.2
            · exact absurd (HFR.out j hj1 e) hd
            · omega
          obtain ⟨e1, e2⟩ := HND.out HQ.out
          rw [hd2] at HHS
          have HE1 : Hid (dash j = N) := by show _ = _; rw [e1, hje]
          have HE2 : Hid (J = j + 1) := by show _ = _; rw [e2, hje]
          clear hd hd2 hje e1 e2
          go_wp2_with fail
          refine HHS.out.mono ?_
          rintro e w2 ⟨rfl, hw2⟩
          have HG2 : Hid (W.grownBy w2 (some p.X)) := by show W.grownBy _ _; rw [hw2]; exact gb_alloc HG.out _
          have HZ2 : Hid (Blk w2 Z #[.int .i64 parent, .string ⟨#[]⟩] 56) := by show Blk _ _ _ _; rw [hw2]; exact HZb.out.alloc _
          have HX2 : Hid (Blk w2 p.X #[.int .i64 j] 3) := by show Blk _ _ _ _; rw [hw2]; exact HXb.out.alloc _
          have HXM := Lib.hid x0
          clear hw2 x0 xf z0 z1 zf t0 HG HZb HXb
          have x0 : w2.cell? ⟨p.X, 0, none⟩ = some (.int .i64 j) := HX2.out.cell 0
          have xf : w2.frozen? ⟨p.X, 0, none⟩ = false := HX2.out.free 0
          have z1 : w2.cell? ⟨Z, 1, none⟩ = some (.string ⟨#[]⟩) := HZ2.out.cell 1
          have zf : w2.frozen? ⟨Z, 1, none⟩ = false := HZ2.out.free 1
          go_wp2_with fail
          have hb1 : Blk ((w2.setCell ⟨Z, 1, none⟩ (.string (dash j))).setCell ⟨p.X, 0, none⟩ (.int .i64 ((j : Int) + 1))) p.X #[.int .i64 (j + 1 : Nat)] 3 := (HX2.out.other HXZ.out 1 _).set 0 _
          refine ⟨⟨j + 1, dash j, by omega, gb_set (gb_setNew HG2.out HZG.out 1 _) 0 _, (HZ2.out.set 1 _).other (fun e => HXZ.out e.symm) 0 _, hb1, .inr ⟨HE1.out, HE2.out.symm⟩⟩, ?_⟩
          rw [hb1.cell 0, HXM.out]
          simp [intOf]
          omega
      · have hd2 : s = N ∧ j = J := by
          rcases HD.out with h | h
          · exact absurd h.1 hs
          · exact h
        obtain ⟨rfl, rfl⟩ := hd2
        have t1 : s.toList.isEmpty = false := by
          cases q : s.toList.isEmpty
          · rfl
          · exact absurd (ba_inj.1 ((List.isEmpty_iff.1 q).trans (by rw [ByteArray.toList_eq]))) hs
        have HGS : Hid (GrS a0 p tk ys ks (st.1, j) wr) := GrS.setX HZ.out HS.out HG.out HXb.out
        have HBO : Hid (Blk wr p.O #[.slice oa st.1.length oc] 22) := blk_keptT HBO0.out HG.out hRX (by decide)
        have HOW2 : Hid (wr.ownsRow a0.heap.size 56 2 (.slice oa st.1.length oc) st.1.length (fl encNd st.1)) := owns_keptT HOW.out HG.out hRX (by decide)
        have o1 : wr.cell? ⟨p.O, 0, none⟩ = some (.slice oa st.1.length oc) := HBO.out.cell 0
        have hbz : a0.heap.size ≤ (wr.alloc (.cells #[.int .i64 parent, .string s] 56)).heap.size := (bl_alloc HGS.out.bl _).size
        have hl1 : st.1.length ≤ 4194304 := by have := HLEN.out; omega
        clear HD x0 hs HG HOW HBO0
        go_upto_region 9 with fail
        go_upto_region 10 with (at_builtin; refine push_Nd rfl (.tmp 49) (.tmp 51) rfl a0.heap.size (.slice oa st.1.length oc) st.1 st.1.length rfl rfl (HOW2.out.alloc _) _ _ (parent, s) rfl (Blk.new _ _ _) (by omega) hbz ?_; intro g cap w8 h1 h2 h3 h4; have HO8 := Lib.hid (blk_kept_ty (HBO.out.alloc _) (HOW2.out.alloc _) (by decide) h2); have HGP := Lib.hid (GrS.push HZ.out (HGS.out.below (bl_alloc (Below.refl _ _) _)) (HOW2.out.alloc _) h2 h1); have o8 := HO8.out.cell 0; have f8 := HO8.out.free 0; clear h1 h2 h3 h4 o1)
        obtain ⟨w9, hw9⟩ : ∃ x, x = w8.setCell ⟨p.O, 0, none⟩ (.slice (some ⟨g, 0, none⟩) (st.1.length + 1) cap) := ⟨_, rfl⟩
        rw [← hw9] at HGP ⊢
        clear hw9 o8 f8 HO8 HOW2 HBO HGS hbz z0 z1
        obtain ⟨⟨ra, rm, rc⟩, hrw⟩ : ∃ r : Rw, r = rwA p.rws i := ⟨_, rfl⟩
        have HRW := Lib.hid hrw
        have HKC : Hid (∀ ks' st' w', GrS a0 p tk ys ks' st' w' → w'.cell? ⟨p.K, 0, none⟩ = some (.slice (some ⟨p.KA, 0, none⟩) ys.length ys.length) ∧ w'.cell? ⟨p.KA, i, none⟩ = some (.slice ra rm rc)) := fun ks' st' w' h => by
          refine ⟨h.kc.cell 0, ?_⟩
          have h1 := (own1_cells h.ka hi).1
          rw [h1, fl_R4]
          have h2 : (p.rws.map slR).getD i undef = slR (rwA p.rws i) := by
            have hl : i < p.rws.length := by rw [HZ.out.rl]; exact hi
            simp [rwA, List.getD_eq_getElem?_getD, hl]
          rw [h2, ← HRW.out]; rfl
        obtain ⟨k0, k1⟩ := HKC.out _ _ _ HGP.out
        have hrow0 := HGP.out.rows i hi
        rw [← hrw] at hrow0
        have hrm : rm = (ks i).length := owns_n hrow0
        have hnd : (ks i).Nodup := (HGP.out.perm i hi).nodup_iff.2 (kI_nodup _ _ _)
        have hmem : ∀ k, k ∈ ks i → k ∈ kI ys i ys.length := fun k hk => (HGP.out.perm i hi).mem_iff.1 hk
        have hlen2 : (ks i).length ≤ ys.length := by
          rw [(HGP.out.perm i hi).length_eq]
          unfold kI
          exact Nat.le_trans (List.length_filter_le _ _) (by rw [List.length_range]; exact Nat.le_refl _)
        have HSRT := Lib.hid (sortByI_any (a0 := a0) (kI ys i ys.length) (ks i) (cmK ys) (fun k => lo (vA ys k)) (HRK.out.rkK hi) hmem hnd rfl hrow0 (by omega) 104 (enters_of Tryz.func104 (by kernel_rfl) rfl) #[.pointer (some ⟨p.Lc, 0, none⟩)] HGP.out.bl (Nat.le_refl _) (fun W' hb x y hx hy => (cmK_any p.Lc ys.length p.c x y p.A ys W' (HZ.out.lc.below hb) (HZ.out.ly.bl hb) rfl (by omega) (kI_mem.1 hx).1 (kI_mem.1 hy).1 (fun q hq => ⟨HRK.out.lam.ne _ (HRK.out.inF hq), HRK.out.lam.lt _ (HRK.out.inF hq)⟩) (HZ.out.tz.bl hb)).mono fun e w' ⟨h1, q, h2⟩ => ⟨h1, q, #[], by rw [h2, Go.Sort.grow_empty]⟩))
        clear hrow0 hnd hmem hrw
        rw [show slR (ra, rm, rc) = .slice ra rm rc from rfl, ← hrm] at HSRT
        rw [← hrm] at hlen2
        have HRM := Lib.hid hrm
        clear hrm
        go_wp2_with fail
        refine HSRT.out.mono ?_
        rintro e w10 ⟨rfl, zs, p1, p2, h3, h4⟩
        have HZL : Hid (zs.length = rm) := by show _ = _; rw [p1.length_eq, HRM.out]
        have HKD := Lib.hid (HRK.out.kids hi (p1.trans (HGP.out.perm i hi)) p2)
        have HZM : Hid (∀ k, k < rm → vA zs k < ys.length ∧ i < vA zs k ∧ cntB (vA ys (vA zs k)) 64 ≤ f) := fun k hk => by
          have hkm : vA zs k ∈ zs := vA_mem4 (by rw [HZL.out]; exact hk)
          obtain ⟨a1, a2, a3⟩ := kI_mem.1 ((p1.trans (HGP.out.perm i hi)).mem_iff.1 hkm)
          have a4 := (HRK.out.par a2 a1).1
          rw [a3] at a4
          have hb := bw_iff.1 ((HRK.out.kid hi a1).2 ⟨a2, a3⟩).bw
          have hc2 := hb.2.cnt_lt (HRK.out.lam.lt _ (HRK.out.inF a1)) (HRK.out.lam.lt _ (HRK.out.inF hi)) hb.1
          have hc' := hc
          rw [HX.out] at hc'
          exact ⟨a1, a4, by omega⟩
        have HGS := Lib.hid (GrS.sorted HZ.out HGP.out hi p1 (by rw [← HRW.out]; exact h4) (by rw [← HRW.out, ← HRM.out]; exact h3))
        clear p1 p2 h3 h4 HSRT HGP k0 k1
        obtain ⟨k0, k1⟩ := HKC.out _ _ _ HGS.out
        obtain ⟨CH, hCH⟩ : ∃ CH, CH = zs.map (vA ys) := ⟨_, rfl⟩
        have HCL : Hid (CH.length = rm) := by show _ = _; rw [hCH, List.length_map]; exact HZL.out
        have HCV : Hid (∀ k, k < rm → vA CH k = vA ys (vA zs k)) := fun k hk => by
          have hk2 : k < zs.length := by rw [HZL.out]; exact hk
          rw [hCH]
          simp [vA, List.getD_eq_getElem?_getD, hk2]
        have HCE : Hid (kdS F x nm.length = CH) := by show _ = _; rw [hCH, hL, HX.out]; exact HKD.out.symm
        rw [HCE.out] at HGR
        have HLENs : Hid (∀ k, k ≤ rm → (chS nm F f st.1.length (st.1 ++ [(parent, s)], j) (CH.take k)).1.length = st.1.length + 1 + ((CH.take k).flatMap (preS F nm.length f)).length ∧ frC nm (chS nm F f st.1.length (st.1 ++ [(parent, s)], j) (CH.take k)).2 = frC nm j + innL ((CH.take k).flatMap (preS F nm.length f))) := fun k hk => by
          refine ⟨?_, chS_frC nm F f _ _ _⟩
          rw [chS_len]; simp
        have HBD : Hid (∀ k, k < rm → (chS nm F f st.1.length (st.1 ++ [(parent, s)], j) (CH.take k)).1.length + (preS F L f (vA CH k)).length ≤ 4194304 ∧ frC nm (chS nm F f st.1.length (st.1 ++ [(parent, s)], j) (CH.take k)).2 + innL (preS F L f (vA CH k)) ≤ 31) := fun k hk => by
          obtain ⟨a1, a2⟩ := HLENs.out k (by omega)
          have hk2 : k < CH.length := by rw [HCL.out]; exact hk
          have b1 := fm_len (preS F L f) CH hk2
          have b2 := fm_inn (preS F L f) CH hk2
          have c1 := HLEN.out
          have c2 := HFC.out
          rw [HPRE.out] at c1
          rw [HINN.out] at c2
          have hKL : kdS F x L = CH := by rw [← hL]; exact HCE.out
          rw [hKL, List.length_cons] at c1
          rw [hKL] at c2
          rw [hL] at a1 a2
          refine ⟨by omega, ?_⟩
          rw [a2]
          have hfj : frC nm j ≤ frC nm st.2 + (if oneB x then 0 else 1) := HFJ.out
          omega
        clear hCH HLENs HKD
        have hen101 : Enters Tryz.prog 101 := enters_of Tryz.func101 (by kernel_rfl) rfl
        have hcall := fun args W => hen101 args W
        have HST : Hid (∃ ks', GrS a0 p tk ys ks' (chS nm F f st.1.length (st.1 ++ [(parent, s)], j) (CH.take 0)) w10 ∧ ks' i = zs ∧ ∀ q, q < i → ks' q = ks q) := ⟨_, HGS.out, by simp, fun q hq => by simp; omega⟩
        go_wp2_with fail
        go_loopw [64, 15] (fun y _ wr => ∃ k : Nat, k ≤ rm ∧ y = .int .i64 k ∧ Hid (∃ ks', GrS a0 p tk ys ks' (chS nm F f st.1.length (st.1 ++ [(parent, s)], j) (CH.take k)) wr ∧ ks' i = zs ∧ ∀ q, q < i → ks' q = ks q)) (fun y _ _ => rm - (intOf y).toNat)
        case atStart => exact ⟨0, by omega, rfl, HST⟩
        case round =>
          clear HST HGS k0 k1
          obtain ⟨k, hk, rfl, HG⟩ := hrel
          obtain ⟨ks', hG, hki, hkq⟩ := HG.out
          by_cases hlt : k < rm
          · have hrow := hG.rows i hi
            rw [hki, ← HRW.out] at hrow
            obtain ⟨rb, ro, hra, _, hcz⟩ := rdI (rd_of_owns (show wr.ownsRow a0.heap.size 3 1 (.slice ra rm rc) rm (fl encI (iN zs)) by rw [HZL.out] at hrow; exact hrow)) (by rw [iN_len, HZL.out]; omega)
            have c1 := hcz k (by rw [iN_len, HZL.out]; exact hlt)
            rw [iN_get] at c1
            have g0 : wr.cell? ⟨p.Gr, 0, none⟩ = some (.func (.func 101) #[] #[.pointer (some ⟨p.O, 0, none⟩), .pointer (some ⟨p.Lc, 0, none⟩), .pointer (some ⟨p.Nc, 0, none⟩), .pointer (some ⟨p.X, 0, none⟩), .pointer (some ⟨p.T, 0, none⟩), .pointer (some ⟨p.K, 0, none⟩), .pointer (some ⟨p.Gr, 0, none⟩)]) := hG.gr.cell 0
            obtain ⟨z1, z2, z3⟩ := HZM.out k hlt
            obtain ⟨y1, y2⟩ := HBD.out k hlt
            have HNX : Hid (chS nm F f st.1.length (st.1 ++ [(parent, s)], j) (CH.take (k + 1)) = grw nm F f (vA ys (vA zs k)) (st.1.length : Nat) (chS nm F f st.1.length (st.1 ++ [(parent, s)], j) (CH.take k))) := by
              show _ = _
              rw [chS_succ nm F f _ _ CH (by rw [HCL.out]; exact hlt), HCV.out k hlt]
            rw [HCV.out k hlt] at y1 y2
            have HC := Lib.hid (HIH.out (vA zs k) (st.1.length : Nat) ks' _ wr hG z1 z3 y1 y2)
            unfold pt0 at HC
            have HKI := Lib.hid hki
            have HKQ := Lib.hid hkq
            have HZ2 := Lib.hid z2
            rw [← HNX.out] at HC
            subst hra
            clear hrow hcz hG hki hkq z1 z2 z3 y1 y2 HG
            generalize vA zs k = cc at *
            go_wp2_with fail
            refine HC.out.mono ?_
            rintro e w11 ⟨rfl, ks2, hg2, hq2⟩
            have HST : Hid (∃ ks', GrS a0 p tk ys ks' (chS nm F f st.1.length (st.1 ++ [(parent, s)], j) (CH.take (k + 1))) w11 ∧ ks' i = zs ∧ ∀ q, q < i → ks' q = ks q) := ⟨ks2, hg2, by rw [hq2 i HZ2.out]; exact HKI.out, fun q hq => by rw [hq2 q (by have := HZ2.out; omega)]; exact HKQ.out q hq⟩
            clear hg2 hq2
            go_wp2_with fail
            go_roundw
            case rel => exact ⟨k + 1, by omega, by go_num, HST⟩
            case measure => simp [intOf]; omega
          · obtain rfl : k = rm := by omega
            clear hG hki hkq
            have HFIN : Hid (∃ ks', GrS a0 p tk ys ks' (grw nm F (f + 1) x parent st) wr ∧ ∀ q, q < i → ks' q = ks q) := by
              obtain ⟨ks2, g1, g2, g3⟩ := HG.out
              refine ⟨ks2, ?_, g3⟩
              rw [HGR.out]
              have e : CH.take k = CH := List.take_of_length_le (by rw [HCL.out]; exact Nat.le_refl _)
              rw [e] at g1
              exact g1
            clear HG
            go_wp2_with fail
            go_end0
            exact ⟨rfl, HFIN.out⟩
end Go.Proofs.YtfgkjofdgohacaaGreatDoor
namespace Go.Proofs.YtfgkjofdgohacaaGreatDoor
open Go Go.RowKit Go.Shelf Go.Maps
structure KdI (a0 : World) (KA K : Nat) (ys : List Nat) (rws : List Rw) (m : Nat) (W : World) : Prop where
  bl : Below a0.heap.size a0 W
  kc : Blk W K #[.slice (some ⟨KA, 0, none⟩) ys.length ys.length] 113
  ka : W.ownsRow a0.heap.size 30 1 (.slice (some ⟨KA, 0, none⟩) ys.length ys.length) ys.length (fl encR rws)
  rl : rws.length = ys.length
  rows : ∀ i, i < ys.length → W.ownsRow a0.heap.size 3 1 (slR (rwA rws i)) (kI ys i m).length (fl encI (iN (kI ys i m)))
  rr : ∀ i j, i < ys.length → j < ys.length → i ≠ j → (slR (rwA rws i)).ownBlock = none ∨ (slR (rwA rws i)).ownBlock ≠ (slR (rwA rws j)).ownBlock
theorem KdI.below {a0 W W' : World} {KA K m : Nat} {ys : List Nat} {rws : List Rw} (h : KdI a0 KA K ys rws m W) (hb : Below W.heap.size W W') : KdI a0 KA K ys rws m W' :=
  ⟨bl_trans h.bl hb, h.kc.below hb, owns_below h.ka hb, h.rl, fun i hi => owns_below (h.rows i hi) hb, h.rr⟩
theorem rwA_set {rws : List Rw} {u i : Nat} {r : Rw} (hu : u < rws.length) : rwA (rws.set u r) i = if i = u then r else rwA rws i := by
  unfold rwA
  rw [List.getD_eq_getElem?_getD, List.getD_eq_getElem?_getD, List.getElem?_set]
  by_cases q : u = i
  · subst q; simp [hu]
  · have q2 : ¬ i = u := fun e => q e.symm
    simp [q, q2]
theorem flR_set {rws : List Rw} {u : Nat} {r : Rw} : fl encR (rws.set u r) = (fl encR rws).set u (slR r) := by
  rw [fl_R4, fl_R4, List.map_set]
theorem fl_R1 (l : List Rw) {i : Nat} (hi : i < l.length) : (fl encR l).getD i undef = slR (rwA l i) := by
  rw [fl_R4]
  simp [rwA, List.getD_eq_getElem?_getD, hi]
theorem KdI.push {a0 W Wb : World} {KA K m u : Nat} {ys : List Nat} {rws : List Rw} {r : Rw} (h : KdI a0 KA K ys rws m W) (hu : u < ys.length) (hm : 0 < m) (hp : parP ys (vA ys m) m = u) (hKA : a0.heap.size ≤ KA)
    (hg : W.grownBy Wb (slR (rwA rws u)).ownBlock) (ho : Wb.ownsRow a0.heap.size 3 1 (slR r) ((kI ys u m).length + 1) (fl encI (iN (kI ys u m) ++ [(m : Int)])))
    (hn : (slR r).ownBlock = (slR (rwA rws u)).ownBlock ∨ (slR r).ownBlock = some W.heap.size) : KdI a0 KA K ys (rws.set u r) (m + 1) (Wb.setCell ⟨KA, u, none⟩ (slR r)) := by
  have hul : u < rws.length := by rw [h.rl]; exact hu
  have hkb : Below a0.heap.size a0 Wb ∧ Blk Wb K #[.slice (some ⟨KA, 0, none⟩) ys.length ys.length] 113 ∧ Wb.ownsRow a0.heap.size 30 1 (.slice (some ⟨KA, 0, none⟩) ys.length ys.length) ys.length (fl encR rws) ∧
      ∀ i, i < ys.length → i ≠ u → Wb.ownsRow a0.heap.size 3 1 (slR (rwA rws i)) (kI ys i m).length (fl encI (iN (kI ys i m))) := by
    cases hv : (slR (rwA rws u)).ownBlock with
    | none =>
      rw [hv] at hg
      have hk := h.below (gb_none hg)
      exact ⟨hk.bl, hk.kc, hk.ka, fun i hi _ => hk.rows i hi⟩
    | some R =>
      have hR := owns_ty (h.rows u hu) hv
      have hge := owns_ge (h.rows u hu) hv
      refine ⟨bl_grown h.bl hg fun r' e => ?_, ?_, ?_, fun i hi hne => (h.rows i hi).kept hg (h.rr i u hi hu hne)⟩
      · rw [hv] at e; rw [← Option.some.inj e]; exact hge
      · rw [hv] at hg; exact blk_keptT h.kc hg hR (by decide)
      · rw [hv] at hg; exact owns_keptT h.ka hg hR (by decide)
  obtain ⟨k1, k2, k3, k4⟩ := hkb
  have hgo : Wb.grownBy (Wb.setCell ⟨KA, u, none⟩ (slR r)) (some KA) := gb_set (gb_refl Wb (some KA)) u _
  have hR := owns_ty k3 (R := KA) rfl
  refine ⟨bl_set k1 _ _ _ _ hKA, blk_keptT k2 hgo hR (by decide), ?_, by rw [List.length_set]; exact h.rl, fun i hi => ?_, fun i j hi hj hij => ?_⟩
  · rw [flR_set]
    exact own1_set k3 u (slR r)
  · rw [rwA_set hul, kI_succ]
    by_cases q : i = u
    · subst q
      rw [if_pos rfl, if_pos ⟨hm, hp⟩]
      have h1 := owns_keptT ho hgo hR (by decide)
      have e : iN (kI ys i m ++ [m]) = iN (kI ys i m) ++ [(m : Int)] := by simp [iN]
      rw [e, List.length_append]
      exact h1
    · rw [if_neg q, if_neg (fun e => q (e.2.symm.trans hp))]
      exact owns_keptT (k4 i hi q) hgo hR (by decide)
  · rw [rwA_set hul, rwA_set hul]
    by_cases q : i = u
    · subst q
      rw [if_pos rfl, if_neg (fun e => hij e.symm)]
      rcases hn with e | e
      · rw [e]; exact h.rr i j hi hj hij
      · rw [e]
        refine .inr fun e2 => ?_
        have := ((h.rows j hj).lt _ e2.symm).2
        omega
    · rw [if_neg q]
      by_cases q2 : j = u
      · subst q2
        rw [if_pos rfl]
        rcases hn with e | e
        · rw [e]; exact h.rr i j hi hj hij
        · rw [e]
          cases hb : (slR (rwA rws i)).ownBlock with
          | none => exact .inl rfl
          | some R =>
            refine .inr fun e2 => ?_
            have := ((h.rows i hi).lt R hb).2
            have := Option.some.inj e2
            omega
      · rw [if_neg q2]; exact h.rr i j hi hj hij
theorem KdI.first {a0 : World} (N : Nat) (ys : List Nat) (hN : ys.length = N) (hN2 : N ≤ 1000000) : KdI a0 a0.heap.size (a0.heap.size + 1) ys (List.replicate N (none, 0, 0)) 1 ((a0.alloc (.cells (madeCells #[Value.slice none 0 0] N) 30)).alloc (.cells #[.slice (some ⟨a0.heap.size, 0, none⟩) N N] 113)) := by
  subst hN
  have hb1 := bl_alloc (Below.refl _ a0) (.cells (madeCells #[Value.slice none 0 0] ys.length) 30)
  have hb2 := bl_alloc (Below.refl _ (a0.alloc (.cells (madeCells #[Value.slice none 0 0] ys.length) 30))) (.cells #[.slice (some ⟨a0.heap.size, 0, none⟩) ys.length ys.length] 113)
  have hk0 : ∀ i, kI ys i 1 = [] := fun i => by unfold kI; simp
  have hrw : ∀ i, rwA (List.replicate ys.length ((none, 0, 0) : Rw)) i = (none, 0, 0) := fun i => by
    unfold rwA
    rw [List.getD_eq_getElem?_getD, List.getElem?_replicate]
    split <;> rfl
  refine ⟨bl_trans hb1 hb2, ?_, ?_, by simp, fun i hi => ?_, fun i j _ _ _ => .inl (by rw [hrw]; rfl)⟩
  · have h := Blk.new (a0.alloc (.cells (madeCells #[Value.slice none 0 0] ys.length) 30)) #[.slice (some ⟨a0.heap.size, 0, none⟩) ys.length ys.length] 113
    rw [World.size_alloc] at h
    exact h
  · have h := owns_made (w := a0) (base := a0.heap.size) (e := 30) (k := 1) (n := ys.length) (cs := madeCells #[Value.slice none 0 0] ys.length) (Nat.le_refl _) (by rw [rows_made4, ofF_size]; omega) (by unfold maxLen; omega)
    have h2 := owns_below h hb2
    have e : (madeCells #[Value.slice none 0 0] ys.length).toList = fl encR (List.replicate ys.length ((none, 0, 0) : Rw)) := by
      rw [fl_R4, rows_made4]
      apply List.ext_getElem?
      intro i
      by_cases q : i < ys.length
      · simp [ofF, q, slR]
      · simp [ofF, q]
    rw [e] at h2
    exact h2
  · rw [hrw, hk0]
    exact World.ownsRow_nil _ _ _ _
end Go.Proofs.YtfgkjofdgohacaaGreatDoor
