/- append of one element to a slice of the call's own, by the kind of element. -/
import Derived.Test.YtahgffjkkdbjeaaDoorL1
import Derived.Test.YtahgffjkkdbjeaaDoorRows
import Derived.Deep.AppendLies
namespace Go.Proofs.YtahgffjkkdbjeaaDoor
open Go.RowKit

theorem info_L : (Tryd.prog.info? 2).map (fun i => (i.zero, i.size, i.bytes)) = some (some (.int .i64 0), 1, 8) := by kernel_rfl
theorem push_L {w : World} {ops : Array Oper} {rest : List Oper} {o : Oper} {a : Act} {Q : Exit → Act → World → Prop} (hgd : o.guard = none) (s x : Operand) (ho : o.op = .call { callee := .builtin .append, args := #[s, x], argTypes := #[90, 90] })
    (base : Nat) (v : Value) (l : List Int) (n : Nat) (hn : n = l.length) (hs : a.eval s = v) (hown : w.ownsRow base 2 1 v n (fl encI l)) (B c : Nat) (y : Int) (hx : a.eval x = .slice (some ⟨B, 0, none⟩) 1 c) (hB : Blk w B (encI y).toArray 2) (hl : n < 17592186044416) (hbase : base ≤ w.heap.size)
    (h : ∀ g cap w', w'.ownsRow base 2 1 (.slice (some ⟨g, 0, none⟩) (n + 1) cap) (n + 1) (fl encI (l ++ [y])) → w.grownBy w' v.ownBlock → (v.ownBlock = some g ∨ g = w.heap.size) → g < w'.heap.size → wpList Tryd.prog ops Q rest (a.put o.dst (.slice (some ⟨g, 0, none⟩) (n + 1) cap)) w') : wpList Tryd.prog ops Q (o :: rest) a w := by
  obtain ⟨i0, hi, hz0, hz1, hz2⟩ := info_parts info_L
  refine wpList_append_lies w hgd s x 90 ho base 2 i0 _ 1 8 Tryd.underlying90 hi hz0 hz1 hz2 rfl (by decide) v n (fl encI l) hs hown ⟨B, 0, none⟩ 1 c (encI y) hx (by simp [encI]) (World.news_of_block (cs := (encI y).toArray) (t := 2) (fr := (0, 0)) hB) (by intro u hu; simp [encI] at hu; first | (subst hu; rfl) | (rcases hu with rfl | rfl <;> rfl) | (rcases hu with rfl | rfl | rfl | rfl | rfl <;> rfl)) (by omega) (by unfold maxLen; omega) (by omega) hbase _ rfl ?_
  intro g cap w' h1 h2 h3 h4
  rw [← fl_snoc] at h1
  exact h g cap w' h1 h2 h3 h4
theorem spush_L {w : World} {ops : Array Oper} {o : Oper} {a : Act} {K : Act → World → Prop} {Q : Exit → Act → World → Prop} {E : Prop} (hgd : o.guard = none) (s x : Operand) (ho : o.op = .call { callee := .builtin .append, args := #[s, x], argTypes := #[90, 90] })
    (base : Nat) (v : Value) (l : List Int) (n : Nat) (hn : n = l.length) (hs : a.eval s = v) (hown : w.ownsRow base 2 1 v n (fl encI l)) (B c : Nat) (y : Int) (hx : a.eval x = .slice (some ⟨B, 0, none⟩) 1 c) (hB : Blk w B (encI y).toArray 2) (hl : n < 17592186044416) (hbase : base ≤ w.heap.size)
    (h : ∀ g cap w', w'.ownsRow base 2 1 (.slice (some ⟨g, 0, none⟩) (n + 1) cap) (n + 1) (fl encI (l ++ [y])) → w.grownBy w' v.ownBlock → (v.ownBlock = some g ∨ g = w.heap.size) → g < w'.heap.size → K (a.put o.dst (.slice (some ⟨g, 0, none⟩) (n + 1) cap)) w') : if Region.wanted o (yielded ops a.tmps) = true then Oper.wp Tryd.prog o a w K Q else E := by
  obtain ⟨i0, hi, hz0, hz1, hz2⟩ := info_parts info_L
  refine step_append_lies w hgd s x 90 ho base 2 i0 _ 1 8 Tryd.underlying90 hi hz0 hz1 hz2 rfl (by decide) v n (fl encI l) hs hown ⟨B, 0, none⟩ 1 c (encI y) hx (by simp [encI]) (World.news_of_block (cs := (encI y).toArray) (t := 2) (fr := (0, 0)) hB) (by intro u hu; simp [encI] at hu; first | (subst hu; rfl) | (rcases hu with rfl | rfl <;> rfl) | (rcases hu with rfl | rfl | rfl | rfl | rfl <;> rfl)) (by omega) (by unfold maxLen; omega) (by omega) hbase _ rfl ?_
  intro g cap w' h1 h2 h3 h4
  rw [← fl_snoc] at h1
  exact h g cap w' h1 h2 h3 h4

theorem info_I : (Tryd.prog.info? 3).map (fun i => (i.zero, i.size, i.bytes)) = some (some (.int .i64 0), 1, 8) := by kernel_rfl
theorem push_I {w : World} {ops : Array Oper} {rest : List Oper} {o : Oper} {a : Act} {Q : Exit → Act → World → Prop} (hgd : o.guard = none) (s x : Operand) (ho : o.op = .call { callee := .builtin .append, args := #[s, x], argTypes := #[29, 29] })
    (base : Nat) (v : Value) (l : List Int) (n : Nat) (hn : n = l.length) (hs : a.eval s = v) (hown : w.ownsRow base 3 1 v n (fl encI l)) (B c : Nat) (y : Int) (hx : a.eval x = .slice (some ⟨B, 0, none⟩) 1 c) (hB : Blk w B (encI y).toArray 3) (hl : n < 17592186044416) (hbase : base ≤ w.heap.size)
    (h : ∀ g cap w', w'.ownsRow base 3 1 (.slice (some ⟨g, 0, none⟩) (n + 1) cap) (n + 1) (fl encI (l ++ [y])) → w.grownBy w' v.ownBlock → (v.ownBlock = some g ∨ g = w.heap.size) → g < w'.heap.size → wpList Tryd.prog ops Q rest (a.put o.dst (.slice (some ⟨g, 0, none⟩) (n + 1) cap)) w') : wpList Tryd.prog ops Q (o :: rest) a w := by
  obtain ⟨i0, hi, hz0, hz1, hz2⟩ := info_parts info_I
  refine wpList_append_lies w hgd s x 29 ho base 3 i0 _ 1 8 Tryd.underlying29 hi hz0 hz1 hz2 rfl (by decide) v n (fl encI l) hs hown ⟨B, 0, none⟩ 1 c (encI y) hx (by simp [encI]) (World.news_of_block (cs := (encI y).toArray) (t := 3) (fr := (0, 0)) hB) (by intro u hu; simp [encI] at hu; first | (subst hu; rfl) | (rcases hu with rfl | rfl <;> rfl) | (rcases hu with rfl | rfl | rfl | rfl | rfl <;> rfl)) (by omega) (by unfold maxLen; omega) (by omega) hbase _ rfl ?_
  intro g cap w' h1 h2 h3 h4
  rw [← fl_snoc] at h1
  exact h g cap w' h1 h2 h3 h4
theorem spush_I {w : World} {ops : Array Oper} {o : Oper} {a : Act} {K : Act → World → Prop} {Q : Exit → Act → World → Prop} {E : Prop} (hgd : o.guard = none) (s x : Operand) (ho : o.op = .call { callee := .builtin .append, args := #[s, x], argTypes := #[29, 29] })
    (base : Nat) (v : Value) (l : List Int) (n : Nat) (hn : n = l.length) (hs : a.eval s = v) (hown : w.ownsRow base 3 1 v n (fl encI l)) (B c : Nat) (y : Int) (hx : a.eval x = .slice (some ⟨B, 0, none⟩) 1 c) (hB : Blk w B (encI y).toArray 3) (hl : n < 17592186044416) (hbase : base ≤ w.heap.size)
    (h : ∀ g cap w', w'.ownsRow base 3 1 (.slice (some ⟨g, 0, none⟩) (n + 1) cap) (n + 1) (fl encI (l ++ [y])) → w.grownBy w' v.ownBlock → (v.ownBlock = some g ∨ g = w.heap.size) → g < w'.heap.size → K (a.put o.dst (.slice (some ⟨g, 0, none⟩) (n + 1) cap)) w') : if Region.wanted o (yielded ops a.tmps) = true then Oper.wp Tryd.prog o a w K Q else E := by
  obtain ⟨i0, hi, hz0, hz1, hz2⟩ := info_parts info_I
  refine step_append_lies w hgd s x 29 ho base 3 i0 _ 1 8 Tryd.underlying29 hi hz0 hz1 hz2 rfl (by decide) v n (fl encI l) hs hown ⟨B, 0, none⟩ 1 c (encI y) hx (by simp [encI]) (World.news_of_block (cs := (encI y).toArray) (t := 3) (fr := (0, 0)) hB) (by intro u hu; simp [encI] at hu; first | (subst hu; rfl) | (rcases hu with rfl | rfl <;> rfl) | (rcases hu with rfl | rfl | rfl | rfl | rfl <;> rfl)) (by omega) (by unfold maxLen; omega) (by omega) hbase _ rfl ?_
  intro g cap w' h1 h2 h3 h4
  rw [← fl_snoc] at h1
  exact h g cap w' h1 h2 h3 h4

theorem info_Fr : (Tryd.prog.info? 40).map (fun i => (i.zero, i.size, i.bytes)) = some (some (.agg #[.int .i64 0, .int .i64 0]), 2, 16) := by kernel_rfl
theorem push_Fr {w : World} {ops : Array Oper} {rest : List Oper} {o : Oper} {a : Act} {Q : Exit → Act → World → Prop} (hgd : o.guard = none) (s x : Operand) (ho : o.op = .call { callee := .builtin .append, args := #[s, x], argTypes := #[22, 22] })
    (base : Nat) (v : Value) (l : List Fr) (n : Nat) (hn : n = l.length) (hs : a.eval s = v) (hown : w.ownsRow base 40 2 v n (fl encFr l)) (B c : Nat) (y : Fr) (hx : a.eval x = .slice (some ⟨B, 0, none⟩) 1 c) (hB : Blk w B (encFr y).toArray 40) (hl : n < 8796093022208) (hbase : base ≤ w.heap.size)
    (h : ∀ g cap w', w'.ownsRow base 40 2 (.slice (some ⟨g, 0, none⟩) (n + 1) cap) (n + 1) (fl encFr (l ++ [y])) → w.grownBy w' v.ownBlock → (v.ownBlock = some g ∨ g = w.heap.size) → g < w'.heap.size → wpList Tryd.prog ops Q rest (a.put o.dst (.slice (some ⟨g, 0, none⟩) (n + 1) cap)) w') : wpList Tryd.prog ops Q (o :: rest) a w := by
  obtain ⟨i0, hi, hz0, hz1, hz2⟩ := info_parts info_Fr
  refine wpList_append_lies w hgd s x 22 ho base 40 i0 _ 2 16 Tryd.underlying22 hi hz0 hz1 hz2 rfl (by decide) v n (fl encFr l) hs hown ⟨B, 0, none⟩ 1 c (encFr y) hx (by simp [encFr]) (World.news_of_block (cs := (encFr y).toArray) (t := 40) (fr := (0, 0)) hB) (by intro u hu; simp [encFr] at hu; first | (subst hu; rfl) | (rcases hu with rfl | rfl <;> rfl) | (rcases hu with rfl | rfl | rfl | rfl | rfl <;> rfl)) (by omega) (by unfold maxLen; omega) (by omega) hbase _ rfl ?_
  intro g cap w' h1 h2 h3 h4
  rw [← fl_snoc] at h1
  exact h g cap w' h1 h2 h3 h4
theorem spush_Fr {w : World} {ops : Array Oper} {o : Oper} {a : Act} {K : Act → World → Prop} {Q : Exit → Act → World → Prop} {E : Prop} (hgd : o.guard = none) (s x : Operand) (ho : o.op = .call { callee := .builtin .append, args := #[s, x], argTypes := #[22, 22] })
    (base : Nat) (v : Value) (l : List Fr) (n : Nat) (hn : n = l.length) (hs : a.eval s = v) (hown : w.ownsRow base 40 2 v n (fl encFr l)) (B c : Nat) (y : Fr) (hx : a.eval x = .slice (some ⟨B, 0, none⟩) 1 c) (hB : Blk w B (encFr y).toArray 40) (hl : n < 8796093022208) (hbase : base ≤ w.heap.size)
    (h : ∀ g cap w', w'.ownsRow base 40 2 (.slice (some ⟨g, 0, none⟩) (n + 1) cap) (n + 1) (fl encFr (l ++ [y])) → w.grownBy w' v.ownBlock → (v.ownBlock = some g ∨ g = w.heap.size) → g < w'.heap.size → K (a.put o.dst (.slice (some ⟨g, 0, none⟩) (n + 1) cap)) w') : if Region.wanted o (yielded ops a.tmps) = true then Oper.wp Tryd.prog o a w K Q else E := by
  obtain ⟨i0, hi, hz0, hz1, hz2⟩ := info_parts info_Fr
  refine step_append_lies w hgd s x 22 ho base 40 i0 _ 2 16 Tryd.underlying22 hi hz0 hz1 hz2 rfl (by decide) v n (fl encFr l) hs hown ⟨B, 0, none⟩ 1 c (encFr y) hx (by simp [encFr]) (World.news_of_block (cs := (encFr y).toArray) (t := 40) (fr := (0, 0)) hB) (by intro u hu; simp [encFr] at hu; first | (subst hu; rfl) | (rcases hu with rfl | rfl <;> rfl) | (rcases hu with rfl | rfl | rfl | rfl | rfl <;> rfl)) (by omega) (by unfold maxLen; omega) (by omega) hbase _ rfl ?_
  intro g cap w' h1 h2 h3 h4
  rw [← fl_snoc] at h1
  exact h g cap w' h1 h2 h3 h4

theorem info_Mg : (Tryd.prog.info? 42).map (fun i => (i.zero, i.size, i.bytes)) = some (some (.agg #[.int .i64 0, .int .i64 0, .int .i64 0, .int .i64 0, .int .i64 0]), 5, 40) := by kernel_rfl
theorem push_Mg {w : World} {ops : Array Oper} {rest : List Oper} {o : Oper} {a : Act} {Q : Exit → Act → World → Prop} (hgd : o.guard = none) (s x : Operand) (ho : o.op = .call { callee := .builtin .append, args := #[s, x], argTypes := #[36, 36] })
    (base : Nat) (v : Value) (l : List Mg) (n : Nat) (hn : n = l.length) (hs : a.eval s = v) (hown : w.ownsRow base 42 5 v n (fl encMg l)) (B c : Nat) (y : Mg) (hx : a.eval x = .slice (some ⟨B, 0, none⟩) 1 c) (hB : Blk w B (encMg y).toArray 42) (hl : n < 3518437208883) (hbase : base ≤ w.heap.size)
    (h : ∀ g cap w', w'.ownsRow base 42 5 (.slice (some ⟨g, 0, none⟩) (n + 1) cap) (n + 1) (fl encMg (l ++ [y])) → w.grownBy w' v.ownBlock → (v.ownBlock = some g ∨ g = w.heap.size) → g < w'.heap.size → wpList Tryd.prog ops Q rest (a.put o.dst (.slice (some ⟨g, 0, none⟩) (n + 1) cap)) w') : wpList Tryd.prog ops Q (o :: rest) a w := by
  obtain ⟨i0, hi, hz0, hz1, hz2⟩ := info_parts info_Mg
  refine wpList_append_lies w hgd s x 36 ho base 42 i0 _ 5 40 Tryd.underlying36 hi hz0 hz1 hz2 rfl (by decide) v n (fl encMg l) hs hown ⟨B, 0, none⟩ 1 c (encMg y) hx (by simp [encMg]) (World.news_of_block (cs := (encMg y).toArray) (t := 42) (fr := (0, 0)) hB) (by intro u hu; simp [encMg] at hu; first | (subst hu; rfl) | (rcases hu with rfl | rfl <;> rfl) | (rcases hu with rfl | rfl | rfl | rfl | rfl <;> rfl)) (by omega) (by unfold maxLen; omega) (by omega) hbase _ rfl ?_
  intro g cap w' h1 h2 h3 h4
  rw [← fl_snoc] at h1
  exact h g cap w' h1 h2 h3 h4
theorem spush_Mg {w : World} {ops : Array Oper} {o : Oper} {a : Act} {K : Act → World → Prop} {Q : Exit → Act → World → Prop} {E : Prop} (hgd : o.guard = none) (s x : Operand) (ho : o.op = .call { callee := .builtin .append, args := #[s, x], argTypes := #[36, 36] })
    (base : Nat) (v : Value) (l : List Mg) (n : Nat) (hn : n = l.length) (hs : a.eval s = v) (hown : w.ownsRow base 42 5 v n (fl encMg l)) (B c : Nat) (y : Mg) (hx : a.eval x = .slice (some ⟨B, 0, none⟩) 1 c) (hB : Blk w B (encMg y).toArray 42) (hl : n < 3518437208883) (hbase : base ≤ w.heap.size)
    (h : ∀ g cap w', w'.ownsRow base 42 5 (.slice (some ⟨g, 0, none⟩) (n + 1) cap) (n + 1) (fl encMg (l ++ [y])) → w.grownBy w' v.ownBlock → (v.ownBlock = some g ∨ g = w.heap.size) → g < w'.heap.size → K (a.put o.dst (.slice (some ⟨g, 0, none⟩) (n + 1) cap)) w') : if Region.wanted o (yielded ops a.tmps) = true then Oper.wp Tryd.prog o a w K Q else E := by
  obtain ⟨i0, hi, hz0, hz1, hz2⟩ := info_parts info_Mg
  refine step_append_lies w hgd s x 36 ho base 42 i0 _ 5 40 Tryd.underlying36 hi hz0 hz1 hz2 rfl (by decide) v n (fl encMg l) hs hown ⟨B, 0, none⟩ 1 c (encMg y) hx (by simp [encMg]) (World.news_of_block (cs := (encMg y).toArray) (t := 42) (fr := (0, 0)) hB) (by intro u hu; simp [encMg] at hu; first | (subst hu; rfl) | (rcases hu with rfl | rfl <;> rfl) | (rcases hu with rfl | rfl | rfl | rfl | rfl <;> rfl)) (by omega) (by unfold maxLen; omega) (by omega) hbase _ rfl ?_
  intro g cap w' h1 h2 h3 h4
  rw [← fl_snoc] at h1
  exact h g cap w' h1 h2 h3 h4

theorem info_Nd : (Tryd.prog.info? 66).map (fun i => (i.zero, i.size, i.bytes)) = some (some (.agg #[.int .i64 0, .string ByteArray.empty]), 2, 24) := by kernel_rfl
theorem push_Nd {w : World} {ops : Array Oper} {rest : List Oper} {o : Oper} {a : Act} {Q : Exit → Act → World → Prop} (hgd : o.guard = none) (s x : Operand) (ho : o.op = .call { callee := .builtin .append, args := #[s, x], argTypes := #[60, 60] })
    (base : Nat) (v : Value) (l : List Nd) (n : Nat) (hn : n = l.length) (hs : a.eval s = v) (hown : w.ownsRow base 66 2 v n (fl encNd l)) (B c : Nat) (y : Nd) (hx : a.eval x = .slice (some ⟨B, 0, none⟩) 1 c) (hB : Blk w B (encNd y).toArray 66) (hl : n < 5864062014805) (hbase : base ≤ w.heap.size)
    (h : ∀ g cap w', w'.ownsRow base 66 2 (.slice (some ⟨g, 0, none⟩) (n + 1) cap) (n + 1) (fl encNd (l ++ [y])) → w.grownBy w' v.ownBlock → (v.ownBlock = some g ∨ g = w.heap.size) → g < w'.heap.size → wpList Tryd.prog ops Q rest (a.put o.dst (.slice (some ⟨g, 0, none⟩) (n + 1) cap)) w') : wpList Tryd.prog ops Q (o :: rest) a w := by
  obtain ⟨i0, hi, hz0, hz1, hz2⟩ := info_parts info_Nd
  refine wpList_append_lies w hgd s x 60 ho base 66 i0 _ 2 24 Tryd.underlying60 hi hz0 hz1 hz2 rfl (by decide) v n (fl encNd l) hs hown ⟨B, 0, none⟩ 1 c (encNd y) hx (by simp [encNd]) (World.news_of_block (cs := (encNd y).toArray) (t := 66) (fr := (0, 0)) hB) (by intro u hu; simp [encNd] at hu; first | (subst hu; rfl) | (rcases hu with rfl | rfl <;> rfl) | (rcases hu with rfl | rfl | rfl | rfl | rfl <;> rfl)) (by omega) (by unfold maxLen; omega) (by omega) hbase _ rfl ?_
  intro g cap w' h1 h2 h3 h4
  rw [← fl_snoc] at h1
  exact h g cap w' h1 h2 h3 h4
theorem spush_Nd {w : World} {ops : Array Oper} {o : Oper} {a : Act} {K : Act → World → Prop} {Q : Exit → Act → World → Prop} {E : Prop} (hgd : o.guard = none) (s x : Operand) (ho : o.op = .call { callee := .builtin .append, args := #[s, x], argTypes := #[60, 60] })
    (base : Nat) (v : Value) (l : List Nd) (n : Nat) (hn : n = l.length) (hs : a.eval s = v) (hown : w.ownsRow base 66 2 v n (fl encNd l)) (B c : Nat) (y : Nd) (hx : a.eval x = .slice (some ⟨B, 0, none⟩) 1 c) (hB : Blk w B (encNd y).toArray 66) (hl : n < 5864062014805) (hbase : base ≤ w.heap.size)
    (h : ∀ g cap w', w'.ownsRow base 66 2 (.slice (some ⟨g, 0, none⟩) (n + 1) cap) (n + 1) (fl encNd (l ++ [y])) → w.grownBy w' v.ownBlock → (v.ownBlock = some g ∨ g = w.heap.size) → g < w'.heap.size → K (a.put o.dst (.slice (some ⟨g, 0, none⟩) (n + 1) cap)) w') : if Region.wanted o (yielded ops a.tmps) = true then Oper.wp Tryd.prog o a w K Q else E := by
  obtain ⟨i0, hi, hz0, hz1, hz2⟩ := info_parts info_Nd
  refine step_append_lies w hgd s x 60 ho base 66 i0 _ 2 24 Tryd.underlying60 hi hz0 hz1 hz2 rfl (by decide) v n (fl encNd l) hs hown ⟨B, 0, none⟩ 1 c (encNd y) hx (by simp [encNd]) (World.news_of_block (cs := (encNd y).toArray) (t := 66) (fr := (0, 0)) hB) (by intro u hu; simp [encNd] at hu; first | (subst hu; rfl) | (rcases hu with rfl | rfl <;> rfl) | (rcases hu with rfl | rfl | rfl | rfl | rfl <;> rfl)) (by omega) (by unfold maxLen; omega) (by omega) hbase _ rfl ?_
  intro g cap w' h1 h2 h3 h4
  rw [← fl_snoc] at h1
  exact h g cap w' h1 h2 h3 h4

theorem info_R : (Tryd.prog.info? 29).map (fun i => (i.zero, i.size, i.bytes)) = some (some (.slice none 0 0), 1, 24) := by kernel_rfl
theorem push_R {w : World} {ops : Array Oper} {rest : List Oper} {o : Oper} {a : Act} {Q : Exit → Act → World → Prop} (hgd : o.guard = none) (s x : Operand) (ho : o.op = .call { callee := .builtin .append, args := #[s, x], argTypes := #[49, 49] })
    (base : Nat) (v : Value) (l : List Rw) (n : Nat) (hn : n = l.length) (hs : a.eval s = v) (hown : w.ownsRow base 29 1 v n (fl encR l)) (B c : Nat) (y : Rw) (hx : a.eval x = .slice (some ⟨B, 0, none⟩) 1 c) (hB : Blk w B (encR y).toArray 29) (hl : n < 5864062014805) (hbase : base ≤ w.heap.size)
    (h : ∀ g cap w', w'.ownsRow base 29 1 (.slice (some ⟨g, 0, none⟩) (n + 1) cap) (n + 1) (fl encR (l ++ [y])) → w.grownBy w' v.ownBlock → (v.ownBlock = some g ∨ g = w.heap.size) → g < w'.heap.size → wpList Tryd.prog ops Q rest (a.put o.dst (.slice (some ⟨g, 0, none⟩) (n + 1) cap)) w') : wpList Tryd.prog ops Q (o :: rest) a w := by
  obtain ⟨i0, hi, hz0, hz1, hz2⟩ := info_parts info_R
  refine wpList_append_lies w hgd s x 49 ho base 29 i0 _ 1 24 Tryd.underlying49 hi hz0 hz1 hz2 rfl (by decide) v n (fl encR l) hs hown ⟨B, 0, none⟩ 1 c (encR y) hx (by simp [encR]) (World.news_of_block (cs := (encR y).toArray) (t := 29) (fr := (0, 0)) hB) (by intro u hu; simp [encR] at hu; first | (subst hu; rfl) | (rcases hu with rfl | rfl <;> rfl) | (rcases hu with rfl | rfl | rfl | rfl | rfl <;> rfl)) (by omega) (by unfold maxLen; omega) (by omega) hbase _ rfl ?_
  intro g cap w' h1 h2 h3 h4
  rw [← fl_snoc] at h1
  exact h g cap w' h1 h2 h3 h4
theorem spush_R {w : World} {ops : Array Oper} {o : Oper} {a : Act} {K : Act → World → Prop} {Q : Exit → Act → World → Prop} {E : Prop} (hgd : o.guard = none) (s x : Operand) (ho : o.op = .call { callee := .builtin .append, args := #[s, x], argTypes := #[49, 49] })
    (base : Nat) (v : Value) (l : List Rw) (n : Nat) (hn : n = l.length) (hs : a.eval s = v) (hown : w.ownsRow base 29 1 v n (fl encR l)) (B c : Nat) (y : Rw) (hx : a.eval x = .slice (some ⟨B, 0, none⟩) 1 c) (hB : Blk w B (encR y).toArray 29) (hl : n < 5864062014805) (hbase : base ≤ w.heap.size)
    (h : ∀ g cap w', w'.ownsRow base 29 1 (.slice (some ⟨g, 0, none⟩) (n + 1) cap) (n + 1) (fl encR (l ++ [y])) → w.grownBy w' v.ownBlock → (v.ownBlock = some g ∨ g = w.heap.size) → g < w'.heap.size → K (a.put o.dst (.slice (some ⟨g, 0, none⟩) (n + 1) cap)) w') : if Region.wanted o (yielded ops a.tmps) = true then Oper.wp Tryd.prog o a w K Q else E := by
  obtain ⟨i0, hi, hz0, hz1, hz2⟩ := info_parts info_R
  refine step_append_lies w hgd s x 49 ho base 29 i0 _ 1 24 Tryd.underlying49 hi hz0 hz1 hz2 rfl (by decide) v n (fl encR l) hs hown ⟨B, 0, none⟩ 1 c (encR y) hx (by simp [encR]) (World.news_of_block (cs := (encR y).toArray) (t := 29) (fr := (0, 0)) hB) (by intro u hu; simp [encR] at hu; first | (subst hu; rfl) | (rcases hu with rfl | rfl <;> rfl) | (rcases hu with rfl | rfl | rfl | rfl | rfl <;> rfl)) (by omega) (by unfold maxLen; omega) (by omega) hbase _ rfl ?_
  intro g cap w' h1 h2 h3 h4
  rw [← fl_snoc] at h1
  exact h g cap w' h1 h2 h3 h4

theorem info_S : (Tryd.prog.info? 9).map (fun i => (i.zero, i.size, i.bytes)) = some (some (.string ByteArray.empty), 1, 16) := by kernel_rfl
theorem push_S {w : World} {ops : Array Oper} {rest : List Oper} {o : Oper} {a : Act} {Q : Exit → Act → World → Prop} (hgd : o.guard = none) (s x : Operand) (ho : o.op = .call { callee := .builtin .append, args := #[s, x], argTypes := #[58, 58] })
    (base : Nat) (v : Value) (l : List ByteArray) (n : Nat) (hn : n = l.length) (hs : a.eval s = v) (hown : w.ownsRow base 9 1 v n (fl encS l)) (B c : Nat) (y : ByteArray) (hx : a.eval x = .slice (some ⟨B, 0, none⟩) 1 c) (hB : Blk w B (encS y).toArray 9) (hl : n < 8796093022208) (hbase : base ≤ w.heap.size)
    (h : ∀ g cap w', w'.ownsRow base 9 1 (.slice (some ⟨g, 0, none⟩) (n + 1) cap) (n + 1) (fl encS (l ++ [y])) → w.grownBy w' v.ownBlock → (v.ownBlock = some g ∨ g = w.heap.size) → g < w'.heap.size → wpList Tryd.prog ops Q rest (a.put o.dst (.slice (some ⟨g, 0, none⟩) (n + 1) cap)) w') : wpList Tryd.prog ops Q (o :: rest) a w := by
  obtain ⟨i0, hi, hz0, hz1, hz2⟩ := info_parts info_S
  refine wpList_append_lies w hgd s x 58 ho base 9 i0 _ 1 16 Tryd.underlying58 hi hz0 hz1 hz2 rfl (by decide) v n (fl encS l) hs hown ⟨B, 0, none⟩ 1 c (encS y) hx (by simp [encS]) (World.news_of_block (cs := (encS y).toArray) (t := 9) (fr := (0, 0)) hB) (by intro u hu; simp [encS] at hu; first | (subst hu; rfl) | (rcases hu with rfl | rfl <;> rfl) | (rcases hu with rfl | rfl | rfl | rfl | rfl <;> rfl)) (by omega) (by unfold maxLen; omega) (by omega) hbase _ rfl ?_
  intro g cap w' h1 h2 h3 h4
  rw [← fl_snoc] at h1
  exact h g cap w' h1 h2 h3 h4
theorem spush_S {w : World} {ops : Array Oper} {o : Oper} {a : Act} {K : Act → World → Prop} {Q : Exit → Act → World → Prop} {E : Prop} (hgd : o.guard = none) (s x : Operand) (ho : o.op = .call { callee := .builtin .append, args := #[s, x], argTypes := #[58, 58] })
    (base : Nat) (v : Value) (l : List ByteArray) (n : Nat) (hn : n = l.length) (hs : a.eval s = v) (hown : w.ownsRow base 9 1 v n (fl encS l)) (B c : Nat) (y : ByteArray) (hx : a.eval x = .slice (some ⟨B, 0, none⟩) 1 c) (hB : Blk w B (encS y).toArray 9) (hl : n < 8796093022208) (hbase : base ≤ w.heap.size)
    (h : ∀ g cap w', w'.ownsRow base 9 1 (.slice (some ⟨g, 0, none⟩) (n + 1) cap) (n + 1) (fl encS (l ++ [y])) → w.grownBy w' v.ownBlock → (v.ownBlock = some g ∨ g = w.heap.size) → g < w'.heap.size → K (a.put o.dst (.slice (some ⟨g, 0, none⟩) (n + 1) cap)) w') : if Region.wanted o (yielded ops a.tmps) = true then Oper.wp Tryd.prog o a w K Q else E := by
  obtain ⟨i0, hi, hz0, hz1, hz2⟩ := info_parts info_S
  refine step_append_lies w hgd s x 58 ho base 9 i0 _ 1 16 Tryd.underlying58 hi hz0 hz1 hz2 rfl (by decide) v n (fl encS l) hs hown ⟨B, 0, none⟩ 1 c (encS y) hx (by simp [encS]) (World.news_of_block (cs := (encS y).toArray) (t := 9) (fr := (0, 0)) hB) (by intro u hu; simp [encS] at hu; first | (subst hu; rfl) | (rcases hu with rfl | rfl <;> rfl) | (rcases hu with rfl | rfl | rfl | rfl | rfl <;> rfl)) (by omega) (by unfold maxLen; omega) (by omega) hbase _ rfl ?_
  intro g cap w' h1 h2 h3 h4
  rw [← fl_snoc] at h1
  exact h g cap w' h1 h2 h3 h4

end Go.Proofs.YtahgffjkkdbjeaaDoor
