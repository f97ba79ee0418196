/- append of one pair of numbers to a slice of the call's own. -/
import Derived.Test.YtahgffjkkdbjeaaDoorPU
namespace Go.Proofs.YtahgffjkkdbjeaaDoor
open Go.RowKit
theorem info_Pr : (Tryd.prog.info? 120).map (fun i => (i.zero, i.size, i.bytes)) = some (some (.agg #[.int .i64 0, .int .i64 0]), 2, 16) := by kernel_rfl
theorem push_Pr {w : World} {ops : Array Oper} {rest : List Oper} {o : Oper} {a : Act} {Q : Exit → Act → World → Prop} (hgd : o.guard = none) (s x : Operand) (ho : o.op = .call { callee := .builtin .append, args := #[s, x], argTypes := #[116, 116] })
    (base : Nat) (v : Value) (l : List Fr) (n : Nat) (hn : n = l.length) (hs : a.eval s = v) (hown : w.ownsRow base 120 2 v n (fl encFr l)) (B c : Nat) (y : Fr) (hx : a.eval x = .slice (some ⟨B, 0, none⟩) 1 c) (hB : Blk w B (encFr y).toArray 120) (hl : n < 8796093022208) (hbase : base ≤ w.heap.size)
    (h : ∀ g cap w', w'.ownsRow base 120 2 (.slice (some ⟨g, 0, none⟩) (n + 1) cap) (n + 1) (fl encFr (l ++ [y])) → w.grownBy w' v.ownBlock → (v.ownBlock = some g ∨ g = w.heap.size) → g < w'.heap.size → wpList Tryd.prog ops Q rest (a.put o.dst (.slice (some ⟨g, 0, none⟩) (n + 1) cap)) w') : wpList Tryd.prog ops Q (o :: rest) a w := by
  obtain ⟨i0, hi, hz0, hz1, hz2⟩ := info_parts info_Pr
  refine wpList_append_lies w hgd s x 116 ho base 120 i0 _ 2 16 Tryd.underlying116 hi hz0 hz1 hz2 rfl (by decide) v n (fl encFr l) hs hown ⟨B, 0, none⟩ 1 c (encFr y) hx (by simp [encFr]) (World.news_of_block (cs := (encFr y).toArray) (t := 120) (fr := (0, 0)) hB) (by intro u hu; simp [encFr] at hu; first | (subst hu; rfl) | (rcases hu with rfl | rfl <;> rfl) | (rcases hu with rfl | rfl | rfl | rfl | rfl <;> rfl)) (by omega) (by unfold maxLen; omega) (by omega) hbase _ rfl ?_
  intro g cap w' h1 h2 h3 h4
  rw [← fl_snoc] at h1
  exact h g cap w' h1 h2 h3 h4
theorem spush_Pr {w : World} {ops : Array Oper} {o : Oper} {a : Act} {K : Act → World → Prop} {Q : Exit → Act → World → Prop} {E : Prop} (hgd : o.guard = none) (s x : Operand) (ho : o.op = .call { callee := .builtin .append, args := #[s, x], argTypes := #[116, 116] })
    (base : Nat) (v : Value) (l : List Fr) (n : Nat) (hn : n = l.length) (hs : a.eval s = v) (hown : w.ownsRow base 120 2 v n (fl encFr l)) (B c : Nat) (y : Fr) (hx : a.eval x = .slice (some ⟨B, 0, none⟩) 1 c) (hB : Blk w B (encFr y).toArray 120) (hl : n < 8796093022208) (hbase : base ≤ w.heap.size)
    (h : ∀ g cap w', w'.ownsRow base 120 2 (.slice (some ⟨g, 0, none⟩) (n + 1) cap) (n + 1) (fl encFr (l ++ [y])) → w.grownBy w' v.ownBlock → (v.ownBlock = some g ∨ g = w.heap.size) → g < w'.heap.size → K (a.put o.dst (.slice (some ⟨g, 0, none⟩) (n + 1) cap)) w') : if Region.wanted o (yielded ops a.tmps) = true then Oper.wp Tryd.prog o a w K Q else E := by
  obtain ⟨i0, hi, hz0, hz1, hz2⟩ := info_parts info_Pr
  refine step_append_lies w hgd s x 116 ho base 120 i0 _ 2 16 Tryd.underlying116 hi hz0 hz1 hz2 rfl (by decide) v n (fl encFr l) hs hown ⟨B, 0, none⟩ 1 c (encFr y) hx (by simp [encFr]) (World.news_of_block (cs := (encFr y).toArray) (t := 120) (fr := (0, 0)) hB) (by intro u hu; simp [encFr] at hu; first | (subst hu; rfl) | (rcases hu with rfl | rfl <;> rfl) | (rcases hu with rfl | rfl | rfl | rfl | rfl <;> rfl)) (by omega) (by unfold maxLen; omega) (by omega) hbase _ rfl ?_
  intro g cap w' h1 h2 h3 h4
  rw [← fl_snoc] at h1
  exact h g cap w' h1 h2 h3 h4

end Go.Proofs.YtahgffjkkdbjeaaDoor
