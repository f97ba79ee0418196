/- phylo.groups: the sets of more than one language, not all, that fit every other; in order, each once. -/
import Derived.Test.YtnabbmdhhddfbaaDoorA9
namespace Go.Proofs.YtnabbmdhhddfbaaDoor
open Go.RowKit Go.Shelf Go.Sort
set_option maxHeartbeats 1000000 in
theorem grp1_any (x o S : Nat) (w : World) (hx : x < 18446744073709551616) (ho : o < 18446744073709551616) (hB : Blk w S #[.int .u64 x] 61) :
    Calls Tryd.prog 62 #[.int .u64 o, .pointer (some ⟨S, 0, none⟩)] w fun e w' => e = .returned (.bool (!fitB x o)) ∧ w' = w := by
  have e0 : w.cell? ⟨S, 0, none⟩ = some (.int .u64 x) := hB.cell 0
  go_enter Tryd.func62, Tryd.ntmps62
  go_wp2_with fail
  refine (fits_any x o w hx ho).mono ?_
  rintro e w' ⟨rfl, rfl⟩
  obtain ⟨b, hb⟩ : ∃ b, fitB x o = b := ⟨_, rfl⟩
  have HBB := Lib.hid hb
  rw [hb]
  clear hb
  go_wp2_with fail
  go_ret
  exact ⟨by rw [HBB.out]; rfl, rfl⟩
/-- x without its lowest bit. -/
def lowOff (x : Nat) : Nat := x &&& (x + 18446744073709551615) % 18446744073709551616
theorem lowOff_bits {x : Nat} (hx : x < 18446744073709551616) : bits .and .u64 (x : Int) (IntKind.u64.wrap ((x : Int) - 1)) = (lowOff x : Int) := by
  have e : IntKind.u64.wrap ((x : Int) - 1) = (((x + 18446744073709551615) % 18446744073709551616 : Nat) : Int) := by
    rw [IntKind.wrap_u64]; omega
  rw [e, bits_and hx (Nat.mod_lt _ (by omega))]
  rfl
/-- Is x a group of the table? -/
def grpB (L : Nat) (l : List Nat) (x : Nat) : Bool := (!decide (lowOff x = 0) && !decide (x = 2 ^ L - 1)) && !(l.any fun o => !fitB x o)
/-- The groups among the first k rows, in the order of the rows. -/
def grpL (L : Nat) (l : List Nat) (k : Nat) : List Nat := (l.take k).filter (grpB L l)
theorem grpL_snoc (L : Nat) (l : List Nat) (k : Nat) (h : k < l.length) : grpL L l (k + 1) = grpL L l k ++ (if grpB L l (vA l k) then [vA l k] else []) := by
  unfold grpL
  rw [List.take_succ_eq_append_getElem h, List.filter_append, ← vA_get h]
  congr 1
  by_cases q : grpB L l (vA l k)
  · simp [q]
  · simp [q]
theorem info_G : (Tryd.prog.info? 61).map (fun i => (i.zero, i.size, i.bytes)) = some (some (.int .u64 0), 1, 8) := by kernel_rfl
theorem push_G {w : World} {ops : Array Oper} {rest : List Oper} {o : Oper} {a : Act} {Q : Exit → Act → World → Prop} (hgd : o.guard = none) (s x : Operand) (ho : o.op = .call { callee := .builtin .append, args := #[s, x], argTypes := #[62, 62] })
    (base : Nat) (v : Value) (l : List Nat) (n : Nat) (hn : n = l.length) (hs : a.eval s = v) (hown : w.ownsRow base 61 1 v n (fl encV l)) (B c : Nat) (y : Nat) (hx : a.eval x = .slice (some ⟨B, 0, none⟩) 1 c) (hB : Blk w B (encV y).toArray 61) (hl : n < 8796093022208) (hbase : base ≤ w.heap.size)
    (h : ∀ g cap w', w'.ownsRow base 61 1 (.slice (some ⟨g, 0, none⟩) (n + 1) cap) (n + 1) (fl encV (l ++ [y])) → w.grownBy w' v.ownBlock → (v.ownBlock = some g ∨ g = w.heap.size) → g < w'.heap.size → wpList Tryd.prog ops Q rest (a.put o.dst (.slice (some ⟨g, 0, none⟩) (n + 1) cap)) w') : wpList Tryd.prog ops Q (o :: rest) a w := by
  obtain ⟨i0, hi, hz0, hz1, hz2⟩ := info_parts info_G
  refine wpList_append_lies w hgd s x 62 ho base 61 i0 _ 1 8 Tryd.underlying62 hi hz0 hz1 hz2 rfl (by decide) v n (fl encV l) hs hown ⟨B, 0, none⟩ 1 c (encV y) hx (by simp [encV]) (World.news_of_block (cs := (encV y).toArray) (t := 61) (fr := (0, 0)) hB) (by intro u hu; simp [encV] at hu; first | (subst hu; rfl) | (rcases hu with rfl | rfl <;> rfl) | (rcases hu with rfl | rfl | rfl | rfl | rfl <;> rfl)) (by omega) (by unfold maxLen; omega) (by omega) hbase _ rfl ?_
  intro g cap w' h1 h2 h3 h4
  rw [← fl_snoc] at h1
  exact h g cap w' h1 h2 h3 h4
theorem spush_G {w : World} {ops : Array Oper} {o : Oper} {a : Act} {K : Act → World → Prop} {Q : Exit → Act → World → Prop} {E : Prop} (hgd : o.guard = none) (s x : Operand) (ho : o.op = .call { callee := .builtin .append, args := #[s, x], argTypes := #[62, 62] })
    (base : Nat) (v : Value) (l : List Nat) (n : Nat) (hn : n = l.length) (hs : a.eval s = v) (hown : w.ownsRow base 61 1 v n (fl encV l)) (B c : Nat) (y : Nat) (hx : a.eval x = .slice (some ⟨B, 0, none⟩) 1 c) (hB : Blk w B (encV y).toArray 61) (hl : n < 8796093022208) (hbase : base ≤ w.heap.size)
    (h : ∀ g cap w', w'.ownsRow base 61 1 (.slice (some ⟨g, 0, none⟩) (n + 1) cap) (n + 1) (fl encV (l ++ [y])) → w.grownBy w' v.ownBlock → (v.ownBlock = some g ∨ g = w.heap.size) → g < w'.heap.size → K (a.put o.dst (.slice (some ⟨g, 0, none⟩) (n + 1) cap)) w') : if Region.wanted o (yielded ops a.tmps) = true then Oper.wp Tryd.prog o a w K Q else E := by
  obtain ⟨i0, hi, hz0, hz1, hz2⟩ := info_parts info_G
  refine step_append_lies w hgd s x 62 ho base 61 i0 _ 1 8 Tryd.underlying62 hi hz0 hz1 hz2 rfl (by decide) v n (fl encV l) hs hown ⟨B, 0, none⟩ 1 c (encV y) hx (by simp [encV]) (World.news_of_block (cs := (encV y).toArray) (t := 61) (fr := (0, 0)) hB) (by intro u hu; simp [encV] at hu; first | (subst hu; rfl) | (rcases hu with rfl | rfl <;> rfl) | (rcases hu with rfl | rfl | rfl | rfl | rfl <;> rfl)) (by omega) (by unfold maxLen; omega) (by omega) hbase _ rfl ?_
  intro g cap w' h1 h2 h3 h4
  rw [← fl_snoc] at h1
  exact h g cap w' h1 h2 h3 h4
end Go.Proofs.YtnabbmdhhddfbaaDoor
