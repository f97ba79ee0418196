/- The document's Build at every table. -/
import Derived.Test.YtnabbmdhhddfbaaDoorA16
import Derived.Test.YtnabbmdhhddfbaaDoorB3
import Derived.Test.YtnabbmdhhddfbaaDoorD2
import Derived.Test.YtnabbmdhhddfbaaDoorE1
namespace Go.Proofs.YtnabbmdhhddfbaaDoor
open Go Go.RowKit Go.Shelf
theorem info_S : (Tryd.prog.info? 9).map (fun i => (i.zero, i.size, i.bytes)) = some (some (.string ByteArray.empty), 1, 16) := by kernel_rfl
theorem push_S {w : World} {ops : Array Oper} {rest : List Oper} {o : Oper} {a : Act} {Q : Exit → Act → World → Prop} (hgd : o.guard = none) (s x : Operand) (ho : o.op = .call { callee := .builtin .append, args := #[s, x], argTypes := #[67, 67] })
    (base : Nat) (v : Value) (l : List ByteArray) (n : Nat) (hn : n = l.length) (hs : a.eval s = v) (hown : w.ownsRow base 9 1 v n (fl encS l)) (B c : Nat) (y : ByteArray) (hx : a.eval x = .slice (some ⟨B, 0, none⟩) 1 c) (hB : Blk w B (encS y).toArray 9) (hl : n < 8796093022208) (hbase : base ≤ w.heap.size)
    (h : ∀ g cap w', w'.ownsRow base 9 1 (.slice (some ⟨g, 0, none⟩) (n + 1) cap) (n + 1) (fl encS (l ++ [y])) → w.grownBy w' v.ownBlock → (v.ownBlock = some g ∨ g = w.heap.size) → g < w'.heap.size → wpList Tryd.prog ops Q rest (a.put o.dst (.slice (some ⟨g, 0, none⟩) (n + 1) cap)) w') : wpList Tryd.prog ops Q (o :: rest) a w := by
  obtain ⟨i0, hi, hz0, hz1, hz2⟩ := info_parts info_S
  refine wpList_append_lies w hgd s x 67 ho base 9 i0 _ 1 16 Tryd.underlying67 hi hz0 hz1 hz2 rfl (by decide) v n (fl encS l) hs hown ⟨B, 0, none⟩ 1 c (encS y) hx (by simp [encS]) (World.news_of_block (cs := (encS y).toArray) (t := 9) (fr := (0, 0)) hB) (by intro u hu; simp [encS] at hu; subst hu; rfl) (by omega) (by unfold maxLen; omega) (by omega) hbase _ rfl ?_
  intro g cap w' h1 h2 h3 h4
  rw [← fl_snoc] at h1
  exact h g cap w' h1 h2 h3 h4
def namL (nm : Nat → ByteArray) (k : Nat) : List ByteArray := (List.range k).map nm
theorem namL_len (nm : Nat → ByteArray) (k : Nat) : (namL nm k).length = k := by simp [namL]
theorem namL_snoc (nm : Nat → ByteArray) (k : Nat) : namL nm (k + 1) = namL nm k ++ [nm k] := by simp [namL, List.range_succ]
theorem namL_at (nm : Nat → ByteArray) {k i : Nat} (h : i < k) : sA (namL nm k) i = nm i := by simp [sA, namL, h]
theorem take_step {S : List Nat} {k s : Nat} (hk : k < S.length) (hs : vA S k = s) : S.take k ++ [s] = S.take (k + 1) := by
  rw [List.take_succ_eq_append_getElem hk, ← vA_get hk, hs]
/-- The two rows while they grow. -/
structure RbW (w : World) (base : Nat) (S : List Nat) (T : List ByteArray) (n g2 c2 g3 c3 : Nat) : Prop where
  r2 : w.ownsRow base 44 1 (.slice (some ⟨g2, 0, none⟩) n c2) n (fl encV S)
  r3 : w.ownsRow base 9 1 (.slice (some ⟨g3, 0, none⟩) n c3) n (fl encS T)
  d : g2 ≠ g3
theorem RbW.below {w w' : World} {base n g2 c2 g3 c3 : Nat} {S : List Nat} {T : List ByteArray} (h : RbW w base S T n g2 c2 g3 c3) (hb : Below w.heap.size w w') : RbW w' base S T n g2 c2 g3 c3 := ⟨owns_below h.r2 hb, owns_below h.r3 hb, h.d⟩
theorem RbW.lt2 {w : World} {base n g2 c2 g3 c3 : Nat} {S : List Nat} {T : List ByteArray} (h : RbW w base S T n g2 c2 g3 c3) : base ≤ g2 ∧ g2 < w.heap.size ∧ base ≤ g3 ∧ g3 < w.heap.size := ⟨(h.r2.lt g2 rfl).1, (h.r2.lt g2 rfl).2, (h.r3.lt g3 rfl).1, (h.r3.lt g3 rfl).2⟩
/-- Neither of the two rows. -/
def Apart (v : Value) (g2 g3 : Nat) : Prop := ∀ r, v.ownBlock = some r → r ≠ g2 ∧ r ≠ g3
theorem Apart.kept {w w' : World} {base e k n g2 g3 : Nat} {v : Value} {xs : List Value} (h : Apart v g2 g3) (ho : w.ownsRow base e k v n xs) {row : Nat} (hg : w.grownBy w' (some row)) (hr : row = g2 ∨ row = g3) : w'.ownsRow base e k v n xs := by
  refine ho.kept hg ?_
  cases hv : v.ownBlock with
  | none => exact .inl rfl
  | some r =>
    refine .inr fun e => ?_
    have := h r hv
    have := Option.some.inj e
    omega
theorem same_any (a1 a2 : Option Addr) (n c1 c2 : Nat) (T : List Nd) (w : World) (hn : T.length = n) (hm : n ≤ 1152921504606846976) (hA : Rd w a1 (fl encNd T)) (hB : Rd w a2 (fl encNd T)) :
    Calls Tryd.prog 20 #[.slice a1 n c1, .slice a2 n c2] w fun e w' => e = .returned (.bool true) ∧ ∃ n, w' = w.drewN n := by
  have HN := Lib.hid hn; clear hn
  go_enter Tryd.func20, Tryd.ntmps20
  go_wp2_with fail
  go_loopw [5] (fun x wr => ∃ k : Nat, k ≤ n ∧ x = .int .i64 k ∧ ∃ m, wr = w.drewN m) (fun x _ => n - (intOf x).toNat)
  case atStart => exact ⟨0, by omega, rfl, 0, rfl⟩
  case round =>
    obtain ⟨k, hk, rfl, m, rfl⟩ := hrel
    by_cases hlt : k < n
    · obtain ⟨b1, o1, rfl, _, hc1⟩ := rdNd hA (by rw [HN.out]; omega)
      obtain ⟨b2, o2, rfl, _, hc2⟩ := rdNd hB (by rw [HN.out]; omega)
      obtain ⟨G1, G2⟩ := hc1 k (by rw [HN.out]; omega)
      obtain ⟨G3, G4⟩ := hc2 k (by rw [HN.out]; omega)
      clear hc1 hc2 hA hB
      generalize nP T k = p at *
      generalize nS T k = s at *
      have hn1 : ∀ W, (binOp .neq 60 (.agg #[.int .i64 p, .string s]) (.agg #[.int .i64 p, .string s])).run Tryd.prog W = .ok (.bool false) W := fun W => by rw [neqNd]; simp
      go_wp2_with fail
      go_quiet (fail)
      go_wp2_with fail
      go_roundw
      case rel => exact ⟨k + 1, by omega, by go_num, m + nq, by simp⟩
      case measure => simp [intOf]; omega
    · go_wp2_with fail
      go_ret
      exact ⟨rfl, m, rfl⟩
end Go.Proofs.YtnabbmdhhddfbaaDoor
