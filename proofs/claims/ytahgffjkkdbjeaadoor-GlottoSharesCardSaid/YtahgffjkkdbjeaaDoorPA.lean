/- append of a list's elements to a slice of the call's own; the source may be nil or empty. -/
import Derived.Test.YtahgffjkkdbjeaaDoorPU
import Derived.Maps.AppendAt
namespace Go.Proofs.YtahgffjkkdbjeaaDoor
open Go.RowKit
section
variable {α : Type} {enc : α → List Value}
theorem run_append_nilsrc {P : Program} (w : World) {base : Nat} {t ty e : TypeId} {i : TypeInfo} {k : Nat} (ht : P.underlying t = some (.slice e)) (hi : P.info? e = some i) {v : Value} {n : Nat} {xs : List Value} (hown : w.ownsRow base e k v n xs) (c : Nat) :
    (Builtin.append_ #[t, t] ty #[v, .slice none 0 c]).run P w = .ok v w := by
  rcases hown.2 with ⟨rfl, rfl⟩ | ⟨g, cap, cur, rfl, _, _, hnc, _⟩
  · simp [Builtin.append_, run_underlying ht, sizeOf, typeInfo, hi, Builtin.lenOf, Builtin.firstCells]
  · simp [Builtin.append_, run_underlying ht, sizeOf, typeInfo, hi, Builtin.lenOf, Builtin.firstCells, hnc, storeCells]
/-- One append of a whole list. -/
theorem run_pushs {w : World} {k bytes : Nat} (hk : ∀ x, (enc x).length = k) (hk0 : 0 < k) (h1 : ∀ x, ∀ u ∈ enc x, u.oneCell' = true) {base : Nat} {t ty e : TypeId} {z : Value} (ht : Tryd.prog.underlying t = some (.slice e))
    (hinfo : (Tryd.prog.info? e).map (fun i => (i.zero, i.size, i.bytes)) = some (some z, k, bytes)) (hzs : z.cells.size = k) (v : Value) (l : List α) (n : Nat) (hn : n = l.length) (hown : w.ownsRow base e k v n (fl enc l))
    (A : Option Addr) (m c : Nat) (l2 : List α) (hm : m = l2.length) (hA : Rd w A (fl enc l2)) (hA0 : A = none → m = 0) (hlen : n + m < 1048576) (hbytes : bytes ≤ 1048576) (hbase : base ≤ w.heap.size) :
    ∃ v' w', (Builtin.append_ #[t, t] ty #[v, .slice A m c]).run Tryd.prog w = .ok v' w' ∧ w'.ownsRow base e k v' (n + m) (fl enc (l ++ l2)) ∧ w.grownBy w' v.ownBlock ∧ (v'.ownBlock = v.ownBlock ∨ v'.ownBlock = some w.heap.size) := by
  obtain ⟨i0, hi, hz0, hz1, hz2⟩ := info_parts hinfo
  rcases A with _ | ad
  · have h0 := hA0 rfl
    subst h0
    have : l2 = [] := List.eq_nil_of_length_eq_zero hm.symm
    subst this
    refine ⟨v, w, run_append_nilsrc w ht hi hown c, ?_, World.grownBy.refl w _, .inl rfl⟩
    rw [List.append_nil]; exact hown
  · have hcells : ∀ j u, (fl enc l2)[j]? = some u → w.cell? (ad.add j) = some u := by
      intro j u hu
      have hj : j < (fl enc l2).length := by
        rcases Nat.lt_or_ge j (fl enc l2).length with h | h
        · exact h
        · rw [List.getElem?_eq_none h] at hu; cases hu
      obtain ⟨b, off, e1, _, hc⟩ := hA (by omega)
      have e1 := Option.some.inj e1
      have h7 := hc j hj
      rw [List.getD_eq_getElem?_getD, hu] at h7
      rw [e1]
      by_cases ej : j = 0
      · subst ej; simpa [Addr.add] using h7
      · simpa [Addr.add, ej] using h7
    have hmul : (n + m) * bytes ≤ 1048576 * 1048576 := Nat.mul_le_mul (Nat.le_of_lt hlen) hbytes
    obtain ⟨v', w', hrun, h2, h3, _, h5⟩ := run_append_own_at (P := Tryd.prog) w base t ty e i0 z k bytes ht hi hz0 hz1 hz2 hzs hk0 v n (fl enc l) hown ad m c (fl enc l2) (by rw [fl_length hk, hm]) hcells
      (fun u hu => by
        obtain ⟨x, _, hx⟩ := List.mem_flatMap.1 hu
        exact h1 x u hx) (by unfold maxLen; omega) (by omega) hbase
    exact ⟨v', w', hrun, by rw [fl_append]; exact h2, h3, h5⟩
theorem wp_pushs {w : World} {k bytes : Nat} {o : Oper} {a : Act} {K : Act → World → Prop} {Q : Exit → Act → World → Prop} (hk : ∀ x, (enc x).length = k) (hk0 : 0 < k) (h1 : ∀ x, ∀ u ∈ enc x, u.oneCell' = true) {base : Nat} {t e : TypeId} {z : Value} (ht : Tryd.prog.underlying t = some (.slice e))
    (hinfo : (Tryd.prog.info? e).map (fun i => (i.zero, i.size, i.bytes)) = some (some z, k, bytes)) (hzs : z.cells.size = k) (s x : Operand) (ho : o.op = .call { callee := .builtin .append, args := #[s, x], argTypes := #[t, t] })
    (v : Value) (l : List α) (n : Nat) (hn : n = l.length) (hs : a.eval s = v) (hown : w.ownsRow base e k v n (fl enc l))
    (A : Option Addr) (m c : Nat) (l2 : List α) (hm : m = l2.length) (hx : a.eval x = .slice A m c) (hA : Rd w A (fl enc l2)) (hA0 : A = none → m = 0) (hlen : n + m < 1048576) (hbytes : bytes ≤ 1048576) (hbase : base ≤ w.heap.size)
    (h : ∀ v' w', w'.ownsRow base e k v' (n + m) (fl enc (l ++ l2)) → w.grownBy w' v.ownBlock → (v'.ownBlock = v.ownBlock ∨ v'.ownBlock = some w.heap.size) → K (a.put o.dst v') w') : o.wp Tryd.prog a w K Q := by
  obtain ⟨v', w', hrun, h2, h3, h4⟩ := run_pushs (ty := o.type) hk hk0 h1 ht hinfo hzs v l n hn hown A m c l2 hm hA hA0 hlen hbytes hbase
  unfold Oper.wp execOp
  simp only [ho, resolve, invoke, builtin, Sem.run_bind, Sem.run_pure, Result.andThen_ok, List.map_toArray, List.map_cons, List.map_nil, hs, hx, hrun]
  exact h v' w' h2 h3 h4
theorem wpList_pushs {w : World} {k bytes : Nat} {ops : Array Oper} {rest : List Oper} {o : Oper} {a : Act} {Q : Exit → Act → World → Prop} (hgd : o.guard = none) (hk : ∀ x, (enc x).length = k) (hk0 : 0 < k) (h1 : ∀ x, ∀ u ∈ enc x, u.oneCell' = true) {base : Nat} {t e : TypeId} {z : Value} (ht : Tryd.prog.underlying t = some (.slice e))
    (hinfo : (Tryd.prog.info? e).map (fun i => (i.zero, i.size, i.bytes)) = some (some z, k, bytes)) (hzs : z.cells.size = k) (s x : Operand) (ho : o.op = .call { callee := .builtin .append, args := #[s, x], argTypes := #[t, t] })
    (v : Value) (l : List α) (n : Nat) (hn : n = l.length) (hs : a.eval s = v) (hown : w.ownsRow base e k v n (fl enc l))
    (A : Option Addr) (m c : Nat) (l2 : List α) (hm : m = l2.length) (hx : a.eval x = .slice A m c) (hA : Rd w A (fl enc l2)) (hA0 : A = none → m = 0) (hlen : n + m < 1048576) (hbytes : bytes ≤ 1048576) (hbase : base ≤ w.heap.size)
    (h : ∀ v' w', w'.ownsRow base e k v' (n + m) (fl enc (l ++ l2)) → w.grownBy w' v.ownBlock → (v'.ownBlock = v.ownBlock ∨ v'.ownBlock = some w.heap.size) → wpList Tryd.prog ops Q rest (a.put o.dst v') w') : wpList Tryd.prog ops Q (o :: rest) a w :=
  wpList_plain hgd fun _ hK => wp_pushs hk hk0 h1 ht hinfo hzs s x ho v l n hn hs hown A m c l2 hm hx hA hA0 hlen hbytes hbase fun v' w' h2 h3 h4 => hK _ _ (h v' w' h2 h3 h4)
end
end Go.Proofs.YtahgffjkkdbjeaaDoor
