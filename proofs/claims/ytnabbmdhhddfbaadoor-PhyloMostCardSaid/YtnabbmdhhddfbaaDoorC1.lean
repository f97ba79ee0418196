/- tree: the children of all nodes, the leaves; rows in blocks of their own. -/
import Derived.Test.YtnabbmdhhddfbaaDoorA2
import Derived.Test.YtnabbmdhhddfbaaDoorB0
import Derived.Test.YtnabbmdhhddfbaaDoorB4
namespace Go.Proofs.YtnabbmdhhddfbaaDoor
open Go.RowKit
def slR (x : Rw) : Value := .slice x.1 x.2.1 x.2.2
/-- Block g has n rows; row i is the list S i, in a block of its own or nil. -/
structure FamW (w : World) (base g n : Nat) (S : Nat → List Nat) (rs : Nat → Rw) : Prop where
  rows : w.ownsRow base 38 1 (.slice (some ⟨g, 0, none⟩) n n) n (fl encR ((List.range n).map rs))
  row : ∀ i, i < n → w.ownsRow base 3 1 (slR (rs i)) (S i).length (fl encI (iN (S i)))
  len : ∀ i, i < n → (rs i).2.1 = (S i).length
  dis : ∀ i j, i < n → j < n → i ≠ j → (slR (rs i)).ownBlock = none ∨ (slR (rs i)).ownBlock ≠ (slR (rs j)).ownBlock
  far : ∀ i, i < n → (slR (rs i)).ownBlock ≠ some g
theorem setR_put {n i : Nat} {rs : Nat → Rw} (x : Rw) (hi : i < n) : ((List.range n).map rs).set i x = (List.range n).map fun j => if j = i then x else rs j := by
  apply List.ext_getElem?
  intro j
  by_cases hj : j < n
  · by_cases e : j = i
    · subst e; simp [hj]
    · rw [List.getElem?_set_ne (by omega)]
      simp [hj, e]
  · simp [hj]
theorem fl_setR (l : List Rw) (k : Nat) (x : Rw) : (fl encR l).set k (.slice x.1 x.2.1 x.2.2) = fl encR (l.set k x) := by
  induction l generalizing k with
  | nil => simp [fl]
  | cons y l ih =>
    have e : ∀ y l, fl encR (y :: l) = .slice y.1 y.2.1 y.2.2 :: fl encR l := fun y l => by simp [fl, encR]
    cases k with
    | zero => simp [e]
    | succ k => simp only [e, List.set_cons_succ]; rw [ih]
theorem grown_set (w : World) (b o : Nat) (u : Value) : w.grownBy (w.setCell ⟨b, o, none⟩ u) (some b) := ⟨rfl, rfl, rfl, by simp [World.setCell], fun k _ hne => Below.heap_setCell w ⟨b, o, none⟩ u k (fun e => hne (by rw [e]))⟩
section
variable {w w' : World} {base g n : Nat} {S : Nat → List Nat} {rs : Nat → Rw}
theorem FamW.cell (h : FamW w base g n S rs) {i : Nat} (hi : i < n) : w.cell? ⟨g, i, none⟩ = some (slR (rs i)) := by
  obtain ⟨b, o, e, _, hc⟩ := rdR (rd_of_owns h.rows) (by simp; omega)
  simp only [Option.some.injEq, Addr.mk.injEq, and_true] at e
  obtain ⟨rfl, rfl⟩ := e
  have := hc i (by simpa using hi)
  rw [Nat.zero_add] at this
  rw [this]
  simp [rA, rN, rC, hi, slR]
theorem FamW.bl (h : FamW w base g n S rs) (hb : Below w.heap.size w w') : FamW w' base g n S rs := ⟨owns_below h.rows hb, fun i hi => owns_below (h.row i hi) hb, h.len, h.dis, h.far⟩
/-- Row i grew: it is x now, and its cell is laid anew. -/
theorem FamW.grow (h : FamW w base g n S rs) {i : Nat} (hi : i < n) {x : Rw} {X : List Nat} (hg : w.grownBy w' (slR (rs i)).ownBlock) (hx : w'.ownsRow base 3 1 (slR x) X.length (fl encI (iN X))) (hl : x.2.1 = X.length)
    (hb : (slR x).ownBlock = (slR (rs i)).ownBlock ∨ ∃ b, (slR x).ownBlock = some b ∧ w.heap.size ≤ b) :
    FamW (w'.setCell ⟨g, i, none⟩ (slR x)) base g n (fun j => if j = i then X else S j) (fun j => if j = i then x else rs j) := by
  have hgs : g < w.heap.size := (h.rows.lt g rfl).2
  have hxg : (slR x).ownBlock ≠ some g := by
    rcases hb with hb | ⟨b, hb, hb2⟩
    · rw [hb]; exact h.far i hi
    · rw [hb]; intro e; have := Option.some.inj e; omega
  have hother : ∀ j, j < n → j ≠ i → (slR (rs j)).ownBlock = none ∨ (slR (rs j)).ownBlock ≠ (slR x).ownBlock := fun j hj hji => by
    rcases h.dis j i hj hi hji with h1 | h1
    · exact .inl h1
    · rcases hb with hb | ⟨b, hb, hb2⟩
      · right; rw [hb]; exact h1
      · cases hq : (slR (rs j)).ownBlock with
        | none => exact .inl rfl
        | some k =>
          right
          rw [hb]
          intro e
          have := ((h.row j hj).lt k hq).2
          have := Option.some.inj e
          omega
  refine ⟨?_, fun j hj => ?_, fun j hj => ?_, fun j k hj hk hjk => ?_, fun j hj => ?_⟩
  · have h0 := h.rows.kept hg (.inr (fun e => h.far i hi e.symm))
    have h1 := (World.ownsRow.stored h0 i (slR x)).1
    unfold slR at h1
    rw [fl_setR, setR_put x hi] at h1
    exact h1
  · by_cases e : j = i
    · subst e
      simp only [if_true]
      exact ownsRow_setCell_other (a := ⟨g, j, none⟩) hx hxg _
    · simp only [if_neg e]
      exact ownsRow_setCell_other (a := ⟨g, i, none⟩) ((h.row j hj).kept hg (h.dis j i hj hi e)) (h.far j hj) _
  · by_cases e : j = i
    · simp only [if_pos e]; exact hl
    · simp only [if_neg e]; exact h.len j hj
  · by_cases e : j = i
    · have e2 : k ≠ i := by omega
      simp only [if_pos e, if_neg e2]
      rcases hother k hk e2 with h1 | h1
      · cases hq : (slR x).ownBlock with
        | none => exact .inl rfl
        | some q => right; rw [h1]; intro e; cases e
      · exact .inr (Ne.symm h1)
    · by_cases e2 : k = i
      · simp only [if_neg e, if_pos e2]; exact hother j hj e
      · simp only [if_neg e, if_neg e2]; exact h.dis j k hj hk hjk
  · by_cases e : j = i
    · simp only [if_pos e]; exact hxg
    · simp only [if_neg e]; exact h.far j hj
/-- The rows when they are made. -/
theorem FamW.made (w : World) (base n : Nat) (hb : base ≤ w.heap.size) (hn : n ≤ maxLen) : FamW (w.alloc (.cells (madeCells #[.slice none 0 0] n) 38)) base w.heap.size n (fun _ => []) (fun _ => (none, 0, 0)) := by
  refine ⟨?_, fun i hi => World.ownsRow_nil _ _ _ _, fun i hi => rfl, fun _ _ _ _ _ => .inl rfl, fun i hi => by intro e; cases e⟩
  have h := owns_made (w := w) (base := base) (e := 38) (k := 1) (n := n) (cs := madeCells #[.slice none 0 0] n) hb (by simp [madeCells]) hn
  have e : (madeCells #[Value.slice none 0 0] n).toList = fl encR ((List.range n).map fun _ => ((none, 0, 0) : Rw)) := by
    have h2 := made_cells encR 1 (fun _ => rfl) (by omega) (none, 0, 0) n
    rw [Nat.mul_one] at h2
    rw [show (List.range n).map (fun _ => ((none, 0, 0) : Rw)) = List.replicate n (none, 0, 0) by simp [List.map_const']]
    exact h2
  rw [e] at h
  exact h
end
/-- Node u is a child of node v. -/
def kidB (t : List Nd) (v u : Nat) : Bool := decide (0 < u) && decide (nP t u = (v : Int))
/-- The children of v among the first k nodes. -/
def famL (t : List Nd) (k v : Nat) : List Nat := (List.range k).filter (kidB t v)
theorem famL_snoc (t : List Nd) (k v : Nat) : famL t (k + 1) v = famL t k v ++ (if kidB t v k then [k] else []) := by
  unfold famL
  rw [List.range_succ, List.filter_append]
  congr 1
  by_cases q : kidB t v k <;> simp [q]
theorem famL_le (t : List Nd) (k v : Nat) : (famL t k v).length ≤ k := by
  have := List.length_filter_le (kidB t v) (List.range k)
  simpa [famL] using this
set_option maxRecDepth 100000 in
set_option maxHeartbeats 4000000 in
theorem families_any (a : Option Addr) (n c : Nat) (t : List Nd) (w : World) (hn : t.length = n) (hN : n ≤ 64) (hA : Rd w a (fl encNd t)) (hP : ∀ v, 0 < v → v < n → 0 ≤ nP t v ∧ nP t v < n) :
    Calls Tryd.prog 78 #[.slice a n c] w fun e w' => ∃ g rs, e = .returned (.slice (some ⟨g, 0, none⟩) n n) ∧ FamW w' w.heap.size g n (fun v => famL t n v) rs ∧ Below w.heap.size w w' := by
  have HN := Lib.hid hn
  have HA := Lib.hid hA
  have HP := Lib.hid hP
  obtain ⟨i0, hi0, hz0, hz1, hz2⟩ := info_parts info_R
  have hmk := run_make (P := Tryd.prog) w 106 38 i0 _ Tryd.underlying106 hi0 hz0 .i64 .i64 (n : Int) (n : Int) (by omega) (by omega) (by rw [hz2]; omega) (by omega)
  simp only [hz1, Int.toNat_natCast, Nat.mul_one] at hmk
  have hF0 := FamW.made w w.heap.size n (Nat.le_refl _) (by unfold maxLen; omega)
  have hb0 := bl_alloc (Below.refl _ w) (.cells (madeCells #[.slice none 0 0] n) 38)
  have HF0 := Lib.hid hF0
  have HB0 := Lib.hid hb0
  clear hi0 hz0 hz1 hz2 hn hA hP hF0 hb0
  go_enter Tryd.func78, Tryd.ntmps78
  go_upto_region 2 with fail
  obtain ⟨g, hg⟩ : ∃ x, x = w.heap.size := ⟨_, rfl⟩
  obtain ⟨w1, hw1⟩ : ∃ x, x = w.alloc (.cells (madeCells #[.slice none 0 0] n) 38) := ⟨_, rfl⟩
  rw [← hw1] at HF0 HB0 ⊢
  rw [← hg] at HF0 HB0 ⊢
  have HG := Lib.hid hg
  clear hw1 hg hmk
  go_wp2_with fail
  go_loopw [11] (fun x wr => ∃ k : Nat, k ≤ n ∧ x = .int .i64 k ∧ ∃ rs, Hid (FamW wr g g n (fun v => famL t k v) rs) ∧ Hid (Below g w wr)) (fun x _ => n - (intOf x).toNat)
  case atStart => exact ⟨0, by omega, rfl, _, HF0, HB0⟩
  case round =>
    clear HF0 HB0
    obtain ⟨k, hk, rfl, rs, hF, hbl⟩ := hrel
    by_cases hlt : k < n
    · obtain ⟨b, o, rfl, hb, hc⟩ := rdNd HA.out (by rw [HN.out]; omega)
      obtain ⟨G0, G1⟩ := hc k (by rw [HN.out]; exact hlt)
      rw [← HG.out] at hb
      have G0' := (hbl.out.cell (p := ⟨b, o + k * 2, none⟩) hb).trans G0
      have G1' := (hbl.out.cell (p := ⟨b, o + k * 2 + 1, none⟩) hb).trans G1
      have hsn : Hid (∀ v, famL t (k + 1) v = famL t k v ++ (if kidB t v k then [k] else [])) := fun v => famL_snoc t k v
      have HPK := Lib.hid (HP.out k)
      have hkd : Hid (∀ v, kidB t v k = (decide (0 < k) && decide (nP t k = (v : Int)))) := fun v => rfl
      clear hc G0 G1
      generalize nP t k = P at *
      generalize nS t k = s at *
      by_cases h0 : k = 0
      · have hfam : Hid ((fun v => famL t (k + 1) v) = fun v => famL t k v) := by
          show _ = _
          funext v
          rw [hsn.out, hkd.out, decide_eq_false (by omega)]
          simp
        have d1 : decide (0 < k) = false := by simp; omega
        clear h0
        go_wp2_with fail
        go_roundw
        case rel => exact ⟨k + 1, by omega, by go_num, rs, by rw [hfam.out]; exact hF.out.bl (bl_alloc (Below.refl _ _) _), hbl.out.trans ((bl_alloc (Below.refl _ wr) _).mono (by have := hbl.out.size; have := HG.out; omega))⟩
        case measure => simp [intOf]; omega
      · have h00 : 0 < k := by omega
        obtain ⟨hp0, hpn⟩ := HPK.out h00 hlt
        obtain ⟨p, rfl⟩ : ∃ p : Nat, P = p := ⟨P.toNat, by omega⟩
        have hpn' : p < n := by omega
        have d1 : decide (0 < k) = true := by simpa using h00
        clear h0 hp0 hpn
        go_upto_region 6 with fail
        have hF2 := hF.out.bl (bl_alloc (Below.refl _ wr) (.cells #[.int .i64 p, .string s] 60))
        have hbl2 : Below g w (wr.alloc (.cells #[.int .i64 p, .string s] 60)) := hbl.out.trans ((bl_alloc (Below.refl _ wr) _).mono (by have := hbl.out.size; have := HG.out; omega))
        have hX := Blk.new wr #[.int .i64 p, .string s] 60
        obtain ⟨X, hXe⟩ : ∃ x, x = wr.heap.size := ⟨_, rfl⟩
        have hz2 : (wr.alloc (.cells #[.int .i64 p, .string s] 60)).heap.size = X + 1 := by rw [hXe]; simp
        have hgX : g < X := by rw [hXe]; exact (hF.out.rows.lt g rfl).2
        obtain ⟨w2, hw2⟩ : ∃ x, x = wr.alloc (.cells #[.int .i64 p, .string s] 60) := ⟨_, rfl⟩
        rw [← hw2] at hF2 hbl2 hX hz2 ⊢
        rw [← hXe] at hX ⊢
        have HXE := Lib.hid hXe
        have HRL : Hid (∀ q, (slR (rs p)).ownBlock = some q → q < X) := fun q hq => by rw [hXe]; exact ((hF.out.row p hpn').lt q hq).2
        clear hw2 hXe G0' G1' hF hbl hb
        have c0 : w2.cell? ⟨X, 0, none⟩ = some (.int .i64 p) := hX.cell 0
        have c1 := hF2.cell hpn'
        obtain ⟨⟨A, m, cp⟩, hx⟩ : ∃ x, x = rs p := ⟨_, rfl⟩
        have hm : m = (famL t k p).length := by have := hF2.len p hpn'; rw [← hx] at this; exact this
        have hrow := hF2.row p hpn'
        have hfar := hF2.far p hpn'
        rw [← hx] at c1 hrow hfar
        have c1' : w2.cell? ⟨g, p, none⟩ = some (.slice A m cp) := c1
        have HM := Lib.hid hm
        have hm64 : m ≤ 64 := by have := famL_le t k p; omega
        have HX := Lib.hid hX
        have HXX := Lib.hid hx
        have HF2 := Lib.hid hF2
        have HB2 := Lib.hid hbl2
        have HROW := Lib.hid hrow
        have HFAR := Lib.hid hfar
        clear c1 hm hX hx hF2 hbl2 hrow hfar
        refine wp_region_order (S := fun w' => w'.cell? ⟨X, 0, none⟩ = some (.int .i64 p) ∧ w'.cell? ⟨g, p, none⟩ = some (.slice A m cp)) 11 [0,1,2,3,4,5,6,7,8] [9,10] (by kernel_rfl) (by kernel_rfl) ⟨c0, c1'⟩ ?_
        iterate 9 (refine headT_cons (by rfl) (by rfl) (by intro w hSw; obtain ⟨s0, s1⟩ := hSw; go_simp; try rfl) ?_; simp only [Act.put, List.setIfInBounds_toArray, List.set_cons_zero, List.set_cons_succ])
        refine headT_nil ?_
        obtain ⟨w4, hw4⟩ : ∃ x, x = w2.drew := ⟨_, rfl⟩
        rw [← hw4]
        have hb4 : Below w2.heap.size w2 w4 := by rw [hw4]; exact bl_drewN (Below.refl _ _) 1
        have hz4 : w4.heap.size = X + 1 := by rw [hw4]; exact hz2
        clear hw4
        refine midT_cons (by rfl) (fun K hK => ?_)
        rw [if_pos (by rfl)]
        go_simp
        have hb5 := bl_alloc hb4 (.cells #[.int .i64 k] 3)
        have hN5 := Blk.new w4 #[.int .i64 k] 3
        have hz5 : (w4.alloc (.cells #[.int .i64 k] 3)).heap.size = X + 2 := by simp [hz4]
        rw [hz4] at hN5
        obtain ⟨w5, hw5⟩ : ∃ x, x = w4.alloc (.cells #[.int .i64 k] 3) := ⟨_, rfl⟩
        rw [← hw5] at hb5 hN5 hz5 ⊢
        have HF5 := Lib.hid (HF2.out.bl hb5)
        have HX5 := Lib.hid (HX.out.below hb5)
        have HR5 := Lib.hid (owns_below HROW.out hb5)
        have HB5 : Hid (Below g w w5) := HB2.out.trans (hb5.mono (by omega))
        clear hw5
        refine hK.out _ _ ⟨HX5.out.cell 0, by have h := HF5.out.cell hpn'; rw [← HXX.out] at h; exact h⟩ (fun _ => ?_)
        clear hK K
        try simp only [Act.put, List.setIfInBounds_toArray, List.set_cons_zero, List.set_cons_succ]
        refine midT_cons (by rfl) (fun K hK => ?_)
        refine spush_I rfl (.tmp 25) (.tmp 27) rfl g (.slice A m cp) (iN (famL t k p)) m (by rw [iN_len]; exact HM.out) rfl (by have h := HR5.out; rw [← HM.out] at h; exact h) _ _ (k : Int) rfl hN5 (by omega) (by omega) ?_
        intro g6 c6 w6 h1 h2 h3 h4
        have hz6 := h2.size
        have HX6 := Lib.hid (HX5.out.grown h2 (by
          intro e
          have := HRL.out X (by rw [← HXX.out]; exact e.symm)
          omega))
        have HG6 := Lib.hid (HF5.out.grow (w' := w6) hpn' (x := (some ⟨g6, 0, none⟩, m + 1, c6)) (X := famL t k p ++ [k]) (by rw [← HXX.out]; exact h2) (by
            rw [← iN_snoc] at h1
            have e : (famL t k p ++ [k]).length = m + 1 := by rw [List.length_append, ← HM.out]; rfl
            rw [e]; exact h1) (by rw [List.length_append, ← HM.out]; rfl) (by
            rw [← HXX.out]
            rcases h3 with h3 | h3
            · exact .inl h3.symm
            · exact .inr ⟨g6, rfl, by omega⟩))
        have hgp5 : w5.cell? ⟨g, p, none⟩ = some (.slice A m cp) := by have h := HF5.out.cell hpn'; rw [← HXX.out] at h; exact h
        have hgp6 : w6.cell? ⟨g, p, none⟩ = some (.slice A m cp) := h2.cell hgp5 (fun e => HFAR.out e.symm)
        have hrw6 := HF5.out.rows.kept h2 (.inr (fun e => HFAR.out e.symm))
        have hfz6 : w6.frozen? ⟨g, p, none⟩ = false := World.ownsRow.frozenAt hrw6 p
        have HB6 := Lib.hid (bl_grown (a := w) (by have h := HB5.out; rw [HG.out] at h; exact h) h2 (fun r hr => by have := (HR5.out.lt r hr).1; have := HG.out; omega))
        refine hK.out _ _ ⟨HX6.out.cell 0, hgp6⟩ (fun _ => ?_)
        clear hK K h1 h2 h3 h4 hrw6 hgp5 hN5 hb4 hb5 c0 c1'
        try simp only [Act.put, List.setIfInBounds_toArray, List.set_cons_zero, List.set_cons_succ]
        refine midT_nil ?_
        simp only [List.drop_succ_cons, List.drop_zero]
        go_wp2_with fail
        refine NoPanic.normal ?_
        go_wp2_with fail
        have hfam : Hid ((fun v => famL t (k + 1) v) = fun j => if j = p then famL t k p ++ [k] else famL t k j) := by
          show _ = _
          funext v
          rw [hsn.out, hkd.out, d1]
          by_cases e : v = p
          · subst e; simp
          · rw [if_neg e, decide_eq_false (fun h => e (by omega))]; simp
        have HB7 : Hid (Below g w (w6.setCell ⟨g, p, none⟩ (.slice (some ⟨g6, 0, none⟩) (m + 1) c6))) := by
          have h := HB6.out
          rw [← HG.out] at h
          exact h.setCell (p := ⟨g, p, none⟩) (Nat.le_refl _) _
        go_roundw
        case rel => exact ⟨k + 1, by omega, by go_num, _, by rw [hfam.out]; exact HG6.out, HB7⟩
        case measure => simp [intOf]; omega
    · obtain rfl : k = n := by omega
      go_wp2_with fail
      go_ret
      exact ⟨g, rs, rfl, by rw [← HG.out]; exact hF.out, by rw [← HG.out]; exact hbl.out⟩
end Go.Proofs.YtnabbmdhhddfbaaDoor
