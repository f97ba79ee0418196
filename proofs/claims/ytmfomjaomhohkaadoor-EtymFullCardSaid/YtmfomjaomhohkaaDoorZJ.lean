/- The statements' table of what comes from what (from). from: the walk. The law EtymLoops. -/
import Derived.Test.YtmfomjaomhohkaaDoorZI
import Derived.Test.YtmfomjaomhohkaaDoorZH
namespace Go.Proofs.YtmfomjaomhohkaaDoor
open Go Go.RowKit Go.Shelf
/-- What the links up to i say of a word a below k. -/
def frP (ls : List Lk) (S k i a : Nat) : Bool := decide (a = k) || (List.range i).any fun j => decide (lT ls j = (k : Int)) && decide (a ∈ abL ls S (lF ls j).toNat)
theorem frP_succ (ls : List Lk) (S k i a : Nat) : frP ls S k (i + 1) a = (frP ls S k i a || (decide (lT ls i = (k : Int)) && decide (a ∈ abL ls S (lF ls i).toNat))) := by
  unfold frP
  rw [List.range_succ, List.any_append]
  simp [Bool.or_assoc]
theorem frP_skip {ls : List Lk} {S k i : Nat} (h : lT ls i ≠ (k : Int)) (a : Nat) : frP ls S k (i + 1) a = frP ls S k i a := by
  rw [frP_succ, decide_eq_false h]; simp
theorem frP_hit {ls : List Lk} {S k i p : Nat} (h : lT ls i = (k : Int)) (hp : lF ls i = (p : Int)) (a : Nat) : frP ls S k (i + 1) a = (frP ls S k i a || decide (a ∈ abL ls S p)) := by
  rw [frP_succ, decide_eq_true h, hp, Int.toNat_natCast]; simp
theorem frP_full {ls : List Lk} {S k : Nat} (hA : Asc ls S) (hk : k < S) (a : Nat) : frP ls S k ls.length a = decide (a ∈ abL ls S k) := by
  rw [Bool.eq_iff_iff, decide_eq_true_iff, ab_iff hA.lkin hk, up_last]
  unfold frP
  rw [Bool.or_eq_true, decide_eq_true_iff, List.any_eq_true]
  constructor
  · rintro (rfl | ⟨j, hj, h⟩)
    · exact .inl rfl
    · rw [List.mem_range] at hj
      obtain ⟨p, q, h1, h2, h3, h4⟩ := hA.at hj
      rw [Bool.and_eq_true, decide_eq_true_iff, decide_eq_true_iff, h1, Int.toNat_natCast, ab_iff hA.lkin (by omega)] at h
      exact .inr ⟨p, upL_mem.2 ⟨j, hj, h.1, by rw [h1]; rfl⟩, h.2⟩
  · rintro (rfl | ⟨b, hb, hu⟩)
    · exact .inl rfl
    · obtain ⟨j, hj, e, hp⟩ := upL_mem.1 hb
      have := hA.up_lt hb
      refine .inr ⟨j, List.mem_range.2 hj, ?_⟩
      rw [Bool.and_eq_true, decide_eq_true_iff, decide_eq_true_iff, hp, ab_iff hA.lkin (by omega)]
      exact ⟨e, hu⟩
/-- Nothing above a word has a greater number. -/
theorem frP_high {ls : List Lk} {S : Nat} (hA : Asc ls S) {p a : Nat} (hp : p < S) (h : p < a) : decide (a ∈ abL ls S p) = false := decide_eq_false fun q => by
  have := hA.up ((ab_iff hA.lkin hp).1 q)
  omega
/-- Row k of the table. -/
def frT (ls : List Lk) (S k : Nat) : List Bool := (List.range S).map fun a => decide (a ∈ abL ls S k)
theorem frT_len (ls : List Lk) (S k : Nat) : (frT ls S k).length = S := by unfold frT; simp
theorem frT_at (ls : List Lk) {S k a : Nat} (h : a < S) : bA (frT ls S k) a = decide (a ∈ abL ls S k) := by
  unfold bA frT
  rw [List.getD_eq_getElem?_getD]
  simp [h]
theorem ofF_bools (n : Nat) (g : Nat → Bool) : ofF n (fun a => .bool (g a)) = (fl encB ((List.range n).map g)).toArray := by
  apply Array.ext
  · show (ofF n _).size = _
    rw [ofF_size, List.size_toArray, fl_length encB_len]; simp
  · intro i h1 h2
    have hi : i < n := by simpa [ofF] using h1
    have e : fl encB ((List.range n).map g) = ((List.range n).map g).map .bool := by
      unfold fl encB
      induction ((List.range n).map g) with
      | nil => rfl
      | cons a l ih => simp [ih]
    simp [ofF, e]
def rwD : Rw := (none, 0, 0)
/-- The table's first k rows. -/
structure FrW (w W : World) (ls : List Lk) (S k : Nat) (v : Value) (rs : List Rw) : Prop where
  own : W.ownsRow w.heap.size 34 1 v k (fl encR rs)
  len : rs.length = k
  row : ∀ i, i < k → (rs.getD i rwD).2.1 = S ∧ W.ownsRow w.heap.size 4 1 (slR (rs.getD i rwD)) S (fl encB (frT ls S i))
  bl : Below w.heap.size w W
theorem FrW.nil (w : World) (ls : List Lk) (S : Nat) : FrW w w ls S 0 (.slice none 0 0) [] := ⟨World.ownsRow_nil _ _ _ _, rfl, fun _ h => absurd h (Nat.not_lt_zero _), Below.refl _ _⟩
theorem FrW.below {w W W' : World} {ls : List Lk} {S k : Nat} {v : Value} {rs : List Rw} (h : FrW w W ls S k v rs) (hb : Below W.heap.size W W') : FrW w W' ls S k v rs := ⟨owns_below h.own hb, h.len, fun i hi => ⟨(h.row i hi).1, owns_below (h.row i hi).2 hb⟩, bl_trans h.bl hb⟩
theorem FrW.push {w W W1 W2 : World} {ls : List Lk} {S k : Nat} {v v' : Value} {rs : List Rw} {D : Nat} (h : FrW w W ls S k v rs) (hb : Below W.heap.size W W1) (hD : W1.ownsRow w.heap.size 4 1 (.slice (some ⟨D, 0, none⟩) S S) S (fl encB (frT ls S k)))
    (h1 : W2.ownsRow w.heap.size 34 1 v' (k + 1) (fl encR (rs ++ [(some ⟨D, 0, none⟩, S, S)]))) (h2 : W1.grownBy W2 v.ownBlock) : FrW w W2 ls S (k + 1) v' (rs ++ [(some ⟨D, 0, none⟩, S, S)]) := by
  have h' := h.below hb
  have hkp : ∀ {x : Value} {m : Nat} {xs : List Value}, W1.ownsRow w.heap.size 4 1 x m xs → W2.ownsRow w.heap.size 4 1 x m xs := fun {x m xs} hv => by
    refine hv.kept h2 ?_
    exact owns_neQ hv h'.own (by decide)
  refine ⟨h1, by rw [List.length_append, h.len]; rfl, fun i hi => ?_, bl_grown h'.bl h2 fun r e => (h'.own.lt r e).1⟩
  rw [getD_snoc, h.len]
  by_cases q : i < k
  · rw [if_pos q]
    exact ⟨(h'.row i q).1, hkp (h'.row i q).2⟩
  · have e : i = k := by omega
    rw [if_neg q, if_pos e, e]
    exact ⟨rfl, hkp hD⟩
theorem FrW.cell {w W : World} {ls : List Lk} {S k : Nat} {v : Value} {rs : List Rw} (h : FrW w W ls S k v rs) {i : Nat} (hi : i < k) (hS : 0 < S) : ∃ g c D o d, v = .slice (some ⟨g, 0, none⟩) k c ∧ g < W.heap.size ∧ W.cell? ⟨g, i, none⟩ = some (.slice (some ⟨D, o, none⟩) S d) ∧ D < W.heap.size ∧ ∀ a, a < S → W.cell? ⟨D, o + a, none⟩ = some (.bool (decide (a ∈ abL ls S i))) := by
  obtain ⟨a, cap, rfl, h1⟩ := owns_slice h.own
  obtain ⟨b, o, e, _, hc⟩ := rdR (rd_of_owns h.own) (by rw [h.len]; omega)
  rcases h1 with h1 | ⟨g, hg, hg2, e2⟩
  · omega
  · rw [e2] at e
    simp only [Option.some.injEq, Addr.mk.injEq, and_true] at e
    obtain ⟨rfl, rfl⟩ := e
    obtain ⟨r1, r2⟩ := h.row i hi
    have hci := hc i (by rw [h.len]; exact hi)
    obtain ⟨x, hx⟩ : ∃ x, x = rs.getD i rwD := ⟨_, rfl⟩
    have e3 : rs.getD i (none, 0, 0) = x := hx.symm
    rw [← hx] at r1 r2
    unfold rA rN rC at hci
    rw [e3] at hci
    obtain ⟨A, m, d⟩ := x
    have r1 : m = S := r1
    subst r1
    obtain ⟨D, oo, e4, hDl, hd⟩ := rdB (rd_of_owns r2) (by rw [frT_len]; exact hS)
    subst e4
    rw [Nat.zero_add] at hci
    refine ⟨g, cap, D, oo, d, by rw [e2], hg2, hci, hDl, fun a ha => ?_⟩
    have := hd a (by rw [frT_len]; exact ha)
    rw [frT_at ls ha] at this
    exact this
end Go.Proofs.YtmfomjaomhohkaaDoor
namespace Go.Proofs.YtmfomjaomhohkaaDoor
open Go Go.RowKit Go.Shelf
theorem info_RB : (Tryd.prog.info? 34).map (fun i => (i.zero, i.size, i.bytes)) = some (some (.slice none 0 0), 1, 24) := by kernel_rfl
theorem encR_oneQ : ∀ x : Rw, ∀ u ∈ encR x, u.oneCell' = true := by
  intro x u hu
  simp only [encR, List.mem_cons, List.not_mem_nil, or_false] at hu
  subst hu; rfl
set_option maxHeartbeats 16000000 in
set_option maxRecDepth 100000 in
theorem from_any (a : Option Addr) (m c S : Nat) (ls : List Lk) (w : World) (hm : ls.length = m) (hm2 : m ≤ 4096) (hS : S ≤ 10) (hS1 : 1 ≤ S) (hA : Rd w a (fl encLk ls)) (hC : Asc ls S) :
    Calls Tryd.prog 12 #[.slice a m c, .int .i64 S] w fun e w' => ∃ v rs, e = .returned v ∧ FrW w w' ls S S v rs := by
  have HA := Lib.hid hA
  have HC := Lib.hid hC
  have HM := Lib.hid hm
  obtain ⟨i1, hi0, hz0, hz1, hz2⟩ := info_parts info_B
  have hmb := fun w => run_make (P := Tryd.prog) w 34 4 i1 _ Tryd.underlying34 hi0 hz0 .i64 .i64 (S : Int) (S : Int) (by omega) (by omega) (by rw [hz2]; omega) (by omega)
  simp only [hz1, Int.toNat_natCast, Nat.mul_one] at hmb
  have HF0 := Lib.hid (FrW.nil w ls S)
  clear hi0 hz0 hz1 hz2 hm hA hC
  go_enter Tryd.func12, Tryd.ntmps12
  go_wp2_with fail
  go_loopw [6, 5] (fun y z wr => ∃ (k : Nat) (oa : Option Addr) (oc : Nat) (rs : List Rw), k ≤ S ∧ y = .int .i64 k ∧ z = .slice oa k oc ∧ Hid (FrW w wr ls S k (.slice oa k oc) rs)) (fun y _ _ => S - (intOf y).toNat)
  case atStart => exact ⟨0, none, 0, [], by omega, rfl, rfl, HF0⟩
  case round =>
    clear HF0
    obtain ⟨k, oa, oc, rs, hk, rfl, rfl, hF⟩ := hrel
    obtain ⟨wo, rfl⟩ : ∃ wo : World, wo = wr := ⟨_, rfl⟩
    by_cases hlt : k < S
    · have hk2 := hmb wo
      have hb5 : Below wo.heap.size wo (wo.alloc (.cells (madeCells #[.bool false] S) 4)) := bl_alloc (Below.refl _ _) _
      have hS5 : Blk (wo.alloc (.cells (madeCells #[.bool false] S) 4)) wo.heap.size (ofF S fun _ => .bool false) 4 := by rw [← bools_made]; exact Blk.new _ _ _
      have c5 : (wo.alloc (.cells (madeCells #[.bool false] S) 4)).cell? ⟨wo.heap.size, k, none⟩ = some (.bool false) := hS5.getF k hlt
      have f5 : (wo.alloc (.cells (madeCells #[.bool false] S) 4)).frozen? ⟨wo.heap.size, k, none⟩ = false := hS5.free k
      have hS6 := Blk.new wo ((madeCells #[.bool false] S).setIfInBounds k (.bool true)) 4
      have heq : (madeCells #[.bool false] S).setIfInBounds k (.bool true) = ofF S fun a => .bool (frP ls S k 0 a) := by
        rw [bools_made, ofF_set]; refine ofF_congr fun i _ => ?_; by_cases e : i = k <;> simp [frP, e]
      have HB6 := Lib.hid (bl_alloc (Below.refl _ wo) (.cells ((madeCells #[.bool false] S).setIfInBounds k (.bool true)) 4))
      have HS6 : Hid (Blk (wo.alloc (.cells ((madeCells #[.bool false] S).setIfInBounds k (.bool true)) 4)) wo.heap.size (ofF S fun a => .bool (frP ls S k 0 a)) 4) := by
        unfold Blk at hS6
        show _ = _
        rw [hS6, heq]
      clear hS5 hb5 hS6 heq
      go_wp2_with fail
      clear c5 f5 hk2
      obtain ⟨D, hD⟩ : ∃ y, y = wo.heap.size := ⟨_, rfl⟩
      rw [← hD] at HS6 ⊢
      have HD := Lib.hid hD
      clear hD
      go_loopw [8] (fun y w' => ∃ i : Nat, i ≤ m ∧ y = .int .i64 i ∧ Hid (Blk w' D (ofF S fun a => .bool (frP ls S k i a)) 4) ∧ Hid (Below wo.heap.size wo w')) (fun y _ => m - (intOf y).toNat)
      case atStart => exact ⟨0, by omega, rfl, HS6, HB6⟩
      case round =>
        clear HS6 HB6
        obtain ⟨i, hi, rfl, hS6, hB6⟩ := hrel
        by_cases him : i < m
        · have hil : i < ls.length := by rw [HM.out]; exact him
          obtain ⟨b1, o1, rfl, hbl, hc⟩ := rdLk ((HA.out.bl hF.out.bl).bl hB6.out) (by omega)
          obtain ⟨_, c1, c2⟩ := hc i hil
          obtain ⟨p, q, hp, hq, hpq, hqS⟩ := HC.out.at hil
          rw [hp] at c1
          rw [hq] at c2
          have HP := Lib.hid hp
          have HQ := Lib.hid hq
          clear hc hp hq
          by_cases e1 : q = k
          · have e1 := e1.symm
            subst e1
            have hne : ((k : Int) != (k : Int)) = false := by simp
            have HA0 : Hid (Blk wr D (ofF S fun a => .bool (if a < 0 then frP ls S k (i + 1) a else frP ls S k i a)) 4) := by
              have h := hS6.out
              rwa [show (ofF S fun a => Value.bool (frP ls S k i a)) = ofF S fun a => .bool (if a < 0 then frP ls S k (i + 1) a else frP ls S k i a) from ofF_congr fun a _ => by rw [if_neg (Nat.not_lt_zero a)]] at h
            obtain ⟨wi, rfl⟩ : ∃ wi : World, wi = wr := ⟨_, rfl⟩
            clear hS6
            go_wp2_with fail
            go_loopw [9] (fun y w' => ∃ t : Nat, t ≤ k ∧ y = .int .i64 t ∧ Hid (Blk w' D (ofF S fun a => .bool (if a < t then frP ls S k (i + 1) a else frP ls S k i a)) 4) ∧ Hid (Below wo.heap.size wo w')) (fun y _ => k - (intOf y).toNat)
            case atStart => exact ⟨0, by omega, rfl, HA0, hB6⟩
            case round =>
              clear HA0 hB6
              obtain ⟨t, ht, rfl, hS7, hB7⟩ := hrel
              by_cases htk : t < k
              · have hd0 : wr.cell? ⟨D, t, none⟩ = some (.bool (frP ls S k i t)) := by
                  have h := hS7.out.getF t (by omega)
                  rwa [if_neg (Nat.lt_irrefl t)] at h
                have hf0 : wr.frozen? ⟨D, t, none⟩ = false := hS7.out.free t
                have hB8 := bl_trans hF.out.bl hB7.out
                obtain ⟨b2, o2, e2, _, hc2⟩ := rdLk (HA.out.bl (bl_trans hF.out.bl hB7.out)) (by omega)
                have e2 := Option.some.inj e2
                obtain rfl := (Addr.mk.inj e2).1
                obtain rfl := (Addr.mk.inj e2).2.1
                obtain ⟨_, c3, _⟩ := hc2 i hil
                rw [HP.out] at c3
                obtain ⟨g, c', D2, o3, d, ev, _, c4, _, hc5⟩ := (hF.out.below hB7.out).cell hpq hS1
                have c5 := hc5 t (by omega)
                have hb2 := (hF.out.below hB7.out)
                obtain ⟨x, hx⟩ : ∃ y, y = frP ls S k i t := ⟨_, rfl⟩
                obtain ⟨y, hy⟩ : ∃ y, y = decide (t ∈ abL ls S p) := ⟨_, rfl⟩
                rw [← hx] at hd0
                rw [← hy] at c5
                have HS9 : ∀ v : Bool, v = (x || y) → Hid (Blk (wr.setCell ⟨D, t, none⟩ (.bool v)) D (ofF S fun a => .bool (if a < t + 1 then frP ls S k (i + 1) a else frP ls S k i a)) 4) := fun v hv => by
                  have h := hS7.out.setF t (.bool v)
                  rwa [show (ofF S fun j => if j = t then Value.bool v else Value.bool (if j < t then frP ls S k (i + 1) j else frP ls S k i j)) = ofF S fun a => .bool (if a < t + 1 then frP ls S k (i + 1) a else frP ls S k i a) from ofF_congr fun a _ => by
                    by_cases e : a = t
                    · subst e
                      rw [if_pos rfl, if_pos (by omega), hv, hx, hy, frP_hit HQ.out HP.out]
                    · rw [if_neg e]
                      by_cases e3 : a < t
                      · rw [if_pos e3, if_pos (by omega)]
                      · rw [if_neg e3, if_neg (by omega)]] at h
                have HS9 := Lib.hid HS9
                have HEV := Lib.hid ev
                clear hx hy hc5 hc2 hb2 e2 ev
                obtain ⟨e8, _, e9⟩ := Value.slice.inj HEV.out
                subst e8 e9
                cases x with
                | true =>
                  clear c4 c5
                  go_wp2_with fail
                  go_roundw
                  case rel => exact ⟨t + 1, by omega, by go_num, HS9.out true rfl, bl_set hB7.out _ _ _ _ (by rw [HD.out]; exact Nat.le_refl _)⟩
                  case measure => simp [intOf]; omega
                | false =>
                  cases y with
                  | true =>
                    go_wp2_with fail
                    go_roundw
                    case rel => exact ⟨t + 1, by omega, by go_num, HS9.out true rfl, bl_set hB7.out _ _ _ _ (by rw [HD.out]; exact Nat.le_refl _)⟩
                    case measure => simp [intOf]; omega
                  | false =>
                    go_wp2_with fail
                    go_roundw
                    case rel => exact ⟨t + 1, by omega, by go_num, HS9.out false rfl, bl_set hB7.out _ _ _ _ (by rw [HD.out]; exact Nat.le_refl _)⟩
                    case measure => simp [intOf]; omega
              · have htk2 : t = k := by omega
                have HS8 : Hid (Blk wr D (ofF S fun a => .bool (frP ls S k (i + 1) a)) 4) := by
                  have h := hS7.out
                  rwa [show (ofF S fun a => Value.bool (if a < t then frP ls S k (i + 1) a else frP ls S k i a)) = ofF S fun a => .bool (frP ls S k (i + 1) a) from ofF_congr fun a _ => by
                    by_cases e3 : a < t
                    · rw [if_pos e3]
                    · rw [if_neg e3, frP_hit HQ.out HP.out, frP_high HC.out (by omega) (by omega), Bool.or_false]] at h
                subst t
                clear hS7
                go_wp2_with fail
                go_roundw
                case rel => exact ⟨i + 1, by omega, by go_num, HS8, hB7⟩
                case measure => simp [intOf]; omega
          · have e2 : ((q : Int) != (k : Int)) = true := by simp; omega
            have HS7 : Hid (Blk wr D (ofF S fun a => .bool (frP ls S k (i + 1) a)) 4) := by
              have h := hS6.out
              rwa [show (ofF S fun a => Value.bool (frP ls S k i a)) = ofF S fun a => .bool (frP ls S k (i + 1) a) from ofF_congr fun a _ => by rw [frP_skip (by rw [HQ.out]; omega)]] at h
            clear hS6
            go_wp2_with fail
            go_roundw
            case rel => exact ⟨i + 1, by omega, by go_num, HS7, hB6⟩
            case measure => simp [intOf]; omega
        · have him2 : i = m := by omega
          subst i
          have hS9 : Blk wr D (fl encB (frT ls S k)).toArray 4 := by
            have h := hS6.out
            rw [← HM.out] at h
            rw [show frT ls S k = (List.range S).map fun a => decide (a ∈ abL ls S k) from rfl, ← ofF_bools]
            rwa [show (ofF S fun a => Value.bool (frP ls S k ls.length a)) = ofF S fun a => .bool (decide (a ∈ abL ls S k)) from ofF_congr fun a _ => by rw [frP_full HC.out hlt]] at h
          have HR : Hid (wr.ownsRow w.heap.size 4 1 (.slice (some ⟨D, 0, none⟩) S S) S (fl encB (frT ls S k))) := owns_full encB_len hS9 (frT_len ls S k) (by unfold maxLen; omega) (by rw [HD.out]; exact hF.out.bl.size)
          have hF9 := hF.out.below hB6.out
          have HF9 := Lib.hid hF9
          have HRA : Hid (∀ o, (wr.alloc o).ownsRow w.heap.size 34 1 (.slice oa k oc) k (fl encR rs)) := fun o => owns_below hF9.own (bl_alloc (Below.refl _ wr) o)
          have HSA : Hid (∀ o, w.heap.size ≤ (wr.alloc o).heap.size) := fun o => Nat.le_trans hF9.bl.size (bl_alloc (Below.refl _ wr) o).size
          clear hS6 him hS9 hF9
          go_wp2_with first | fail | (at_builtin; refine wpList_pushs rfl encR_len (by decide) encR_oneQ Tryd.underlying28 info_RB rfl (.tmp 58) (.tmp 60) rfl (.slice oa k oc) rs k HF9.out.len.symm rfl (HRA.out _) (some ⟨wr.heap.size, 0, none⟩) 1 1 [(some ⟨D, 0, none⟩, S, S)] rfl rfl (rd_of_blkQ (cs := encR (some ⟨D, 0, none⟩, S, S)) (Blk.new wr _ 34)) (fun e => by cases e) (by omega) (by decide) (HSA.out _) ?_; intro v9 w9 h91 h92 h93; have H91 := Lib.hid h91; have H92 := Lib.hid h92; clear h91 h92 h93)
          obtain ⟨va9, c9, rfl, _⟩ := owns_slice H91.out
          have HF10 : Hid (FrW w w9 ls S (k + 1) (.slice va9 (k + 1) c9) (rs ++ [(some ⟨D, 0, none⟩, S, S)])) := HF9.out.push (bl_alloc (Below.refl _ wr) (.cells #[.slice (some ⟨D, 0, none⟩) S S] 34)) (owns_below HR.out (bl_alloc (Below.refl _ wr) _)) H91.out H92.out
          go_roundw
          case rel => exact ⟨k + 1, va9, c9, _, by omega, by go_num, rfl, HF10⟩
          case measure => simp [intOf]; omega
    · have hks : k = S := by omega
      subst k
      go_wp2_with fail
      go_ret
      exact ⟨_, _, rfl, hF.out⟩
end Go.Proofs.YtmfomjaomhohkaaDoor
namespace Go.Proofs.YtmfomjaomhohkaaDoor
open Go Go.RowKit Go.Shelf
/-- What Link leaves, in one sentence. -/
theorem link_out {w w' : World} {O : Nat → Prop} {g : Nat} {r : GrA} {es : List Et} {ls : List Lk} {x : Lk} {e : Ending} (h : GrAt w O g r es ls) (hp : LkPost w O g es ls x e w') :
    e = .returned (.int .i64 (lkE es.length ls x)) ∧ ∃ (O' : Nat → Prop) (r' : GrA), GrAt w' O' g r' es (if lkE es.length ls x = 0 then ls ++ [x] else ls) ∧ Keeps O w w' ∧ ∀ k, O' k → O k ∨ w.heap.size ≤ k := by
  obtain ⟨he, h1, h2⟩ := hp
  refine ⟨he, ?_⟩
  by_cases q : lkE es.length ls x = 0
  · obtain ⟨O', r', h3, h4, h5⟩ := h2 q
    exact ⟨O', r', by rw [if_pos q]; exact h3, h4, h5⟩
  · exact ⟨O, r, by rw [if_neg q]; exact h.bl (h1 q), Keeps.of_below (h1 q), fun k hk => .inl hk⟩
theorem grL_len (S : Nat) (l : List T3) : (grL S l).length ≤ 20 := by
  have h : ∀ (l : List T3) (ls : List Lk), (l.foldl (grA S) ls).length ≤ ls.length + l.length := by
    intro l
    induction l with
    | nil => intro ls; simp
    | cons t l ih => intro ls; have h1 := ih (grA S ls t); have h2 := len_add S ls t; simp only [List.foldl_cons, List.length_cons]; omega
  have h2 := h (l.take 20) []
  rw [List.length_take] at h2
  unfold grL
  simp at h2
  omega
theorem gr_at (S : Nat) {i : Nat} (h : i < S) : (grE S).getD i etD = grW i := by
  unfold grE
  rw [List.getD_eq_getElem?_getD]
  simp [h]
/-- The link of the law. -/
def lpX (a b z : Nat) : Lk := (1 + ((z % 3 : Nat) : Int), ((a : Nat) : Int), ((b : Nat) : Int))
theorem lp_lk {S : Nat} {ls : List Lk} (hl : ls.length < 4096) {a b z : Nat} (ha : a < S) (hb : b < S) : lkE S ls (lpX a b z) = if b ∈ abL ls S a then 9 else if lpX a b z ∈ ls then 6 else 0 := by
  have h3 := Nat.mod_lt z (show 0 < 3 by omega)
  have hk : ¬ ((lpX a b z).1 < 1 ∨ 3 < (lpX a b z).1) := by
    show ¬ (1 + _ < (1 : Int) ∨ (3 : Int) < 1 + _)
    omega
  have b1 : hasB (lpX a b z).2.1 S = true := by show hasB (a : Int) S = true; unfold hasB; simp only [Bool.and_eq_true, decide_eq_true_eq]; omega
  have b2 : hasB (lpX a b z).2.2 S = true := by show hasB (b : Int) S = true; unfold hasB; simp only [Bool.and_eq_true, decide_eq_true_eq]; omega
  unfold lkE
  rw [if_neg hk, if_neg (by rw [b1, b2]; simp)]
  have e1 : (lpX a b z).2.1.toNat = a := rfl
  have e2 : (lpX a b z).2.2.toNat = b := rfl
  rw [e1, e2, if_neg (show ¬ 4096 ≤ ls.length by omega)]
theorem lp_four (S : Nat) (ls : List Lk) (a b : Int) : lkE S ls (4, a, b) = 2 := by unfold lkE; rw [if_pos (.inr (by show (3 : Int) < 4; omega))]
theorem lp_out {S : Nat} (ls : List Lk) (a : Int) : lkE S ls (1, a, (S : Int)) = 3 := by
  unfold lkE
  rw [if_neg (by show ¬ ((1 : Int) < 1 ∨ (3 : Int) < 1); omega), if_pos (.inr (by show hasB (S : Int) S = false; unfold hasB; simp))]
theorem gr_has : ∀ S, S < 11 → 1 ≤ S → addE (grE S) nWest [(0, 0)] = 6 ∧ gF ((grE S).map eK) (keyB nWest [(0, 0)]) = 0 ∧ gG ((grE S).map eK) (keyB nWest [(0, 0)]) = true := by decide +kernel
theorem gr_north : ∀ S, S < 11 → addE (grE S) { data := #[110, 111, 114, 116, 104] } [] = 0 := by decide +kernel
theorem gr_sm0 : Small nWest [(0, 0)] := by decide +kernel
theorem gr_smN : Small { data := #[110, 111, 114, 116, 104] } [] := by decide +kernel
def dsW : List Nat := [82, 83, 84, 85, 86]
/-- What each operation of the wanted list leaves. -/
def GdW (B : Nat) (va : Option Addr) (m vc : Nat) (ls : List Lk) (x : Lk) : Nat → Value → World → Prop
  | 0, v, W => ∃ D, v = .slice (some ⟨D, 0, none⟩) 0 0 ∧ W.ownsRow B 33 3 (.slice (some ⟨D, 0, none⟩) 0 0) 0 []
  | 1, v, _ => v = .slice va m vc
  | 2, v, W => W.ownsRow B 33 3 v m (fl encLk ls)
  | 3, v, _ => v = .agg #[.int .i64 x.1, .int .i64 x.2.1, .int .i64 x.2.2]
  | 4, v, W => ∃ D, v = .slice (some ⟨D, 0, none⟩) 1 1 ∧ Blk W D #[.int .i64 x.1, .int .i64 x.2.1, .int .i64 x.2.2] 33
  | _, _, _ => True
theorem GdW.bl {B : Nat} {va : Option Addr} {m vc : Nat} {ls : List Lk} {x : Lk} : ∀ (k : Nat) (v : Value) (W W' : World), GdW B va m vc ls x k v W → Below W.heap.size W W' → GdW B va m vc ls x k v W'
  | 0, _, _, _, ⟨D, e, h⟩, hb => ⟨D, e, owns_below h hb⟩
  | 1, _, _, _, h, _ => h
  | 2, _, _, _, h, hb => owns_below (show World.ownsRow _ _ _ _ _ _ _ from h) hb
  | 3, _, _, _, h, _ => h
  | 4, _, _, _, ⟨D, e, h⟩, hb => ⟨D, e, h.below hb⟩
  | _ + 5, _, _, _, h, _ => h
theorem owns_emptyQ (W : World) {B : Nat} (hB : B ≤ W.heap.size) (e k : Nat) : (W.alloc (.cells #[] e)).ownsRow B e k (.slice (some ⟨W.heap.size, 0, none⟩) 0 0) 0 [] := by
  have := owns_made (w := W) (base := B) (e := e) (k := k) (n := 0) (cs := #[]) hB (by simp) (by omega)
  exact this
set_option maxHeartbeats 16000000 in
set_option maxRecDepth 100000 in
theorem loops_any (x : Nat) (a : Option Addr) (n c : Nat) (l : List T3) (u v z : Nat) (w : World) (hx : x < 256) (hl : l.length = n) (hn : n ≤ 1152921504606846976) (hA : Rd w a (fl enc3 l)) (hF : ∀ t ∈ l, t.1 < 256 ∧ t.2.1 < 256 ∧ t.2.2 < 256) (hu : u < 256) (hv : v < 256) (hz : z < 256) :
    Calls Tryd.prog 8 #[.int .u8 x, .slice a n c, .int .u8 u, .int .u8 v, .int .u8 z] w fun e w' => e = .returned (.bool true) ∧ Below w.heap.size w w' := by
  have HGW := Lib.hid (grown_any x (grS x) rfl a n c l w hx hl hn hA hF)
  have hS10 : grS x ≤ 10 := by unfold grS; omega
  have hS1 : 1 ≤ grS x := by unfold grS; omega
  have HAS : Hid (Asc (grL (grS x) l) (grS x)) := asc_grL (by omega) l
  have HLE : Hid ((grE (grS x)).length = grS x) := grE_len _
  obtain ⟨S, hS⟩ : ∃ y, y = grS x := ⟨_, rfl⟩
  rw [← hS] at HGW HAS HLE hS10 hS1
  have hm20 := grL_len S l
  obtain ⟨ls, hls⟩ : ∃ y, y = grL S l := ⟨_, rfl⟩
  rw [← hls] at HGW HAS hm20
  clear hl hn hA hF hS hls
  obtain ⟨A, hAe⟩ : ∃ y, y = u % S := ⟨_, rfl⟩
  obtain ⟨B, hBe⟩ : ∃ y, y = v % S := ⟨_, rfl⟩
  have hp : ((u : Nat) : Int) % (S : Int) = ((A : Nat) : Int) := by rw [hAe]; exact (Int.natCast_emod u S).symm
  have hq : ((v : Nat) : Int) % (S : Int) = ((B : Nat) : Int) := by rw [hBe]; exact (Int.natCast_emod v S).symm
  have hAS : A < S := by rw [hAe]; exact Nat.mod_lt _ (by omega)
  have hBS : B < S := by rw [hBe]; exact Nat.mod_lt _ (by omega)
  have hS0 : (S : Int) ≠ 0 := by omega
  obtain ⟨X1, hX1⟩ : ∃ y, y = 1 + ((z % 3 : Nat) : Int) := ⟨_, rfl⟩
  have e1 : (1 : Int) + (z : Int) % 3 = X1 := by rw [hX1]; omega
  have HX1 : Hid (lpX A B z = (X1, (A : Int), (B : Int))) := by show _ = _; rw [hX1]; rfl
  clear hAe hBe hX1
  go_enter Tryd.func8, Tryd.ntmps8
  go_wp2_with fail
  refine HGW.out.mono ?_
  rintro e w1 ⟨O, g, r, vv, rfl, hG, hX, hXO, hOb, hb1⟩
  obtain ⟨va, vc, rfl, _⟩ := owns_slice hX
  obtain ⟨m, hm⟩ : ∃ y, y = ls.length := ⟨_, rfl⟩
  rw [← hm] at hX hXO
  have HM := Lib.hid hm
  have HG := Lib.hid hG
  have HX := Lib.hid (rd_of_owns hX)
  have HXL : Hid (∀ b o q, va = some ⟨b, o, q⟩ → b < w1.heap.size) := fun b o q e => (hX.lt b (by rw [e]; rfl)).2
  rw [← hm] at hm20
  have HB1 := Lib.hid hb1
  have HLN := Lib.hid (len_yes hG)
  rw [HLE.out] at HLN
  rw [← hm]
  clear hm hG hX hb1 HGW hXO hOb
  go_wp2_with first | fail | (go_at_call 11; refine HLN.out.mono ?_; rintro e w2 ⟨rfl, hw2⟩; subst w2)
  go_quiet (fail)
  obtain ⟨w3, hw3⟩ : ∃ y, y = w1.drewN nq := ⟨_, rfl⟩
  have hb3 : Below w1.heap.size w1 w3 := by rw [hw3]; exact bl_drewN (Below.refl _ w1) nq
  rw [← hw3]
  clear hw3
  try simp only [hp, hq]
  go_wp2_with fail
  try simp only [hp, hq]
  have hb4 := bl_alloc (Below.refl _ w3) (.cells #[.int .i64 X1, .int .i64 (A : Int), .int .i64 (B : Int)] 33)
  have hY4 := Blk.new w3 #[.int .i64 X1, .int .i64 (A : Int), .int .i64 (B : Int)] 33
  generalize World.alloc w3 _ = w4 at hb4 hY4 ⊢
  obtain ⟨D, hD⟩ : ∃ y, y = w3.heap.size := ⟨_, rfl⟩
  rw [← hD] at hY4 ⊢
  have hB4 := bl_trans hb3 hb4
  have HG4 := Lib.hid (HG.out.bl hB4)
  have HY4 := Lib.hid hY4
  have HB4 := Lib.hid hB4
  clear hp hq e1 hb3 hb4 hY4 hD hB4 HLN
  refine (copy_any HG4.out (fun i hi => by rw [gr_at S (by rw [HLE.out] at hi; exact hi)]; exact (gr_small i (by rw [HLE.out] at hi; omega)).ky _ _)).mono ?_
  rintro e w5 ⟨Oc, gc, rc, rfl, hGc, hOc, hb5⟩
  have HGc := Lib.hid hGc
  have HOc := Lib.hid hOc
  have HB5 := Lib.hid hb5
  have hY5 := HY4.out.below hb5
  have HY5 := Lib.hid hY5
  have d0 : w5.cell? ⟨D, 0, none⟩ = some (.int .i64 X1) := hY5.cell 0
  have d1 : w5.cell? ⟨D, 1, none⟩ = some (.int .i64 (A : Int)) := hY5.cell 1
  have d2 : w5.cell? ⟨D, 2, none⟩ = some (.int .i64 (B : Int)) := hY5.cell 2
  clear hGc hOc hb5 hY5
  go_wp2_with fail
  refine (link_any HGc.out X1 (A : Int) (B : Int)).mono ?_
  intro e w6 hpo
  obtain ⟨rfl, Od, rd, hGd, hKd, hOd⟩ := link_out HGc.out hpo
  have hlk := lp_lk (S := S) (ls := ls) (by rw [← HM.out]; omega) hAS hBS (z := z)
  rw [HX1.out] at hlk
  rw [HLE.out, hlk] at hGd ⊢
  obtain ⟨e0, he0⟩ : ∃ y : Int, y = if B ∈ abL ls S A then 9 else if (X1, (A : Int), (B : Int)) ∈ ls then 6 else 0 := ⟨_, rfl⟩
  rw [← he0] at hGd ⊢
  have HE0 := Lib.hid he0
  have HGd := Lib.hid hGd
  have HKd := Lib.hid hKd
  have HOd := Lib.hid hOd
  clear hGd hKd hOd hpo hlk he0 d0 d1 d2
  have hB46 : Below w4.heap.size w4 w6 := HB5.out.trans (HKd.out.bel HB5.out.size fun k q => HOc.out k q)
  have HB46 := Lib.hid hB46
  have HX6 := Lib.hid (HX.out.bl (bl_trans HB4.out hB46))
  have HG6 := Lib.hid (HG4.out.bl hB46)
  have HOd4 : Hid (∀ k, Od k → w4.heap.size ≤ k) := fun k q => by
    rcases HOd.out k q with q | q
    · exact HOc.out k q
    · have := HB5.out.size; omega
  have HDc : Hid (∀ k, Oc k → k ≠ D) := fun k q e => by have := HY4.out.lt; have := HOc.out k q; omega
  have HY6 : Hid (Blk w6 D #[.int .i64 X1, .int .i64 (A : Int), .int .i64 (B : Int)] 33) := HY5.out.kp HKd.out (fun q => HDc.out D q rfl)
  clear hB46 HKd HOd HGc HY5 HY4
  obtain ⟨lw, hlw⟩ : ∃ y, y = if e0 = 0 then ls ++ [(X1, (A : Int), (B : Int))] else ls := ⟨_, rfl⟩
  rw [← hlw] at HGd
  have HLW := Lib.hid hlw
  clear hlw
  obtain ⟨bb, hbb⟩ : ∃ y, y = decide (B ∈ abL ls S A) := ⟨_, rfl⟩
  have t9 : (e0 == 9) = bb := by
    rw [hbb, HE0.out]
    by_cases q : B ∈ abL ls S A
    · rw [if_pos q, decide_eq_true q]; rfl
    · rw [if_neg q, decide_eq_false q]; split <;> rfl
  have tbb : (bb != bb) = false := by simp
  have HBB := Lib.hid hbb
  have HFR := Lib.hid (from_any va m vc S ls w6 HM.out.symm (by omega) hS10 hS1 HX6.out HAS.out)
  clear hbb
  go_wp2_with fail
  refine HFR.out.mono ?_
  rintro e w7 ⟨v7, rs, rfl, hF7⟩
  obtain ⟨g7, c7, D7, o7, d7, rfl, _, f1, _, f2⟩ := hF7.cell hAS hS1
  have f3 := f2 B hBS
  rw [← HBB.out] at f3
  have HB7 := Lib.hid hF7.bl
  have HG7 := Lib.hid (HG6.out.bl hF7.bl)
  have HX7 := Lib.hid (HX6.out.bl hF7.bl)
  have HLS := Lib.hid (links_yes HG7.out)
  clear f2 hF7 HFR
  go_wp2_with first | fail | (go_at_call 24; refine HLS.out.mono ?_; rintro e w8 ⟨v8, rfl, h81, h82⟩; obtain ⟨a8, c8, rfl, _⟩ := owns_slice h81; rw [← HM.out] at h81 ⊢; have H81 := Lib.hid h81; have H82 := Lib.hid h82; clear h81 h82)
  refine (links_any a8 va m m c8 vc ls ls w8 HM.out.symm HM.out.symm (by omega) (by omega) (rd_of_owns H81.out) (HX7.out.bl H82.out)).mono ?_
  rintro e w9 ⟨rfl, nq9, hw9⟩
  have hb9 : Below w6.heap.size w6 w9 := bl_trans HB7.out (bl_trans H82.out (by rw [hw9]; exact bl_drewN (Below.refl _ w8) nq9))
  have HG9 := Lib.hid (HG6.out.bl hb9)
  have HGd9 := Lib.hid (HGd.out.bl hb9)
  have HX9 := Lib.hid (HX6.out.bl hb9)
  have HY9 := Lib.hid (HY6.out.below hb9)
  have HB9 := Lib.hid (bl_trans HB46.out hb9)
  have tls : decide (ls = ls) = true := by simp
  rw [tls]
  clear hw9 hb9 tls HX7 HG7 HX6 HG6 HY6 HGd HB7 H81 H82 HLS f1 f3 t9 tbb
  obtain ⟨N, hN⟩ : ∃ y, y = lw.length := ⟨_, rfl⟩
  have HN := Lib.hid hN
  have hN2 : N ≤ 21 := by
    rw [hN, HLW.out]
    split
    · rw [List.length_append, ← HM.out]; show m + 1 ≤ 21; omega
    · rw [← HM.out]; omega
  clear hN
  go_upto_if 81 with fail
  go_cut [19] (fun s wx => ∃ a c, s = .slice a N c ∧ Hid (Rd wx a (fl encLk lw)) ∧ Hid (Below w9.heap.size w9 wx) ∧ Hid (∀ b o q, a = some ⟨b, o, q⟩ → ¬ Od b))
  case first =>
    by_cases q : e0 = 0
    · subst q
      have HLW1 : Hid (lw = ls ++ [(X1, (A : Int), (B : Int))]) := by rw [HLW.out, if_pos rfl]; exact rfl
      have d0 : w9.cell? ⟨D, 0, none⟩ = some (.int .i64 X1) := HY9.out.cell 0
      have d1 : w9.cell? ⟨D, 1, none⟩ = some (.int .i64 (A : Int)) := HY9.out.cell 1
      have d2 : w9.cell? ⟨D, 2, none⟩ = some (.int .i64 (B : Int)) := HY9.out.cell 2
      have HA0 : Hid (va = none → m = 0) := fun e => by
        rcases Nat.eq_zero_or_pos m with h | h
        · exact h
        · obtain ⟨b, o, e2, _⟩ := rdLk HX9.out (by rw [← HM.out]; exact h)
          rw [e] at e2; cases e2
      clear d0 d1 d2
      go_wp2_with fail
      have hbd : Below w9.heap.size w9 w9.drew := bl_drewN (Below.refl _ w9) 1
      have HBD := Lib.hid hbd
      have HYD := Lib.hid (HY9.out.below hbd)
      have HXD := Lib.hid (HX9.out.bl hbd)
      clear hbd HLW HE0
      refine wp_region_goodT 5 dsW (GdW w9.drew.heap.size va m vc ls (X1, (A : Int), (B : Int))) (fun a b => Below a.heap.size a b) rfl (by kernel_rfl) (Below.refl _ _) (fun a b c => bl_trans) (fun k v W W' h hb => GdW.bl k v W W' h hb) ?_ ?_
      · intro a0 ops0 ha0 ho
        have z : a0.tmps.size = 170 := by rw [ha0]; rfl
        have z1 : a0.tmps.getD 12 undef = .slice va m vc := by rw [ha0]; rfl
        have z2 : a0.tmps.getD 16 undef = .pointer (some ⟨D, 0, none⟩) := by rw [ha0]; rfl
        clear ha0
        refine ⟨fun u W hW hg => ?_, ?_⟩
        · refine good_run (d := 82) (v := .slice (some ⟨W.heap.size, 0, none⟩) 0 0) (w' := W.alloc (.cells #[] 33)) (by rw [ho]; rfl) rfl rfl rfl rfl ?_ ⟨⟨W.heap.size, rfl, owns_emptyQ W hW.size _ _⟩, bl_alloc (Below.refl _ W) _⟩
          simp [execOp, go_sem]
        refine ⟨fun u W hW hg => ?_, ?_⟩
        · refine good_run (d := 83) (v := .slice va m vc) (w' := W) (by rw [ho]; rfl) rfl rfl rfl rfl ?_ ⟨rfl, Below.refl _ _⟩
          have q1 : (frmV a0 u dsW).eval (.tmp 12) = a0.tmps.getD 12 undef := frmV_out (by rw [z]; decide) rfl
          rw [z1] at q1
          revert q1
          generalize (frmV a0 u dsW).eval = ρ
          intro q1
          simp [execOp, go_sem, q1]
        refine ⟨fun u W hW hg => ?_, ?_⟩
        · obtain ⟨D0, e2, hO⟩ : ∃ D, u 82 = .slice (some ⟨D, 0, none⟩) 0 0 ∧ W.ownsRow w9.drew.heap.size 33 3 (.slice (some ⟨D, 0, none⟩) 0 0) 0 [] := hg 0 (by decide)
          have G1 : u 83 = .slice va m vc := hg 1 (by decide)
          have q1 : (frmV a0 u dsW).eval (.tmp 82) = u 82 := frmV_in (by rw [z]; decide) rfl
          have q2 : (frmV a0 u dsW).eval (.tmp 83) = u 83 := frmV_in (by rw [z]; decide) rfl
          exact good_pushs0 (d := 84) (by rw [ho]; rfl) rfl rfl rfl rfl encLk_len (by decide) encLk_one (base := w9.drew.heap.size) Tryd.underlying24 infoLk rfl (.tmp 82) (.tmp 83) rfl D0 (q1.trans e2) hO va m vc ls HM.out (q2.trans G1) (HXD.out.bl hW) HA0.out (by omega) (by decide) hW.size (fun v' w' h1 h2 => ⟨h1, h2⟩)
        refine ⟨fun u W hW hg => ?_, ?_⟩
        · have hY := HYD.out.below hW
          have g0 : W.cell? ⟨D, 0, none⟩ = some (.int .i64 X1) := hY.cell 0
          have g1 : W.cell? ⟨D, 1, none⟩ = some (.int .i64 (A : Int)) := hY.cell 1
          have g2 : W.cell? ⟨D, 2, none⟩ = some (.int .i64 (B : Int)) := hY.cell 2
          refine good_run (d := 85) (v := .agg #[.int .i64 X1, .int .i64 (A : Int), .int .i64 (B : Int)]) (w' := W) (by rw [ho]; rfl) rfl rfl rfl rfl ?_ ⟨rfl, Below.refl _ _⟩
          have q1 : (frmV a0 u dsW).eval (.tmp 16) = a0.tmps.getD 16 undef := frmV_out (by rw [z]; decide) rfl
          rw [z2] at q1
          revert q1
          generalize (frmV a0 u dsW).eval = ρ
          intro q1
          simp [execOp, go_sem, q1, g0, g1, g2]
        refine ⟨fun u W hW hg => ?_, trivial⟩
        · have G3 : u 85 = .agg #[.int .i64 X1, .int .i64 (A : Int), .int .i64 (B : Int)] := hg 3 (by decide)
          refine good_run (d := 86) (v := .slice (some ⟨W.heap.size, 0, none⟩) 1 1) (w' := W.alloc (.cells #[.int .i64 X1, .int .i64 (A : Int), .int .i64 (B : Int)] 33)) (by rw [ho]; rfl) rfl rfl rfl rfl ?_ ⟨⟨W.heap.size, rfl, Blk.new _ _ _⟩, bl_alloc (Below.refl _ W) _⟩
          have q1 : (frmV a0 u dsW).eval (.tmp 85) = u 85 := frmV_in (by rw [z]; decide) rfl
          rw [G3] at q1
          revert q1
          generalize (frmV a0 u dsW).eval = ρ
          intro q1
          simp [execOp, go_sem, q1]
      · intro u W hW hg
        have e84 : W.ownsRow w9.drew.heap.size 33 3 (u 84) m (fl encLk ls) := hg 2 (by decide)
        obtain ⟨D5, e86, hB5⟩ : ∃ D, u 86 = .slice (some ⟨D, 0, none⟩) 1 1 ∧ Blk W D #[.int .i64 X1, .int .i64 (A : Int), .int .i64 (B : Int)] 33 := hg 4 (by decide)
        obtain ⟨v84, h84⟩ : ∃ y, y = u 84 := ⟨_, rfl⟩
        rw [← h84] at e84
        simp only [dsW, frmV, Act.put, List.setIfInBounds_toArray, List.set_cons_zero, List.set_cons_succ]
        rw [e86, ← h84]
        simp only [List.drop_succ_cons, List.drop_zero]
        have HO4 := Lib.hid e84
        have HB5' := Lib.hid hB5
        have HWB := Lib.hid (bl_trans HBD.out hW)
        have HWS := Lib.hid hW.size
        clear e84 hB5 hg h84 e86 hW
        go_wp2_with first | fail | (at_builtin; refine wpList_pushs rfl encLk_len (by decide) encLk_one Tryd.underlying24 infoLk rfl (.tmp 84) (.tmp 86) rfl v84 ls m HM.out rfl HO4.out (some ⟨D5, 0, none⟩) 1 1 [(X1, (A : Int), (B : Int))] rfl rfl (rd_of_blkQ (cs := encLk (X1, (A : Int), (B : Int))) HB5'.out) (fun e => by cases e) (by omega) (by decide) HWS.out ?_; intro v10 w10 h1 h2 h3; have H101 := Lib.hid h1; have H102 := Lib.hid h2; clear h1 h2 h3)
        obtain ⟨a10, c10, rfl, _⟩ := owns_slice H101.out
        refine NoPanic.normal ?_
        go_wp2_with fail
        go_meet
        refine ⟨a10, c10, ?_, ?_, bl_grown HWB.out H102.out (fun k e => (HO4.out.lt k e).1), fun b o q e k => ?_⟩
        · rw [HN.out, HLW1.out, List.length_append, ← HM.out]; rfl
        · rw [HLW1.out]; exact rd_of_owns H101.out
        · have h1 := (H101.out.lt b (by rw [e]; rfl)).1
          have h2 := HGd9.out.lt b k
          have h3 := HBD.out.size
          omega
    · have q0 : (e0 == 0) = false := by simpa using q
      have HLW1 : Hid (lw = ls) := by rw [HLW.out, if_neg q]; exact rfl
      have HN1 : Hid (N = m) := by rw [HN.out, HLW1.out, HM.out]; exact rfl
      clear q
      go_wp2_with fail
      go_meet
      exact ⟨va, vc, by rw [HN1.out], by rw [HLW1.out]; exact HX9.out, Below.refl _ _, fun b o q e k => by
        have h1 := HXL.out b o q e
        have h2 := HOd4.out b k
        have h3 := HB4.out.size
        omega⟩
  case rest =>
    obtain ⟨aw, cw, rfl, hRw, hBw, hAw⟩ := hcut
    go_wp2_with fail
    have HGw := Lib.hid (HG9.out.bl hBw.out)
    have HGdw := Lib.hid (HGd9.out.bl hBw.out)
    have HB4c := Lib.hid (bl_trans HB9.out hBw.out)
    clear HG9 HGd9 HX9 HY9 HB9 hBw
    refine (link_any HGw.out 4 (A : Int) (B : Int)).mono ?_
    rintro e w11 ⟨rfl, hno, _⟩
    rw [lp_four] at hno ⊢
    have HB11 := Lib.hid (hno (by decide))
    clear hno
    go_wp2_with fail
    refine (link_any (HGw.out.bl HB11.out) 1 (A : Int) (S : Int)).mono ?_
    rintro e w12 ⟨rfl, hno, _⟩
    rw [HLE.out, lp_out] at hno ⊢
    have HB12 := Lib.hid (bl_trans HB11.out (hno (by decide)))
    clear hno
    go_wp2_with fail
    have hq13 := Blk.new w12 #[.int .u32 0, .int .u32 0] 57
    have hb13 := bl_alloc (Below.refl _ w12) (.cells #[.int .u32 0, .int .u32 0] 57)
    generalize World.alloc w12 _ = w13 at hq13 hb13 ⊢
    have HB13 := Lib.hid (bl_trans HB12.out hb13)
    obtain ⟨k1, k2, k3⟩ := gr_has S (by omega) hS1
    have hs := add_err (HGw.out.bl HB13.out) nWest _ 1 1 [(0, 0)] rfl (rd_of_blkQ (cs := fl encSd [(0, 0)]) hq13) (gr_sm0.ky 0 _ |>.at (Below.refl _ _)) (by rw [k1]; decide)
    rw [k1] at hs
    refine hs.mono ?_
    rintro e w14 ⟨rfl, hb14⟩
    have HB14 := Lib.hid (bl_trans HB13.out hb14)
    have K2 := Lib.hid k2
    have K3 := Lib.hid k3
    clear hs hq13 hb13 hb14 k1 k2 k3 HB13
    go_wp2_with fail
    have hq15 := Blk.new w14 #[.int .u32 0, .int .u32 0] 57
    have hb15 := bl_alloc (Below.refl _ w14) (.cells #[.int .u32 0, .int .u32 0] 57)
    generalize World.alloc w14 _ = w15 at hq15 hb15 ⊢
    have HB15 := Lib.hid (bl_trans HB14.out hb15)
    have hs := find_yes (HGw.out.bl HB15.out) nWest _ 1 1 [(0, 0)] rfl (rd_of_blkQ (cs := fl encSd [(0, 0)]) hq15) (gr_sm0.ky 0 _ |>.at (Below.refl _ _))
    rw [K2.out, K3.out] at hs
    refine hs.mono ?_
    rintro e w16 ⟨rfl, hb16⟩
    have HB16 := Lib.hid (bl_trans HB15.out hb16)
    clear hs hq15 hb15 hb16 HB15 HB14 HB12 HB11 K2 K3
    go_wp2_with fail
    have hs := add_ok (HGdw.out.bl HB16.out) { data := #[110, 111, 114, 116, 104] } none 0 0 [] rfl (fun h => absurd h (by simp [fl])) (fun _ => rfl) (fun b o s e => by cases e) (gr_smN.ky 0 _) (Nat.zero_le _) (fun _ _ => Nat.zero_le _) (by exact gr_north S (by omega))
    rw [HLE.out] at hs
    refine hs.mono ?_
    rintro e w17 ⟨Oe, re, rfl, hGe, hKe, hOe⟩
    have hB416 := bl_trans HB4c.out HB16.out
    have hB417 : Below w4.heap.size w4 w17 := hB416.trans (hKe.bel hB416.size fun k q => HOd4.out k q)
    have HG17 := Lib.hid (HG4.out.bl hB417)
    have HX17 := Lib.hid (HX.out.bl (bl_trans HB4.out hB417))
    have HW17 := Lib.hid ((hRw.out.bl HB16.out).kp hKe fun b o q e => hAw.out b o q e)
    have HGe := Lib.hid hGe
    have HB17 := Lib.hid hB417
    have hl1 := len_yes hGe
    rw [List.length_append, HLE.out] at hl1
    have HL1 : Hid (Calls Tryd.prog 11 #[.pointer (some ⟨gc, 0, none⟩)] w17 fun e w' => e = .returned (.int .i64 ((S + 1 : Nat) : Int)) ∧ w' = w17) := hl1
    have hl2 := len_yes HG17.out
    rw [HLE.out] at hl2
    have HL2 := Lib.hid hl2
    have HS1 := Lib.hid (links_yes hGe)
    clear hs hGe hKe hOe hB416 hB417 hl1 hl2 HB16 HB4c HGw HGdw hRw hAw HOd4
    go_wp2_with fail
    refine HL1.out.mono ?_
    rintro e w18 ⟨rfl, hw⟩
    subst w18
    have tS : (((S + 1 : Nat) : Int) == (S : Int) + 1) = true := by simp
    clear HL1
    go_wp2_with fail
    refine HL2.out.mono ?_
    rintro e w18 ⟨rfl, hw⟩
    subst w18
    clear HL2 tS
    go_wp2_with fail
    refine HS1.out.mono ?_
    rintro e w19 ⟨v19, rfl, h1, hb19⟩
    obtain ⟨a19, c19, rfl, _⟩ := owns_slice h1
    rw [← HN.out] at h1 ⊢
    have HR19 := Lib.hid (rd_of_owns h1)
    have HB19 := Lib.hid hb19
    clear h1 hb19 HS1
    go_wp2_with fail
    refine (links_any a19 aw N N c19 cw lw lw w19 HN.out.symm HN.out.symm (by omega) (by omega) HR19.out (HW17.out.bl HB19.out)).mono ?_
    rintro e w20 ⟨rfl, nq20, hw20⟩
    have hb20 : Below w17.heap.size w17 w20 := bl_trans HB19.out (by rw [hw20]; exact bl_drewN (Below.refl _ w19) nq20)
    have HB20 := Lib.hid hb20
    have HLS2 := Lib.hid (links_yes (HG17.out.bl hb20))
    rw [show decide (lw = lw) = true by simp]
    clear hw20 hb20
    go_wp2_with fail
    refine HLS2.out.mono ?_
    rintro e w21 ⟨v21, rfl, h1, hb21⟩
    obtain ⟨a21, c21, rfl, _⟩ := owns_slice h1
    rw [← HM.out] at h1 ⊢
    have HR21 := Lib.hid (rd_of_owns h1)
    have HB21 := Lib.hid (bl_trans HB20.out hb21)
    clear h1 hb21 HLS2
    go_wp2_with fail
    refine (links_any a21 va m m c21 vc ls ls w21 HM.out.symm HM.out.symm (by omega) (by omega) HR21.out (HX17.out.bl HB21.out)).mono ?_
    rintro e w22 ⟨rfl, nq22, hw22⟩
    have HB22 := Lib.hid (bl_trans HB21.out (show Below w21.heap.size w21 w22 by rw [hw22]; exact bl_drewN (Below.refl _ w21) nq22))
    have HWK := Lib.hid (works_any w22)
    rw [show decide (ls = ls) = true by simp]
    clear hw22
    go_wp2_with fail
    refine HWK.out.mono ?_
    rintro e w23 ⟨rfl, hb23⟩
    have HB23 := Lib.hid hb23
    clear hb23
    go_wp2_with fail
    go_ret
    exact ⟨rfl, HB1.out.trans ((bl_trans HB4.out (bl_trans HB17.out (bl_trans HB22.out HB23.out))).mono HB1.out.size)⟩
end Go.Proofs.YtmfomjaomhohkaaDoor
