/- (*etym.Graph).Link. (*etym.Graph).Inherited. slices.Repeat of one int; math/bits.Mul by one (printed out of the text RP of seat 35). A region that draws its order and only reads, inside whatever fence (also in a round of a range over a function). -/
import Derived.Test.YtmfomjaomhohkaaDoorZE
import Derived.Test.YtmfomjaomhohkaaDoorZD
import Derived.Test.YtmfomjaomhohkaaDoorZA
import Derived.Deep.RegionLaw
import Derived.Laws.CopyRow
import Derived.Laws.MathBits
import Derived.OrdersIn
import Derived.Deep.Quiet
namespace Go.Proofs.YtmfomjaomhohkaaDoor
open Go Go.RowKit Go.Shelf
attribute [local go_sem] Oper.semAt_some
/-- How Link fails. -/
def lkE (N : Nat) (ls : List Lk) (x : Lk) : Int := if x.1 < 1 ∨ 3 < x.1 then 2 else if hasB x.2.1 N = false ∨ hasB x.2.2 N = false then 3 else if x.2.2.toNat ∈ abL ls N x.2.1.toNat then 9 else if x ∈ ls then 6 else if 4096 ≤ ls.length then 4 else 0
theorem results_cellQ {P : Program} {fn : Func} {p : Tmp} {ty : TypeId} (h : fn.results = #[.cell p ty]) (tmps : Array Value) (w : World) (b : Nat) (v : Value) (hp : tmps.getD p undef = .pointer (some ⟨b, 0, none⟩)) (hv : (loadVar ty ⟨b, 0, none⟩).run P w = .ok v w) :
    (results fn tmps).run P w = .ok v w := by
  have hp2 : tmps[p]?.getD undef = .pointer (some ⟨b, 0, none⟩) := by rw [← hp]; simp
  simp [results, h, hp2, asAddr, hv]
theorem load_errno {W : World} {b : Nat} {v : Int} (h : Blk W b #[.int .i64 v] 35) : (loadVar 35 ⟨b, 0, none⟩).run Tryd.prog W = .ok (.int .i64 v) W := by
  have c : W.cell? ⟨b, 0, none⟩ = some (.int .i64 v) := h.cell 0
  simp [go_sem, c]
theorem errno_ret {W : World} {fn : Func} {p : Tmp} {R : Ending → World → Prop} {R0 : Nat} {tmps : Array Value} {v : Int} (hres : fn.results = #[.cell p 35]) (hr : Blk W R0 #[.int .i64 v] 35) (Ds : List Nat) (hn : Ds.Nodup) (hD : ∀ D ∈ Ds, W.heap[D]? = some (Obj.deferred (some [])))
    (htm : tmps.getD p undef = .pointer (some ⟨R0, 0, none⟩)) (hpost : ∀ W', Trn Ds W W' → R (.returned (.int .i64 v)) W') : LeavesInM Fence.wide 10 Tryd.prog fn tmps R (dfs Ds) .returning W :=
  leaves_all Ds W hn hD fun W' ht => ⟨_, results_cellQ hres tmps W' R0 _ htm (load_errno ((ht.block R0 fun q => by have := hD R0 q; rw [hr] at this; cases this).trans hr)), hpost W' ht⟩
theorem encLk_one : ∀ x : Lk, ∀ u ∈ encLk x, u.oneCell' = true := by
  intro x u hu
  simp only [encLk, List.mem_cons, List.not_mem_nil, or_false] at hu
  rcases hu with rfl | rfl | rfl <;> rfl
theorem encI_one : ∀ x : Int, ∀ u ∈ encI x, u.oneCell' = true := by
  intro x u hu
  simp only [encI, List.mem_cons, List.not_mem_nil, or_false] at hu
  subst hu; rfl
/-- What Link leaves. -/
def LkPost (w : World) (O : Nat → Prop) (g : Nat) (es : List Et) (ls : List Lk) (x : Lk) (e : Ending) (w' : World) : Prop :=
  e = .returned (.int .i64 (lkE es.length ls x)) ∧ (lkE es.length ls x ≠ 0 → Below w.heap.size w w') ∧ (lkE es.length ls x = 0 → ∃ (O' : Nat → Prop) (r' : GrA), GrAt w' O' g r' es (ls ++ [x]) ∧ Keeps O w w' ∧ ∀ k, O' k → O k ∨ w.heap.size ≤ k)
set_option maxHeartbeats 4000000 in
set_option maxRecDepth 100000 in
theorem link_any {w : World} {O : Nat → Prop} {g : Nat} {r : GrA} {es : List Et} {ls : List Lk} (h : GrAt w O g r es ls) (x1 x2 x3 : Int) :
    Calls Tryd.prog 23 #[.pointer (some ⟨g, 0, none⟩), .agg #[.int .i64 x1, .int .i64 x2, .int .i64 x3]] w (LkPost w O g es ls (x1, x2, x3)) := by
  have HM : Hid (∀ W, Below w.heap.size w W → Calls Tryd.prog 34 #[.pointer (some ⟨g, 0, none⟩)] W fun e w' => e = .returned (.bool true) ∧ w' = W) := fun W hW => made_yes (h.bl hW)
  have HH : Hid (∀ n W, Below w.heap.size w W → Calls Tryd.prog 44 #[.pointer (some ⟨g, 0, none⟩), .int .i64 n] W fun e w' => e = .returned (.bool (hasB n es.length)) ∧ w' = W) := fun n W hW => has_yes (h.bl hW) n
  have hb0 := bl_alloc (bl_alloc (Below.refl _ w) (.cells #[.int .i64 x1, .int .i64 x2, .int .i64 x3] 33)) (.cells #[.int .i64 0] 35)
  have hX0 := (Blk.new w #[.int .i64 x1, .int .i64 x2, .int .i64 x3] 33).alloc (.cells #[.int .i64 0] 35)
  have hR0 := Blk.new2 w (.cells #[.int .i64 x1, .int .i64 x2, .int .i64 x3] 33) #[.int .i64 0] 35
  have HB0 := Lib.hid hb0
  have HX0 := Lib.hid hX0
  have HR0 := Lib.hid hR0
  have HG := Lib.hid h
  clear h hb0 hX0 hR0
  refine (callsIn_wide (n := 10)).1 ?_
  refine callsIn_of_wp_marks Tryd.func23 rfl trivial ?_ rfl
  simp only [Tryd.ntmps23, List.size_toArray, List.length_cons, List.length_nil, Nat.reduceAdd, Nat.reduceSub, Array.replicate_succ, Array.replicate_zero, List.push_toArray, List.append_toArray, List.nil_append, List.cons_append]
  refine wpIn_wide.2 ?_
  by_cases h1 : x1 < 1 ∨ 3 < x1
  · have HE : Hid (lkE es.length ls (x1, x2, x3) = 2) := by show _ = _; unfold lkE; rw [if_pos h1]
    have hR2 := (Blk.new2 w (.cells #[.int .i64 x1, .int .i64 x2, .int .i64 x3] 33) #[.int .i64 2] 35)
    have hb2 := bl_alloc (bl_alloc (Below.refl _ w) (.cells #[.int .i64 x1, .int .i64 x2, .int .i64 x3] 33)) (.cells #[.int .i64 2] 35)
    have HR2 := Lib.hid hR2
    have HB2 := Lib.hid hb2
    clear hR2 hb2
    have hfin : ∀ W', Trn [] _ W' → LkPost w O g es ls (x1, x2, x3) (.returned (.int .i64 2)) W' := fun W' ht => ⟨by rw [HE.out], fun _ => ht.below HB2.out (fun D h => by cases h), fun q => absurd (HE.out.symm.trans q) (by decide)⟩
    have HFIN := Lib.hid hfin
    clear hfin
    rcases h1 with h1 | h1
    · go_wp2_with first | fail | (go_at_call 34; refine (HM.out _ HB0.out).mono ?_; rintro e w1 ⟨rfl, hw⟩; subst w1)
      exact errno_ret rfl HR2.out [] List.nodup_nil (fun D h => by cases h) rfl HFIN.out
    · have h2 : ¬ x1 < 1 := by omega
      go_wp2_with first | fail | (go_at_call 34; refine (HM.out _ HB0.out).mono ?_; rintro e w1 ⟨rfl, hw⟩; subst w1)
      exact errno_ret rfl HR2.out [] List.nodup_nil (fun D h => by cases h) rfl HFIN.out
  by_cases h2 : hasB x2 es.length = false ∨ hasB x3 es.length = false
  · have HE : Hid (lkE es.length ls (x1, x2, x3) = 3) := by show _ = _; unfold lkE; rw [if_neg h1, if_pos h2]
    have hR2 := (Blk.new2 w (.cells #[.int .i64 x1, .int .i64 x2, .int .i64 x3] 33) #[.int .i64 3] 35)
    have hb2 := bl_alloc (bl_alloc (Below.refl _ w) (.cells #[.int .i64 x1, .int .i64 x2, .int .i64 x3] 33)) (.cells #[.int .i64 3] 35)
    have HR2 := Lib.hid hR2
    have HB2 := Lib.hid hb2
    clear hR2 hb2
    have hfin : ∀ W', Trn [] _ W' → LkPost w O g es ls (x1, x2, x3) (.returned (.int .i64 3)) W' := fun W' ht => ⟨by rw [HE.out], fun _ => ht.below HB2.out (fun D h => by cases h), fun q => absurd (HE.out.symm.trans q) (by decide)⟩
    have HFIN := Lib.hid hfin
    have g1 : ¬ x1 < 1 := fun q => h1 (.inl q)
    have g2 : ¬ 3 < x1 := fun q => h1 (.inr q)
    clear hfin h1
    cases h3 : hasB x2 es.length with
    | false =>
      clear h2
      go_wp2_with first | fail | (go_at_call 34; refine (HM.out _ HB0.out).mono ?_; rintro e w1 ⟨rfl, hw⟩; subst w1) | (go_at_call 44; refine (HH.out _ _ HB0.out).mono ?_; rintro e w1 ⟨rfl, hw⟩; subst w1; rw [h3])
      exact errno_ret rfl HR2.out [] List.nodup_nil (fun D h => by cases h) rfl HFIN.out
    | true =>
      have h4 : hasB x3 es.length = false := by rcases h2 with q | q; exact absurd (h3.symm.trans q) (by decide); exact q
      clear h2
      go_wp2_with first | fail | (go_at_call 34; refine (HM.out _ HB0.out).mono ?_; rintro e w1 ⟨rfl, hw⟩; subst w1) | (go_at_call 44; refine (HH.out _ _ HB0.out).mono ?_; rintro e w1 ⟨rfl, hw⟩; subst w1; first | rw [h3] | rw [h4])
      exact errno_ret rfl HR2.out [] List.nodup_nil (fun D h => by cases h) rfl HFIN.out
  · have g1 : ¬ x1 < 1 := fun q => h1 (.inl q)
    have g2 : ¬ 3 < x1 := fun q => h1 (.inr q)
    have h3 : hasB x2 es.length = true := by simpa using fun q => h2 (.inl q)
    have h4 : hasB x3 es.length = true := by simpa using fun q => h2 (.inr q)
    obtain ⟨p, rfl⟩ : ∃ p : Nat, x2 = p := ⟨x2.toNat, by unfold hasB at h3; simp at h3; omega⟩
    obtain ⟨q, rfl⟩ : ∃ q : Nat, x3 = q := ⟨x3.toNat, by unfold hasB at h4; simp at h4; omega⟩
    have hp : p < es.length := by unfold hasB at h3; simp at h3; omega
    have hq : q < es.length := by unfold hasB at h4; simp at h4; omega
    have HE : Hid (lkE es.length ls (x1, (p : Int), (q : Int)) = if q ∈ abL ls es.length p then 9 else if (x1, (p : Int), (q : Int)) ∈ ls then 6 else if 4096 ≤ ls.length then 4 else 0) := by show _ = _; unfold lkE; rw [if_neg h1, if_neg h2]; rfl
    clear h1 h2
    have c2 : ((w.alloc (.cells #[.int .i64 x1, .int .i64 p, .int .i64 q] 33)).alloc (.cells #[.int .i64 0] 35)).cell? ⟨w.heap.size, 1, none⟩ = some (.int .i64 p) := HX0.out.cell 1
    go_wp2_with first | fail | (go_at_call 34; refine (HM.out _ HB0.out).mono ?_; rintro e w1 ⟨rfl, hw⟩; subst w1) | (go_at_call 44; refine (HH.out _ _ HB0.out).mono ?_; rintro e w1 ⟨rfl, hw⟩; subst w1; first | rw [h3] | rw [h4])
    refine (above_any g p _).mono ?_
    rintro e w6 ⟨rfl, hw6⟩
    have hz4 : ((w.alloc (.cells #[.int .i64 x1, .int .i64 p, .int .i64 q] 33)).alloc (.cells #[.int .i64 0] 35)).heap.size = w.heap.size + 2 := by simp
    obtain ⟨w4, hw4⟩ : ∃ y, y = (w.alloc (.cells #[.int .i64 x1, .int .i64 p, .int .i64 q] 33)).alloc (.cells #[.int .i64 0] 35) := ⟨_, rfl⟩
    rw [← hw4] at hw6 hz4 HB0 HX0 HR0 ⊢
    have h46 : Below w4.heap.size w4 w6 := by rw [hw6]; exact bl_alloc (bl_alloc (Below.refl _ _) _) _
    have hgb : Blk w6 w4.heap.size #[.pointer (some ⟨g, 0, none⟩)] 23 := by rw [hw6]; exact (Blk.new w4 #[.pointer (some ⟨g, 0, none⟩)] 23).alloc _
    have hnb : Blk w6 (w4.heap.size + 1) #[.int .i64 p] 3 := by rw [hw6]; exact Blk.new2 _ _ _ _
    have hz6 : w6.heap.size = w.heap.size + 4 := by rw [hw6]; simp [hz4]
    have hb6 := HB0.out.trans (h46.mono HB0.out.size)
    have HX6 := Lib.hid (HX0.out.below h46)
    have HR6 := Lib.hid (HR0.out.below h46)
    have HG6 := Lib.hid (HG.out.bl hb6)
    have HGV := Lib.hid (above_gives (m := 9) (by omega) HG6.out hgb hnb hp)
    rw [hz4] at hgb hnb HGV ⊢
    have HB6 := Lib.hid hb6
    have HZ6 := Lib.hid hz6
    clear hz4 hw4 hw6 h46 hgb hnb hz6 hb6 c2 HX0 HR0 HB0
    obtain ⟨H, hH⟩ : ∃ H, H = w.heap.size := ⟨_, rfl⟩
    rw [← hH] at HX6 HR6 HZ6 HGV ⊢
    have HHH := Lib.hid hH
    obtain ⟨N, hN⟩ : ∃ N, N = es.length := ⟨_, rfl⟩
    clear hH
    have hN6 := ab_len HG6.out.inr hp
    go_wp2_with fail
    refine (wpIn_wide (n := 10)).1 ?_
    refine wpIn_range_Q (b := ?b) rfl (by omega) rfl trivial (enters_of Tryd.func50 (by kernel_rfl) rfl) HGV.out rfl
      (fun k O' W => (∀ B, ¬ O' B) ∧ (∀ j a, j < k → (abL ls es.length p)[j]? = some a → a ≠ q) ∧ Below w6.heap.size w6 W)
      (fun c k W => c = .ret ∧ (abL ls es.length p)[k - 1]? = some q ∧ Blk W (H + 1) #[.int .i64 9] 35 ∧ Below w.heap.size w W)
      ?hI (fun k O' W h B hB => absurd hB (h.1 B)) ?hIx (fun _ => False) (fun B hB => hB.elim) ⟨fun B hB => hB, fun j a hj => absurd hj (Nat.not_lt_zero _), Below.refl _ _⟩ ?assign ?body ?done ?stop
    case assign =>
      intro l x W K hK
      gi_wp2
      exact hK
    case hI =>
      rintro k O' W1 W2 ⟨k1, k2, k3⟩ hk
      exact ⟨k1, k2, Keeps.bl k3 hk fun y hy => hy.1⟩
    case hIx =>
      rintro c k W1 W2 ⟨k1, k2, k3, k4⟩ hk hc
      exact ⟨k1, k2, hc _ _ _ _ k3, Keeps.bl k4 hk fun y hy => by have := hy.1; have := HZ6.out; have := HHH.out; omega⟩
    case body =>
      rintro l k O' x W ⟨k1, k2, k3⟩ hx _
      obtain ⟨a, ha, rfl⟩ : ∃ a : Nat, (abL ls es.length p)[k]? = some a ∧ x = .int .i64 (a : Int) := by
        unfold yI at hx
        rw [List.getElem?_map] at hx
        cases hq : (abL ls es.length p)[k]? with
        | none => rw [hq] at hx; cases hx
        | some a => rw [hq] at hx; exact ⟨a, rfl, (Option.some.inj hx).symm⟩
      have d2 : W.cell? ⟨H, 2, none⟩ = some (.int .i64 q) := (HX6.out.below k3).cell 2
      have hR := HR6.out.below k3
      have d0 : W.cell? ⟨H + 1, 0, none⟩ = some (.int .i64 0) := hR.cell 0
      have f0 : W.frozen? ⟨H + 1, 0, none⟩ = false := hR.free 0
      have HRW := Lib.hid hR
      have K2 := Lib.hid k2
      have K3 := Lib.hid k3
      have HA := Lib.hid ha
      clear hR k2 k3 ha hx
      by_cases e : a = q
      · have HEQ := Lib.hid e
        have t1 : ((a : Int) == (q : Int)) = true := by simp [e]
        have t2 : decide ((a : Int) = (q : Int)) = true := by simp [e]
        clear e
        gi_wp2
        refine ⟨KeepsOthers.setCell _ _ _, rfl, by rw [Nat.add_sub_cancel, HA.out, HEQ.out], by have := HRW.out.set 0 (.int .i64 9); simpa using this, ?_⟩
        have h5 := HB6.out.trans (K3.out.mono HB6.out.size)
        exact h5.setCell (p := ⟨H + 1, 0, none⟩) (by show w.heap.size ≤ H + 1; rw [HHH.out]; omega) _
      · have HEQ := Lib.hid e
        have t1 : ((a : Int) == (q : Int)) = false := by simp; omega
        have t2 : decide ((a : Int) = (q : Int)) = false := by simp; omega
        clear e
        gi_wp2
        refine ⟨KeepsOthers.refl _, O', ⟨k1, fun j b hj hb => ?_, K3.out⟩, ⟨fun B hB => .inl hB, fun B hB => absurd hB (k1 B), Nat.le_refl _, fun B cs t fr _ hB => hB⟩⟩
        by_cases ej : j = k
        · subst ej
          rw [HA.out] at hb
          cases hb
          exact HEQ.out
        · exact K2.out j b (by omega) hb
    case stop =>
      rintro D c k W hD hk ⟨rfl, k2, k3, k4⟩ hDD
      rw [Nat.add_sub_cancel] at k2
      have hqm : q ∈ abL ls es.length p := List.mem_of_getElem? k2
      have he := HE.out
      rw [if_pos hqm] at he
      refine wpIn_wide.2 ?_
      have HK3 := Lib.hid k3
      clear k3
      go_wp2_with fail
      refine errno_ret (Ds := [D]) rfl HK3.out (by simp) (fun D' h => by rw [List.mem_singleton] at h; subst h; exact hDD) rfl fun W' ht => ?_
      exact ⟨by rw [he], fun _ => ht.below k4 (fun D' h => by rw [List.mem_singleton] at h; subst h; have := HZ6.out; have := HHH.out; omega), fun q2 => absurd (he.symm.trans q2) (by decide)⟩
    case done =>
      rintro D O' W hD ⟨_, k2, k3⟩ hDD
      have hqm : ¬ q ∈ abL ls es.length p := fun hm => by
        obtain ⟨j, hj, e⟩ := List.getElem_of_mem hm
        exact k2 j q (by unfold yI; rw [List.length_map]; exact hj) (by rw [List.getElem?_eq_getElem hj, e]) rfl
      rw [if_neg hqm] at HE
      have HK3 := Lib.hid k3
      clear k2 k3
      have HDD := Lib.hid hDD
      have hGW := HG6.out.bl HK3.out
      have HGW := Lib.hid hGW
      have e1 : W.cell? ⟨g, 1, none⟩ = some (.slice r.B ls.length r.d) := hGW.blk.cell 1
      have hnL := hGW.nL
      have HXW := Lib.hid (HX6.out.below HK3.out)
      have HRW := Lib.hid (HR6.out.below HK3.out)
      have HBW := Lib.hid (HB6.out.trans (HK3.out.mono HB6.out.size))
      have HCL : Hid (∀ W', Below W.heap.size W W' → Calls Tryd.prog 45 #[.slice r.B ls.length r.d, .agg #[.int .i64 x1, .int .i64 (p : Int), .int .i64 (q : Int)]] W' fun e w' => e = .returned (.bool (decide ((x1, (p : Int), (q : Int)) ∈ ls))) ∧ Below W'.heap.size W' w') := fun W' hW' => containsLk_any r.B ls.length r.d ls (x1, (p : Int), (q : Int)) W' rfl (by omega) ((rd_of_owns hGW.lks).bl hW')
      have e2 : W.cell? ⟨H, 0, none⟩ = some (.int .i64 x1) := HXW.out.cell 0
      have e3 : W.cell? ⟨H, 1, none⟩ = some (.int .i64 p) := HXW.out.cell 1
      have e4 : W.cell? ⟨H, 2, none⟩ = some (.int .i64 q) := HXW.out.cell 2
      have hDW : D ≠ H + 1 := by have := HZ6.out; omega
      have hDl := (Array.getElem?_eq_some_iff.1 hDD).1
      have hDH : w.heap.size ≤ D := by have := HZ6.out; have := HHH.out; omega
      obtain ⟨L, hL⟩ : ∃ L, L = ls.length := ⟨_, rfl⟩
      rw [← hL] at e1 HCL hnL HE
      have HLL := Lib.hid hL
      have HG0 := Lib.hid HG.out
      clear hL hGW hDD HX6 HR6 HGV HM HH HG6 HG
      simp only [Exit.inBlock, Exit.then]
      go_wp2_with fail
      clear e1 e2 e3 e4
      have f1 : W.drew.cell? ⟨g, 1, none⟩ = some (.slice r.B L r.d) := by rw [HLL.out]; exact HGW.out.blk.cell 1
      refine wp_region_order (S := fun w' => w'.cell? ⟨g, 1, none⟩ = some (.slice r.B L r.d) ∧ w'.cell? ⟨H, 0, none⟩ = some (.int .i64 x1) ∧ w'.cell? ⟨H, 1, none⟩ = some (.int .i64 p) ∧ w'.cell? ⟨H, 2, none⟩ = some (.int .i64 q)) 6 [0,1,2,3,4] [5] (by kernel_rfl) (by kernel_rfl) ⟨f1, HXW.out.cell 0, HXW.out.cell 1, HXW.out.cell 2⟩ ?_
      iterate 5 (refine headT_cons (by rfl) (by rfl) (by intro w hSw; obtain ⟨s0, s1, s2, s3⟩ := hSw; go_simp; try rfl) ?_; simp only [Act.put, List.setIfInBounds_toArray, List.set_cons_zero, List.set_cons_succ])
      refine headT_nil ?_
      obtain ⟨wa, hwa⟩ : ∃ y, y = W.drew := ⟨_, rfl⟩
      rw [← hwa]
      have hba : Below W.heap.size W wa := by rw [hwa]; exact bl_drewN (Below.refl _ _) 1
      clear hwa f1
      refine midT_cons (by rfl) (fun K hK => ?_)
      rw [if_pos (by rfl)]
      go_simp
      refine (HCL.out wa hba).mono ?_
      rintro e w7 ⟨rfl, hb7⟩
      have hb7' := bl_trans hba hb7
      have HB7 := Lib.hid hb7'
      refine hK.out _ _ ⟨?_, ?_, ?_, ?_⟩ (fun _ => ?_)
      · rw [HLL.out]; exact (HGW.out.bl hb7').blk.cell 1
      · exact (HXW.out.below hb7').cell 0
      · exact (HXW.out.below hb7').cell 1
      · exact (HXW.out.below hb7').cell 2
      clear hK K hb7 hb7' hba
      try simp only [Act.put, List.setIfInBounds_toArray, List.set_cons_zero, List.set_cons_succ]
      refine midT_nil ?_
      simp only [List.drop_succ_cons, List.drop_zero]
      go_wp2_with fail
      refine NoPanic.normal ?_
      have HD7 : Hid (w7.heap[D]? = some (Obj.deferred (some []))) := (HB7.out.block D hDl).trans HDD.out
      have HR7 := Lib.hid (HRW.out.below HB7.out)
      have HBW7 := Lib.hid (HBW.out.trans (HB7.out.mono HBW.out.size))
      have d0 : w7.cell? ⟨H + 1, 0, none⟩ = some (.int .i64 0) := HR7.out.cell 0
      have f0 : w7.frozen? ⟨H + 1, 0, none⟩ = false := HR7.out.free 0
      have HFAIL : Hid (∀ v : Int, lkE es.length ls (x1, (p : Int), (q : Int)) = v → v ≠ 0 → ∀ tmps : Array Value, tmps.getD 4 undef = .pointer (some ⟨H + 1, 0, none⟩) → LeavesInM Fence.wide 10 Tryd.prog Tryd.f23 tmps (LkPost w O g es ls (x1, (p : Int), (q : Int))) (dfs [D]) .returning (w7.setCell ⟨H + 1, 0, none⟩ (.int .i64 v))) := fun v hv hv0 tmps ht4 => by
        refine errno_ret (R0 := H + 1) (v := v) rfl (by have := HR7.out.set 0 (.int .i64 v); simpa using this) [D] (by simp) (fun D' h => by rw [List.mem_singleton] at h; subst h; exact (Below.heap_setCell _ _ _ _ hDW).trans HD7.out) ht4 fun W' ht => ?_
        refine ⟨by rw [hv], fun _ => ht.below (HBW7.out.setCell (p := ⟨H + 1, 0, none⟩) (by show w.heap.size ≤ H + 1; have := HHH.out; omega) _) (fun D' h => by rw [List.mem_singleton] at h; subst h; exact hDH), fun q2 => absurd (hv.symm.trans q2) hv0⟩
      by_cases hx : (x1, (p : Int), (q : Int)) ∈ ls
      · rw [if_pos hx] at HE
        rw [decide_eq_true hx]
        have HE := Lib.hid HE.out
        clear hx
        go_wp2_with fail
        exact HFAIL.out 6 HE.out (by decide) _ rfl
      · rw [if_neg hx] at HE
        rw [decide_eq_false hx]
        have HX := Lib.hid hx
        clear hx
        by_cases hL : 4096 ≤ L
        · rw [if_pos hL] at HE
          obtain rfl : L = 4096 := by omega
          go_wp2_with fail
          exact HFAIL.out 4 HE.out (by decide) _ rfl
        · rw [if_neg hL] at HE
          have hL2 : ¬ 4096 ≤ (L : Int) := by omega
          go_wp2_with fail
          have HGA := Lib.hid (HGW.out.bl HB7.out).toG
          have HXA := Lib.hid (HXW.out.below HB7.out)
          clear d0 f0 HFAIL HRW HGW HXW HCL HK3 HB7 HBW HDD hDl
          obtain ⟨P, hP⟩ : ∃ P : Nat → Prop, P = fun k => O k ∨ w7.heap.size ≤ k := ⟨_, rfl⟩
          have HP := Lib.hid hP
          have HOl : Hid (∀ k, O k → k < H) := fun k hk => by have := HG0.out.lt k hk; have := HHH.out; omega
          have hgH : g < H := HOl.out g HGA.out.oG
          clear hP
          have f1 : w7.drew.cell? ⟨g, 1, none⟩ = some (.slice r.B L r.d) := by rw [HLL.out]; exact HGA.out.blk.cell 1
          refine wp_region_order (S := fun w' => w'.cell? ⟨g, 1, none⟩ = some (.slice r.B L r.d) ∧ w'.cell? ⟨H, 0, none⟩ = some (.int .i64 x1) ∧ w'.cell? ⟨H, 1, none⟩ = some (.int .i64 p) ∧ w'.cell? ⟨H, 2, none⟩ = some (.int .i64 q)) 8 [0,1,2,3,4,5] [6,7] (by kernel_rfl) (by kernel_rfl) ⟨f1, HXA.out.cell 0, HXA.out.cell 1, HXA.out.cell 2⟩ ?_
          iterate 6 (refine headT_cons (by rfl) (by rfl) (by intro w hSw; obtain ⟨s0, s1, s2, s3⟩ := hSw; go_simp; try rfl) ?_; simp only [Act.put, List.setIfInBounds_toArray, List.set_cons_zero, List.set_cons_succ])
          refine headT_nil ?_
          obtain ⟨wb, hwb⟩ : ∃ y, y = w7.drew := ⟨_, rfl⟩
          rw [← hwb]
          have hbb : Below w7.heap.size w7 wb := by rw [hwb]; exact bl_drewN (Below.refl _ _) 1
          clear hwb f1
          refine midT_cons (by rfl) (fun K hK => ?_)
          rw [if_pos (by rfl)]
          go_simp
          have hbc := bl_alloc hbb (.cells #[.int .i64 x1, .int .i64 (p : Int), .int .i64 (q : Int)] 33)
          have hB0 : Rd (wb.alloc (.cells #[.int .i64 x1, .int .i64 (p : Int), .int .i64 (q : Int)] 33)) (some ⟨wb.heap.size, 0, none⟩) (fl encLk [(x1, (p : Int), (q : Int))]) := rd_of_blkQ (t := 33) (Blk.new wb _ _)
          obtain ⟨B0, hB0e⟩ : ∃ y, y = wb.heap.size := ⟨_, rfl⟩
          obtain ⟨wc, hwc⟩ : ∃ y, y = wb.alloc (.cells #[.int .i64 x1, .int .i64 (p : Int), .int .i64 (q : Int)] 33) := ⟨_, rfl⟩
          rw [← hwc, ← hB0e] at hB0 ⊢
          rw [← hwc] at hbc
          have HBC := Lib.hid hbc
          have HB0 := Lib.hid hB0
          have HGC := Lib.hid (HGA.out.bl hbc)
          refine hK.out _ _ ⟨?_, ?_, ?_, ?_⟩ (fun _ => ?_)
          · rw [HLL.out]; exact HGC.out.blk.cell 1
          · exact (HXA.out.below hbc).cell 0
          · exact (HXA.out.below hbc).cell 1
          · exact (HXA.out.below hbc).cell 2
          clear hK K hbc hB0 hwc hB0e hbb
          try simp only [Act.put, List.setIfInBounds_toArray, List.set_cons_zero, List.set_cons_succ]
          refine midT_cons (by rfl) (fun K hK => ?_)
          rw [if_pos (by rfl)]
          have HLO : Hid (wc.ownsRow 0 33 3 (.slice r.B L r.d) L (fl encLk ls)) := by rw [HLL.out]; exact HGC.out.lks
          refine wp_pushs encLk_len (by decide) encLk_one Tryd.underlying24 infoLk rfl (.tmp 61) (.tmp 63) rfl (.slice r.B L r.d) ls L HLL.out rfl HLO.out (some ⟨B0, 0, none⟩) 1 1 [(x1, (p : Int), (q : Int))] rfl rfl HB0.out (fun e => by cases e) (by omega) (by decide) (by omega) ?_
          intro v8 w8 h81 h82 h83
          obtain ⟨B', d', rfl, _⟩ := owns_slice h81
          have k8 : Blk w8 g #[.slice r.A es.length r.c, .slice r.B ls.length r.d, .map (some r.mb)] 74 := HGC.out.blk.grown h82 fun e => by
            have h1 := own_kind HLO.out e.symm
            rw [HGC.out.blk.kind] at h1
            exact absurd h1 (by decide)
          have x8 : Blk w8 H #[.int .i64 x1, .int .i64 (p : Int), .int .i64 (q : Int)] 33 := (HXA.out.below HBC.out).grown h82 fun e => by
            have h1 := HOl.out H (HGA.out.oK H (by rw [← HLL.out]; exact e.symm))
            omega
          have H81 := Lib.hid h81
          have H82 := Lib.hid h82
          have H83 := Lib.hid h83
          have K8 := Lib.hid k8
          refine hK.out _ _ ⟨?_, ?_, ?_, ?_⟩ (fun _ => ?_)
          · rw [HLL.out]; exact k8.cell 1
          · exact x8.cell 0
          · exact x8.cell 1
          · exact x8.cell 2
          clear hK K h81 h82 h83 k8 x8
          have c8 : w8.cell? ⟨g, 1, none⟩ = some (.slice r.B L r.d) := by rw [HLL.out]; exact K8.out.cell 1
          have f8 : w8.frozen? ⟨g, 1, none⟩ = false := K8.out.free 1
          try simp only [Act.put, List.setIfInBounds_toArray, List.set_cons_zero, List.set_cons_succ]
          refine midT_nil ?_
          simp only [List.drop_succ_cons, List.drop_zero]
          go_wp2_with fail
          refine NoPanic.normal ?_
          have hk9 : ∀ k, k < w7.heap.size → k ≠ g → (Value.slice r.B ls.length r.d).ownBlock ≠ some k → (w8.setCell ⟨g, 1, none⟩ (.slice B' (L + 1) d')).heap[k]? = w7.heap[k]? := fun k k1 k2 k3 =>
            (Below.heap_setCell w8 ⟨g, 1, none⟩ _ k k2).trans ((H82.out.block k (Nat.lt_of_lt_of_le k1 HBC.out.size) fun e => k3 (by rw [← HLL.out]; exact e.symm)).trans (HBC.out.block k k1))
          have hz9 : w7.heap.size ≤ (w8.setCell ⟨g, 1, none⟩ (.slice B' (L + 1) d')).heap.size := by
            have h1 := HBC.out.size
            have h2 := H82.out.size
            have h3 : (w8.setCell ⟨g, 1, none⟩ (.slice B' (L + 1) d')).heap.size = w8.heap.size := by simp
            omega
          have hG9 := HGA.out.links (x1, (p : Int), (q : Int)) (B' := B') (d' := d') hz9 hk9 (by have := K8.out.set 1 (.slice B' (L + 1) d'); rw [← HLL.out]; simpa using this)
            (by rw [← HLL.out]; exact owns_setQ H81.out K8.out (by decide) 1 _)
            (fun b e => by
              rw [← HLL.out] at e
              rcases H83.out with k | k
              · left; rw [← HLL.out, ← k]; exact e
              · right; rw [k] at e; cases e; exact HBC.out.size) (by rw [← HLL.out]; omega) ⟨⟨Int.natCast_nonneg _, by show (p : Int) < _; omega⟩, Int.natCast_nonneg _, by show (q : Int) < _; omega⟩
          have hP9 : ∀ k, (O k ∨ (Value.slice B' (ls.length + 1) d').ownBlock = some k) → P k := fun k e => by
            rw [HP.out]
            rcases e with e | e
            · exact .inl e
            · rw [← HLL.out] at e
              rcases H83.out with k | k
              · rw [k] at e; exact .inl (HGA.out.oK _ (by rw [← HLL.out]; exact e))
              · rw [k] at e; cases e; exact .inr HBC.out.size
          have hKP : Keeps P w7 (w8.setCell ⟨g, 1, none⟩ (.slice B' (L + 1) d')) := ⟨H82.out.os.trans HBC.out.os, H82.out.tape.trans HBC.out.tape, H82.out.output.trans HBC.out.output, hz9, fun k k1 k2 => hk9 k k1 (fun e => k2 (by rw [e, HP.out]; exact .inl HGA.out.oG)) fun e => k2 (by rw [HP.out]; exact .inl (HGA.out.oK k e))⟩
          obtain ⟨w9, hw9⟩ : ∃ y, y = w8.setCell ⟨g, 1, none⟩ (.slice B' (L + 1) d') := ⟨_, rfl⟩
          rw [← hw9] at hG9 hKP ⊢
          obtain ⟨O9, hO9⟩ : ∃ y : Nat → Prop, y = fun k => O k ∨ (Value.slice B' (ls.length + 1) d').ownBlock = some k := ⟨_, rfl⟩
          rw [← hO9] at hG9
          have HP9 : Hid (∀ k, O9 k → P k) := fun k e => hP9 k (by rw [hO9] at e; exact e)
          have HG9 := Lib.hid hG9
          have HKP9 := Lib.hid hKP
          have HOP : Hid (∀ k, H ≤ k → k < w7.heap.size → ¬ P k) := fun k k1 k2 e => by
            rw [HP.out] at e
            rcases e with e | e
            · have := HOl.out k e; omega
            · omega
          have HZ7 : Hid (H + 1 < w7.heap.size) := HR7.out.lt
          clear hk9 hz9 hG9 hP9 hKP hw9 hO9 H81 H82 H83 K8 c8 f8 HBC HB0 HLO HGC HGA
          have HX9 : Hid (Blk w9 H #[.int .i64 x1, .int .i64 (p : Int), .int .i64 (q : Int)] 33) := HXA.out.kp HKP9.out (HOP.out H (Nat.le_refl _) (by have := HZ7.out; omega))
          obtain ⟨ba, hba⟩ := own_off HG9.out.list (by omega)
          have hcA := own_capQ HG9.out.list
          have hba2 : (Value.slice (⟨r.A, r.c, B', d', r.mb, r.ens⟩ : GrA).A es.length (⟨r.A, r.c, B', d', r.mb, r.ens⟩ : GrA).c).ownBlock = some ba := by rw [hba]; rfl
          have g0 : w9.cell? ⟨g, 0, none⟩ = some (.slice (some ⟨ba, 0, none⟩) es.length (⟨r.A, r.c, B', d', r.mb, r.ens⟩ : GrA).c) := by rw [← hba]; exact HG9.out.blk.cell 0
          obtain ⟨⟨ta, tn, tc⟩, htr⟩ : ∃ y, y = ((⟨r.A, r.c, B', d', r.mb, r.ens⟩ : GrA).ens.getD p enD).tos := ⟨_, rfl⟩
          have g3 : w9.cell? ⟨ba, p * 4 + 3, none⟩ = some (.slice ta tn tc) := by
            obtain ⟨b', o', e', _, hc⟩ := rdEn (rd_of_owns HG9.out.list) (by rw [HG9.out.len]; omega)
            rw [hba] at e'
            cases e'
            have h4 := (hc p (by rw [HG9.out.len]; omega)).2.2.2
            rw [Nat.zero_add, ← htr] at h4
            exact h4
          have hrow := HG9.out.tos p (by omega)
          rw [← htr] at hrow
          obtain ⟨_, _, e4, _⟩ := owns_slice hrow
          simp only [slR, Value.slice.injEq] at e4
          have htn : tn = (toI ls p).length := e4.2.1
          clear e4
          have htl : tn ≤ 4096 := by
            rw [htn]
            have h5 := List.length_filter_le (fun k => decide (lF ls k = (p : Int))) (List.range ls.length)
            rw [List.length_range] at h5
            have h6 := HLL.out
            have h7 : (toI ls p).length = ((List.range ls.length).filter fun k => decide (lF ls k = (p : Int))).length := List.length_map _
            omega
          have HROW : Hid (w9.ownsRow 0 3 1 (.slice ta tn tc) tn (fl encI (toI ls p))) := by
            show World.ownsRow _ _ _ _ _ _ _
            rw [htn] at hrow ⊢
            exact hrow
          have HTN := Lib.hid htn
          have HTR := Lib.hid htr
          have HBA := Lib.hid hba2
          have HBA1 := Lib.hid hba
          clear hrow htn htr hba2 hba
          obtain ⟨N1, hN1⟩ : ∃ y, y = es.length := ⟨_, rfl⟩
          obtain ⟨cA, hcAe⟩ : ∃ y, y = (⟨r.A, r.c, B', d', r.mb, r.ens⟩ : GrA).c := ⟨_, rfl⟩
          have hN1v : es.length = N1 := hN1.symm
          rw [← hN1, ← hcAe] at g0 hcA
          have HN1 := Lib.hid hN1
          have HCA := Lib.hid hcAe
          clear hN1 hcAe hN1v
          have hiN : p < N1 := by rw [HN1.out]; omega
          have d0 : w9.drew.cell? ⟨g, 0, none⟩ = some (.slice (some ⟨ba, 0, none⟩) N1 cA) := g0
          have d1 : w9.drew.cell? ⟨H, 1, none⟩ = some (.int .i64 p) := HX9.out.cell 1
          have d3 : w9.drew.cell? ⟨ba, p * 4 + 3, none⟩ = some (.slice ta tn tc) := g3
          go_wp2_with fail
          refine wp_region_order (S := fun w' => w'.cell? ⟨g, 0, none⟩ = some (.slice (some ⟨ba, 0, none⟩) N1 cA) ∧ w'.cell? ⟨H, 1, none⟩ = some (.int .i64 p) ∧ w'.cell? ⟨ba, p * 4 + 3, none⟩ = some (.slice ta tn tc)) 18 [0,1,2,3,4,5,6,7,8,9,10,11,12,13,14,15] [16,17] (by kernel_rfl) (by kernel_rfl) ⟨d0, d1, d3⟩ ?_
          iterate 16 (refine headT_cons (by rfl) (by rfl) (by intro w hSw; obtain ⟨s0, s1, s2⟩ := hSw; go_simp; try rfl) ?_; simp only [Act.put, List.setIfInBounds_toArray, List.set_cons_zero, List.set_cons_succ])
          refine headT_nil ?_
          obtain ⟨wb, hwb⟩ : ∃ y, y = w9.drew := ⟨_, rfl⟩
          rw [← hwb]
          have hbb : Below w9.heap.size w9 wb := by rw [hwb]; exact bl_drewN (Below.refl _ _) 1
          clear hwb d0 d1 d3
          refine midT_cons (by rfl) (fun K hK => ?_)
          rw [if_pos (by rfl)]
          go_simp
          have hbc := bl_alloc hbb (.cells #[.int .i64 (L : Int)] 3)
          have hB0 : Rd (wb.alloc (.cells #[.int .i64 (L : Int)] 3)) (some ⟨wb.heap.size, 0, none⟩) (fl encI [(L : Int)]) := rd_of_blkQ (t := 3) (Blk.new wb _ _)
          obtain ⟨B0, hB0e⟩ : ∃ y, y = wb.heap.size := ⟨_, rfl⟩
          obtain ⟨wc, hwc⟩ : ∃ y, y = wb.alloc (.cells #[.int .i64 (L : Int)] 3) := ⟨_, rfl⟩
          rw [← hwc, ← hB0e] at hB0 ⊢
          rw [← hwc] at hbc
          have HBC := Lib.hid hbc
          have HB0 := Lib.hid hB0
          have HGC := Lib.hid (HG9.out.bl hbc)
          have HXC := Lib.hid (HX9.out.below hbc)
          have HRC := Lib.hid (owns_below HROW.out hbc)
          have hb3 : ba < w9.heap.size := (HG9.out.list.lt ba HBA.out).2
          have g0c : wc.cell? ⟨g, 0, none⟩ = some (.slice (some ⟨ba, 0, none⟩) N1 cA) := by rw [HN1.out, HCA.out, ← HBA1.out]; exact HGC.out.blk.cell 0
          have g3c : wc.cell? ⟨ba, p * 4 + 3, none⟩ = some (.slice ta tn tc) := (hbc.cell (p := ⟨ba, p * 4 + 3, none⟩) hb3).trans g3
          refine hK.out _ _ ⟨g0c, HXC.out.cell 1, g3c⟩ (fun _ => ?_)
          clear hK K hbc hB0 hwc hB0e hbb g0 g3
          try simp only [Act.put, List.setIfInBounds_toArray, List.set_cons_zero, List.set_cons_succ]
          refine midT_cons (by rfl) (fun K hK => ?_)
          rw [if_pos (by rfl)]
          refine wp_pushs encI_len (by decide) encI_one Tryd.underlying31 info_I rfl (.tmp 81) (.tmp 83) rfl (.slice ta tn tc) (toI ls p) tn HTN.out rfl HRC.out (some ⟨B0, 0, none⟩) 1 1 [(L : Int)] rfl rfl HB0.out (fun e => by cases e) (by omega) (by decide) (by omega) ?_
          intro v10 w10 h81 h82 h83
          obtain ⟨ya, yc, rfl, _⟩ := owns_slice h81
          have htk : ∀ b, (Value.slice ta tn tc).ownBlock = some b → kind wc b = some (some 3) := fun b e => own_kind HRC.out e
          have k8 := HGC.out.blk.grown h82 fun e => by
            have h1 := htk g e.symm
            rw [HGC.out.blk.kind] at h1
            exact absurd h1 (by decide)
          have x8 : Blk w10 H #[.int .i64 x1, .int .i64 (p : Int), .int .i64 (q : Int)] 33 := HXC.out.grown h82 fun e => by
            have h1 := htk H e.symm
            rw [HXC.out.kind] at h1
            exact absurd h1 (by decide)
          have l8 := HGC.out.list.kept h82 (.inr fun e => by
            have h1 := htk ba (by rw [← e]; exact HBA.out)
            have h2 := own_kind HGC.out.list HBA.out
            rw [h1] at h2
            exact absurd h2 (by decide))
          have g08 : w10.cell? ⟨g, 0, none⟩ = some (.slice (some ⟨ba, 0, none⟩) N1 cA) := by rw [HN1.out, HCA.out, ← HBA1.out]; exact k8.cell 0
          have g38 : w10.cell? ⟨ba, p * 4 + 3, none⟩ = some (.slice ta tn tc) := by
            obtain ⟨b', o', e', _, hc⟩ := rdEn (rd_of_owns l8) (by rw [HGC.out.len]; omega)
            rw [HBA1.out] at e'
            cases e'
            have h4 := (hc p (by rw [HGC.out.len]; omega)).2.2.2
            rw [Nat.zero_add, ← HTR.out] at h4
            exact h4
          have H81 := Lib.hid h81
          have H82 := Lib.hid h82
          have H83 := Lib.hid h83
          have L8 := Lib.hid l8
          refine hK.out _ _ ⟨g08, x8.cell 1, g38⟩ (fun _ => ?_)
          have z8 : w10.frozen? ⟨ba, p * 4 + 3, none⟩ = false := by
            have h5 := L8.out
            rw [HBA1.out] at h5
            exact World.ownsRow.frozenAt h5 _
          clear hK K h81 h82 h83 k8 x8 l8 htk g0c g3c
          try simp only [Act.put, List.setIfInBounds_toArray, List.set_cons_zero, List.set_cons_succ]
          refine midT_nil ?_
          simp only [List.drop_succ_cons, List.drop_zero]
          go_wp2_with fail
          refine NoPanic.normal ?_
          have hkS : ∀ k, k < w9.heap.size → (Value.slice (⟨r.A, r.c, B', d', r.mb, r.ens⟩ : GrA).A es.length (⟨r.A, r.c, B', d', r.mb, r.ens⟩ : GrA).c).ownBlock ≠ some k → (slR ((⟨r.A, r.c, B', d', r.mb, r.ens⟩ : GrA).ens.getD p enD).tos).ownBlock ≠ some k → (w10.setCell ⟨ba, p * 4 + 3, none⟩ (.slice ya (tn + 1) yc)).heap[k]? = w9.heap[k]? := fun k k1 k2 k3 =>
            (Below.heap_setCell w10 ⟨ba, p * 4 + 3, none⟩ _ k (fun e => k2 (by rw [e]; exact HBA.out))).trans ((H82.out.block k (Nat.lt_of_lt_of_le k1 HBC.out.size) fun e => k3 (by rw [← HTR.out]; exact e.symm)).trans (HBC.out.block k k1))
          have hzS : w9.heap.size ≤ (w10.setCell ⟨ba, p * 4 + 3, none⟩ (.slice ya (tn + 1) yc)).heap.size := by
            have h1 := HBC.out.size
            have h2 := H82.out.size
            have h3 : (w10.setCell ⟨ba, p * 4 + 3, none⟩ (.slice ya (tn + 1) yc)).heap.size = w10.heap.size := by simp
            omega
          have hLS : (w10.setCell ⟨ba, p * 4 + 3, none⟩ (.slice ya (tn + 1) yc)).ownsRow 0 82 4 (.slice (⟨r.A, r.c, B', d', r.mb, r.ens⟩ : GrA).A es.length (⟨r.A, r.c, B', d', r.mb, r.ens⟩ : GrA).c) es.length (fl encEn ((⟨r.A, r.c, B', d', r.mb, r.ens⟩ : GrA).ens.set p { (⟨r.A, r.c, B', d', r.mb, r.ens⟩ : GrA).ens.getD p enD with tos := (ya, tn + 1, yc) })) := by
            have h5 := L8.out
            rw [HBA1.out] at h5
            have h6 := (World.ownsRow.stored h5 (p * 4 + 3) (.slice ya (tn + 1) yc)).1
            rw [fl_setEn (j := 3) (v := .slice ya (tn + 1) yc) (by rw [HGC.out.len]; rw [HN1.out] at hiN; exact hiN) (by decide) rfl, HBA1.out]
            exact h6
          have hRS : (w10.setCell ⟨ba, p * 4 + 3, none⟩ (.slice ya (tn + 1) yc)).ownsRow 0 3 1 (slR (ya, tn + 1, yc)) (toI ls p ++ [(L : Int)]).length (fl encI (toI ls p ++ [(L : Int)])) := by
            have e9 : (toI ls p ++ [(L : Int)]).length = tn + 1 := by rw [List.length_append, ← HTN.out]; rfl
            rw [e9]
            refine ownsRow_setCell_other (a := ⟨ba, p * 4 + 3, none⟩) H81.out (fun e => ?_) _
            have h1 := own_kind H81.out e
            have h2 := own_kind L8.out HBA.out
            rw [h1] at h2
            exact absurd h2 (by decide)
          have hbS : ∀ b, (slR (ya, tn + 1, yc)).ownBlock = some b → (slR ((⟨r.A, r.c, B', d', r.mb, r.ens⟩ : GrA).ens.getD p enD).tos).ownBlock = some b ∨ w9.heap.size ≤ b := fun b e => by
            rcases H83.out with k | k
            · left; rw [← HTR.out]; exact k ▸ e
            · right; rw [show (slR (ya, tn + 1, yc)).ownBlock = some wc.heap.size from k] at e; cases e; exact HBC.out.size
          have hGS := HG9.out.put_tos (i := p) (by omega) (L : Int) (ya, tn + 1, yc) hzS hkS hLS hRS hbS
          have hKS : Keeps P w7 (w10.setCell ⟨ba, p * 4 + 3, none⟩ (.slice ya (tn + 1) yc)) := by
            refine ⟨H82.out.os.trans (HBC.out.os.trans HKP9.out.os), H82.out.tape.trans (HBC.out.tape.trans HKP9.out.tape), H82.out.output.trans (HBC.out.output.trans HKP9.out.output), Nat.le_trans HKP9.out.size hzS, fun k k1 k2 => ?_⟩
            exact (hkS k (Nat.lt_of_lt_of_le k1 HKP9.out.size) (fun e => k2 (HP9.out k (HG9.out.oL k e))) fun e => k2 (HP9.out k (HG9.out.oT p k (by omega) e))).trans (HKP9.out.block k k1 k2)
          have hPS : ∀ k, (O9 k ∨ (slR (ya, tn + 1, yc)).ownBlock = some k) → P k := fun k e => by
            rcases e with e | e
            · exact HP9.out k e
            · rcases hbS k e with e | e
              · exact HP9.out k (HG9.out.oT p k (by omega) e)
              · rw [HP.out]; right; have := HKP9.out.size; omega
          obtain ⟨w12, hw9⟩ : ∃ y, y = w10.setCell ⟨ba, p * 4 + 3, none⟩ (.slice ya (tn + 1) yc) := ⟨_, rfl⟩
          rw [← hw9] at hGS hKS ⊢
          obtain ⟨O12, hO9⟩ : ∃ y : Nat → Prop, y = fun k => O9 k ∨ (slR (ya, tn + 1, yc)).ownBlock = some k := ⟨_, rfl⟩
          obtain ⟨r12, hr9⟩ : ∃ y, y = (⟨(⟨r.A, r.c, B', d', r.mb, r.ens⟩ : GrA).A, (⟨r.A, r.c, B', d', r.mb, r.ens⟩ : GrA).c, (⟨r.A, r.c, B', d', r.mb, r.ens⟩ : GrA).B, (⟨r.A, r.c, B', d', r.mb, r.ens⟩ : GrA).d, (⟨r.A, r.c, B', d', r.mb, r.ens⟩ : GrA).mb, (⟨r.A, r.c, B', d', r.mb, r.ens⟩ : GrA).ens.set p { (⟨r.A, r.c, B', d', r.mb, r.ens⟩ : GrA).ens.getD p enD with tos := (ya, tn + 1, yc) }⟩ : GrA) := ⟨_, rfl⟩
          rw [← hO9, ← hr9] at hGS
          have HP12 : Hid (∀ k, O12 k → P k) := fun k e => hPS k (by rw [hO9] at e; exact e)
          have HG12 := Lib.hid hGS
          have HKP12 := Lib.hid hKS
          clear hkS hzS hLS hRS hbS hGS hKS hPS hw9 hO9 hr9 H81 H82 H83 L8 g08 g38 z8 HBC HB0 HROW HGC HXC HRC HTN HTR HBA HBA1 HX9 hb3 hcA hiN HN1 HCA htl
          have HX12 : Hid (Blk w12 H #[.int .i64 x1, .int .i64 (p : Int), .int .i64 (q : Int)] 33) := HXA.out.kp HKP12.out (HOP.out H (Nat.le_refl _) (by have := HZ7.out; omega))
          obtain ⟨ba, hba⟩ := own_off HG12.out.list (by omega)
          have hcA := own_capQ HG12.out.list
          have hba2 : (Value.slice r12.A es.length r12.c).ownBlock = some ba := by rw [hba]; rfl
          have g0 : w12.cell? ⟨g, 0, none⟩ = some (.slice (some ⟨ba, 0, none⟩) es.length r12.c) := by rw [← hba]; exact HG12.out.blk.cell 0
          obtain ⟨⟨ta, tn, tc⟩, htr⟩ : ∃ y, y = (r12.ens.getD q enD).frs := ⟨_, rfl⟩
          have g3 : w12.cell? ⟨ba, q * 4 + 2, none⟩ = some (.slice ta tn tc) := by
            obtain ⟨b', o', e', _, hc⟩ := rdEn (rd_of_owns HG12.out.list) (by rw [HG12.out.len]; omega)
            rw [hba] at e'
            cases e'
            have h4 := (hc q (by rw [HG12.out.len]; omega)).2.2.1
            rw [Nat.zero_add, ← htr] at h4
            exact h4
          have hrow := HG12.out.frs q (by omega)
          rw [← htr] at hrow
          obtain ⟨_, _, e4, _⟩ := owns_slice hrow
          simp only [slR, Value.slice.injEq] at e4
          have htn : tn = (frI ls q).length := e4.2.1
          clear e4
          have htl : tn ≤ 4096 := by
            rw [htn]
            have h5 := List.length_filter_le (fun k => decide (lT ls k = (q : Int))) (List.range ls.length)
            rw [List.length_range] at h5
            have h6 := HLL.out
            have h7 : (frI ls q).length = ((List.range ls.length).filter fun k => decide (lT ls k = (q : Int))).length := List.length_map _
            omega
          have HROW : Hid (w12.ownsRow 0 3 1 (.slice ta tn tc) tn (fl encI (frI ls q))) := by
            show World.ownsRow _ _ _ _ _ _ _
            rw [htn] at hrow ⊢
            exact hrow
          have HTN := Lib.hid htn
          have HTR := Lib.hid htr
          have HBA := Lib.hid hba2
          have HBA1 := Lib.hid hba
          clear hrow htn htr hba2 hba
          obtain ⟨N1, hN1⟩ : ∃ y, y = es.length := ⟨_, rfl⟩
          obtain ⟨cA, hcAe⟩ : ∃ y, y = r12.c := ⟨_, rfl⟩
          have hN1v : es.length = N1 := hN1.symm
          rw [← hN1, ← hcAe] at g0 hcA
          have HN1 := Lib.hid hN1
          have HCA := Lib.hid hcAe
          clear hN1 hcAe hN1v
          have hiN : q < N1 := by rw [HN1.out]; omega
          have d0 : w12.drew.cell? ⟨g, 0, none⟩ = some (.slice (some ⟨ba, 0, none⟩) N1 cA) := g0
          have d1 : w12.drew.cell? ⟨H, 2, none⟩ = some (.int .i64 q) := HX12.out.cell 2
          have d3 : w12.drew.cell? ⟨ba, q * 4 + 2, none⟩ = some (.slice ta tn tc) := g3
          go_wp2_with fail
          refine wp_region_order (S := fun w' => w'.cell? ⟨g, 0, none⟩ = some (.slice (some ⟨ba, 0, none⟩) N1 cA) ∧ w'.cell? ⟨H, 2, none⟩ = some (.int .i64 q) ∧ w'.cell? ⟨ba, q * 4 + 2, none⟩ = some (.slice ta tn tc)) 18 [0,1,2,3,4,5,6,7,8,9,10,11,12,13,14,15] [16,17] (by kernel_rfl) (by kernel_rfl) ⟨d0, d1, d3⟩ ?_
          iterate 16 (refine headT_cons (by rfl) (by rfl) (by intro w hSw; obtain ⟨s0, s1, s2⟩ := hSw; go_simp; try rfl) ?_; simp only [Act.put, List.setIfInBounds_toArray, List.set_cons_zero, List.set_cons_succ])
          refine headT_nil ?_
          obtain ⟨wb, hwb⟩ : ∃ y, y = w12.drew := ⟨_, rfl⟩
          rw [← hwb]
          have hbb : Below w12.heap.size w12 wb := by rw [hwb]; exact bl_drewN (Below.refl _ _) 1
          clear hwb d0 d1 d3
          refine midT_cons (by rfl) (fun K hK => ?_)
          rw [if_pos (by rfl)]
          go_simp
          have hbc := bl_alloc hbb (.cells #[.int .i64 (L : Int)] 3)
          have hB0 : Rd (wb.alloc (.cells #[.int .i64 (L : Int)] 3)) (some ⟨wb.heap.size, 0, none⟩) (fl encI [(L : Int)]) := rd_of_blkQ (t := 3) (Blk.new wb _ _)
          obtain ⟨B0, hB0e⟩ : ∃ y, y = wb.heap.size := ⟨_, rfl⟩
          obtain ⟨wc, hwc⟩ : ∃ y, y = wb.alloc (.cells #[.int .i64 (L : Int)] 3) := ⟨_, rfl⟩
          rw [← hwc, ← hB0e] at hB0 ⊢
          rw [← hwc] at hbc
          have HBC := Lib.hid hbc
          have HB0 := Lib.hid hB0
          have HGC := Lib.hid (HG12.out.bl hbc)
          have HXC := Lib.hid (HX12.out.below hbc)
          have HRC := Lib.hid (owns_below HROW.out hbc)
          have hb3 : ba < w12.heap.size := (HG12.out.list.lt ba HBA.out).2
          have g0c : wc.cell? ⟨g, 0, none⟩ = some (.slice (some ⟨ba, 0, none⟩) N1 cA) := by rw [HN1.out, HCA.out, ← HBA1.out]; exact HGC.out.blk.cell 0
          have g3c : wc.cell? ⟨ba, q * 4 + 2, none⟩ = some (.slice ta tn tc) := (hbc.cell (p := ⟨ba, q * 4 + 2, none⟩) hb3).trans g3
          refine hK.out _ _ ⟨g0c, HXC.out.cell 2, g3c⟩ (fun _ => ?_)
          clear hK K hbc hB0 hwc hB0e hbb g0 g3
          try simp only [Act.put, List.setIfInBounds_toArray, List.set_cons_zero, List.set_cons_succ]
          refine midT_cons (by rfl) (fun K hK => ?_)
          rw [if_pos (by rfl)]
          refine wp_pushs encI_len (by decide) encI_one Tryd.underlying31 info_I rfl (.tmp 101) (.tmp 103) rfl (.slice ta tn tc) (frI ls q) tn HTN.out rfl HRC.out (some ⟨B0, 0, none⟩) 1 1 [(L : Int)] rfl rfl HB0.out (fun e => by cases e) (by omega) (by decide) (by omega) ?_
          intro v13 w13 h81 h82 h83
          obtain ⟨ya, yc, rfl, _⟩ := owns_slice h81
          have htk : ∀ b, (Value.slice ta tn tc).ownBlock = some b → kind wc b = some (some 3) := fun b e => own_kind HRC.out e
          have k8 := HGC.out.blk.grown h82 fun e => by
            have h1 := htk g e.symm
            rw [HGC.out.blk.kind] at h1
            exact absurd h1 (by decide)
          have x8 : Blk w13 H #[.int .i64 x1, .int .i64 (p : Int), .int .i64 (q : Int)] 33 := HXC.out.grown h82 fun e => by
            have h1 := htk H e.symm
            rw [HXC.out.kind] at h1
            exact absurd h1 (by decide)
          have l8 := HGC.out.list.kept h82 (.inr fun e => by
            have h1 := htk ba (by rw [← e]; exact HBA.out)
            have h2 := own_kind HGC.out.list HBA.out
            rw [h1] at h2
            exact absurd h2 (by decide))
          have g08 : w13.cell? ⟨g, 0, none⟩ = some (.slice (some ⟨ba, 0, none⟩) N1 cA) := by rw [HN1.out, HCA.out, ← HBA1.out]; exact k8.cell 0
          have g38 : w13.cell? ⟨ba, q * 4 + 2, none⟩ = some (.slice ta tn tc) := by
            obtain ⟨b', o', e', _, hc⟩ := rdEn (rd_of_owns l8) (by rw [HGC.out.len]; omega)
            rw [HBA1.out] at e'
            cases e'
            have h4 := (hc q (by rw [HGC.out.len]; omega)).2.2.1
            rw [Nat.zero_add, ← HTR.out] at h4
            exact h4
          have H81 := Lib.hid h81
          have H82 := Lib.hid h82
          have H83 := Lib.hid h83
          have L8 := Lib.hid l8
          refine hK.out _ _ ⟨g08, x8.cell 2, g38⟩ (fun _ => ?_)
          have z8 : w13.frozen? ⟨ba, q * 4 + 2, none⟩ = false := by
            have h5 := L8.out
            rw [HBA1.out] at h5
            exact World.ownsRow.frozenAt h5 _
          clear hK K h81 h82 h83 k8 x8 l8 htk g0c g3c
          try simp only [Act.put, List.setIfInBounds_toArray, List.set_cons_zero, List.set_cons_succ]
          refine midT_nil ?_
          simp only [List.drop_succ_cons, List.drop_zero]
          go_wp2_with fail
          refine NoPanic.normal ?_
          have hkS : ∀ k, k < w12.heap.size → (Value.slice r12.A es.length r12.c).ownBlock ≠ some k → (slR (r12.ens.getD q enD).frs).ownBlock ≠ some k → (w13.setCell ⟨ba, q * 4 + 2, none⟩ (.slice ya (tn + 1) yc)).heap[k]? = w12.heap[k]? := fun k k1 k2 k3 =>
            (Below.heap_setCell w13 ⟨ba, q * 4 + 2, none⟩ _ k (fun e => k2 (by rw [e]; exact HBA.out))).trans ((H82.out.block k (Nat.lt_of_lt_of_le k1 HBC.out.size) fun e => k3 (by rw [← HTR.out]; exact e.symm)).trans (HBC.out.block k k1))
          have hzS : w12.heap.size ≤ (w13.setCell ⟨ba, q * 4 + 2, none⟩ (.slice ya (tn + 1) yc)).heap.size := by
            have h1 := HBC.out.size
            have h2 := H82.out.size
            have h3 : (w13.setCell ⟨ba, q * 4 + 2, none⟩ (.slice ya (tn + 1) yc)).heap.size = w13.heap.size := by simp
            omega
          have hLS : (w13.setCell ⟨ba, q * 4 + 2, none⟩ (.slice ya (tn + 1) yc)).ownsRow 0 82 4 (.slice r12.A es.length r12.c) es.length (fl encEn (r12.ens.set q { r12.ens.getD q enD with frs := (ya, tn + 1, yc) })) := by
            have h5 := L8.out
            rw [HBA1.out] at h5
            have h6 := (World.ownsRow.stored h5 (q * 4 + 2) (.slice ya (tn + 1) yc)).1
            rw [fl_setEn (j := 2) (v := .slice ya (tn + 1) yc) (by rw [HGC.out.len]; rw [HN1.out] at hiN; exact hiN) (by decide) rfl, HBA1.out]
            exact h6
          have hRS : (w13.setCell ⟨ba, q * 4 + 2, none⟩ (.slice ya (tn + 1) yc)).ownsRow 0 3 1 (slR (ya, tn + 1, yc)) (frI ls q ++ [(L : Int)]).length (fl encI (frI ls q ++ [(L : Int)])) := by
            have e9 : (frI ls q ++ [(L : Int)]).length = tn + 1 := by rw [List.length_append, ← HTN.out]; rfl
            rw [e9]
            refine ownsRow_setCell_other (a := ⟨ba, q * 4 + 2, none⟩) H81.out (fun e => ?_) _
            have h1 := own_kind H81.out e
            have h2 := own_kind L8.out HBA.out
            rw [h1] at h2
            exact absurd h2 (by decide)
          have hbS : ∀ b, (slR (ya, tn + 1, yc)).ownBlock = some b → (slR (r12.ens.getD q enD).frs).ownBlock = some b ∨ w12.heap.size ≤ b := fun b e => by
            rcases H83.out with k | k
            · left; rw [← HTR.out]; exact k ▸ e
            · right; rw [show (slR (ya, tn + 1, yc)).ownBlock = some wc.heap.size from k] at e; cases e; exact HBC.out.size
          have hGS := HG12.out.put_frs (i := q) (by omega) (L : Int) (ya, tn + 1, yc) hzS hkS hLS hRS hbS
          have hKS : Keeps P w7 (w13.setCell ⟨ba, q * 4 + 2, none⟩ (.slice ya (tn + 1) yc)) := by
            refine ⟨H82.out.os.trans (HBC.out.os.trans HKP12.out.os), H82.out.tape.trans (HBC.out.tape.trans HKP12.out.tape), H82.out.output.trans (HBC.out.output.trans HKP12.out.output), Nat.le_trans HKP12.out.size hzS, fun k k1 k2 => ?_⟩
            exact (hkS k (Nat.lt_of_lt_of_le k1 HKP12.out.size) (fun e => k2 (HP12.out k (HG12.out.oL k e))) fun e => k2 (HP12.out k (HG12.out.oF q k (by omega) e))).trans (HKP12.out.block k k1 k2)
          have hPS : ∀ k, (O12 k ∨ (slR (ya, tn + 1, yc)).ownBlock = some k) → P k := fun k e => by
            rcases e with e | e
            · exact HP12.out k e
            · rcases hbS k e with e | e
              · exact HP12.out k (HG12.out.oF q k (by omega) e)
              · rw [HP.out]; right; have := HKP12.out.size; omega
          obtain ⟨w11, hw9⟩ : ∃ y, y = w13.setCell ⟨ba, q * 4 + 2, none⟩ (.slice ya (tn + 1) yc) := ⟨_, rfl⟩
          rw [← hw9] at hGS hKS ⊢
          obtain ⟨O11, hO9⟩ : ∃ y : Nat → Prop, y = fun k => O12 k ∨ (slR (ya, tn + 1, yc)).ownBlock = some k := ⟨_, rfl⟩
          obtain ⟨r11, hr9⟩ : ∃ y, y = (⟨r12.A, r12.c, r12.B, r12.d, r12.mb, r12.ens.set q { r12.ens.getD q enD with frs := (ya, tn + 1, yc) }⟩ : GrA) := ⟨_, rfl⟩
          rw [← hO9, ← hr9] at hGS
          have HP11 : Hid (∀ k, O11 k → P k) := fun k e => hPS k (by rw [hO9] at e; exact e)
          have HG11 := Lib.hid hGS
          have HKP11 := Lib.hid hKS
          clear hkS hzS hLS hRS hbS hGS hKS hPS hw9 hO9 hr9 H81 H82 H83 L8 g08 g38 z8 HBC HB0 HROW HGC HXC HRC HTN HTR HBA HBA1 HX12 hb3 hcA hiN HN1 HCA htl
          have HR9 : Hid (Blk w11 (H + 1) #[.int .i64 0] 35) := HR7.out.kp HKP11.out (HOP.out (H + 1) (by omega) HZ7.out)
          have d0 : w11.cell? ⟨H + 1, 0, none⟩ = some (.int .i64 0) := HR9.out.cell 0
          have f0 : w11.frozen? ⟨H + 1, 0, none⟩ = false := HR9.out.free 0
          have HD9 : Hid (w11.heap[D]? = some (Obj.deferred (some []))) := (HKP11.out.block D (Array.getElem?_eq_some_iff.1 HD7.out).1 (HOP.out D (by have := HHH.out; omega) (Array.getElem?_eq_some_iff.1 HD7.out).1)).trans HD7.out
          go_wp2_with fail
          have hGE : GrAt w11 O11 g r11 es (ls ++ [(x1, (p : Int), (q : Int))]) := HG11.out.done (fun i _ => by
            rw [frI_snoc]
            by_cases e : i = q
            · subst e; rw [if_pos rfl, if_pos rfl, HLL.out]
            · rw [if_neg e, if_neg (show ¬ ((q : Int) = (i : Int)) by omega), List.append_nil]) (fun i _ => by
            rw [toI_snoc]
            by_cases e : i = p
            · subst e; rw [if_pos rfl, if_pos rfl, HLL.out]
            · rw [if_neg e, if_neg (show ¬ ((p : Int) = (i : Int)) by omega), List.append_nil])
          have hz7 := HBW7.out.size
          have hDl7 := (Array.getElem?_eq_some_iff.1 HD7.out).1
          refine errno_ret (R0 := H + 1) (v := 0) rfl (by have := HR9.out.set 0 (.int .i64 0); simpa using this) [D] (by simp) (fun D' h => by rw [List.mem_singleton] at h; subst h; exact (Below.heap_setCell _ _ _ _ hDW).trans HD9.out) rfl fun W' ht => ?_
          have hW' : ∀ k, k ≠ H + 1 → k ≠ D → W'.heap[k]? = w11.heap[k]? := fun k k1 k2 => (ht.block k (by rw [List.mem_singleton]; exact k2)).trans (Below.heap_setCell _ ⟨H + 1, 0, none⟩ _ k k1)
          refine ⟨by rw [HE.out], fun q2 => absurd HE.out q2, fun _ => ⟨O11, r11, hGE.at ?_ (fun k hk => hW' k ?_ ?_) (fun i b hi hb => hW' b ?_ ?_), ⟨?_, ?_, ?_, ?_, fun k k1 k2 => ?_⟩, fun k hk => ?_⟩⟩
          · rw [ht.size]; simp
          · intro e; exact HOP.out (H + 1) (by omega) HZ7.out (e ▸ HP11.out k hk)
          · intro e; exact HOP.out D (by have := HHH.out; omega) hDl7 (e ▸ HP11.out k hk)
          · intro e
            have h1 := own_kind (hGE.snd i hi) hb
            rw [e, HR9.out.kind] at h1
            exact absurd h1 (by decide)
          · intro e
            obtain ⟨cs, t, fr, h1⟩ := owns_cells (hGE.snd i hi) hb
            rw [e, HD9.out] at h1
            cases h1
          · exact ht.os.trans (HKP11.out.os.trans HBW7.out.os)
          · exact ht.tape.trans (HKP11.out.tape.trans HBW7.out.tape)
          · exact ht.output.trans (HKP11.out.output.trans HBW7.out.output)
          · rw [ht.size]
            have := HKP11.out.size
            simp; omega
          · have := HHH.out
            refine (hW' k (by omega) (by omega)).trans ((HKP11.out.block k (by omega) fun e => ?_).trans (HBW7.out.block k k1))
            rw [HP.out] at e
            rcases e with e | e
            · exact k2 e
            · omega
          · have e := HP11.out k hk
            rw [HP.out] at e
            rcases e with e | e
            · exact .inl e
            · right; omega
end Go.Proofs.YtmfomjaomhohkaaDoor
namespace Go.Proofs.YtmfomjaomhohkaaDoor
open Go Go.RowKit Go.Shelf
attribute [local go_sem] Oper.semAt_some
/-- No link to a word is a borrowing. -/
def okB (ls : List Lk) (a : Nat) : Bool := (frK ls a).all fun k => decide (lK ls k ≠ 2)
def inhB (ls : List Lk) (N n : Nat) : Bool := (abL ls N n).all (okB ls)
def inhO (ls : List Lk) (N : Nat) (n : Int) : Bool := hasB n N && inhB ls N n.toNat
theorem results_cell2 {P : Program} {fn : Func} {p q : Tmp} {ty tz : TypeId} (h : fn.results = #[.cell p ty, .cell q tz]) (tmps : Array Value) (w : World) (b c : Nat) (v u : Value) (hp : tmps.getD p undef = .pointer (some ⟨b, 0, none⟩)) (hq : tmps.getD q undef = .pointer (some ⟨c, 0, none⟩)) (hv : (loadVar ty ⟨b, 0, none⟩).run P w = .ok v w) (hu : (loadVar tz ⟨c, 0, none⟩).run P w = .ok u w) :
    (results fn tmps).run P w = .ok (.tuple #[v, u]) w := by
  have hp2 : tmps[p]?.getD undef = .pointer (some ⟨b, 0, none⟩) := by rw [← hp]; simp
  have hq2 : tmps[q]?.getD undef = .pointer (some ⟨c, 0, none⟩) := by rw [← hq]; simp
  simp [results, h, hp2, hq2, asAddr, hv, hu]
theorem load_bool {W : World} {b : Nat} {v : Bool} (h : Blk W b #[.bool v] 4) : (loadVar 4 ⟨b, 0, none⟩).run Tryd.prog W = .ok (.bool v) W := by
  have c : W.cell? ⟨b, 0, none⟩ = some (.bool v) := h.cell 0
  simp [go_sem, c]
theorem inh_ret {W : World} {R : Ending → World → Prop} {R0 R1 : Nat} {tmps : Array Value} {v : Bool} {u : Int} (h0 : Blk W R0 #[.bool v] 4) (h1 : Blk W R1 #[.int .i64 u] 35) (Ds : List Nat) (hn : Ds.Nodup) (hD : ∀ D ∈ Ds, W.heap[D]? = some (Obj.deferred (some [])))
    (ht0 : tmps.getD 4 undef = .pointer (some ⟨R0, 0, none⟩)) (ht1 : tmps.getD 5 undef = .pointer (some ⟨R1, 0, none⟩)) (hpost : ∀ W', Trn Ds W W' → R (.returned (.tuple #[.bool v, .int .i64 u])) W') : LeavesInM Fence.wide 10 Tryd.prog Tryd.f20 tmps R (dfs Ds) .returning W :=
  leaves_all Ds W hn hD fun W' ht => ⟨_, results_cell2 rfl tmps W' R0 R1 _ _ ht0 ht1 (load_bool ((ht.block R0 fun q => by have := hD R0 q; rw [h0] at this; cases this).trans h0)) (load_errno ((ht.block R1 fun q => by have := hD R1 q; rw [h1] at this; cases this).trans h1)), hpost W' ht⟩
set_option maxHeartbeats 4000000 in
set_option maxRecDepth 100000 in
theorem inherited_any {w : World} {O : Nat → Prop} {g : Nat} {r : GrA} {es : List Et} {ls : List Lk} (h : GrAt w O g r es ls) (n : Int) :
    Calls Tryd.prog 20 #[.pointer (some ⟨g, 0, none⟩), .int .i64 n] w fun e w' => e = .returned (.tuple #[.bool (inhO ls es.length n), .int .i64 (ckE es.length [n])]) ∧ Below w.heap.size w w' := by
  have hb0 := bl_alloc (bl_alloc (bl_alloc (Below.refl _ w) (.cells #[.pointer (some ⟨g, 0, none⟩)] 23)) (.cells #[.bool false] 4)) (.cells #[.int .i64 0] 35)
  have hX0 := ((Blk.new w #[.pointer (some ⟨g, 0, none⟩)] 23).alloc (.cells #[.bool false] 4)).alloc (.cells #[.int .i64 0] 35)
  have hR0 := (Blk.new2 w (.cells #[.pointer (some ⟨g, 0, none⟩)] 23) #[.bool false] 4).alloc (.cells #[.int .i64 0] 35)
  have hE0 : Blk (((w.alloc (.cells #[.pointer (some ⟨g, 0, none⟩)] 23)).alloc (.cells #[.bool false] 4)).alloc (.cells #[.int .i64 0] 35)) (w.heap.size + 2) #[.int .i64 0] 35 := by
    have := Blk.new2 (w.alloc (.cells #[.pointer (some ⟨g, 0, none⟩)] 23)) (.cells #[.bool false] 4) #[.int .i64 0] 35
    simpa using this
  have hz0 : (((w.alloc (.cells #[.pointer (some ⟨g, 0, none⟩)] 23)).alloc (.cells #[.bool false] 4)).alloc (.cells #[.int .i64 0] 35)).heap.size = w.heap.size + 3 := by simp
  obtain ⟨w3, hw3⟩ : ∃ y, y = (((w.alloc (.cells #[.pointer (some ⟨g, 0, none⟩)] 23)).alloc (.cells #[.bool false] 4)).alloc (.cells #[.int .i64 0] 35)) := ⟨_, rfl⟩
  rw [← hw3] at hb0 hX0 hR0 hE0 hz0
  have hbs := bl_alloc (Below.refl _ w3) (.cells #[.int .i64 n] 3)
  have HC := Lib.hid (check_yes (h.bl (hb0.trans (hbs.mono hb0.size))) (some ⟨w3.heap.size, 0, none⟩) 1 1 [n] rfl (by omega) (rd_of_blkQ (t := 3) (Blk.new w3 _ _)))
  have hX1 := hX0.alloc (.cells #[.int .i64 n] 3)
  have hR1 := hR0.alloc (.cells #[.int .i64 n] 3)
  have hE1 := hE0.alloc (.cells #[.int .i64 n] 3)
  have hB1 := hb0.trans (hbs.mono hb0.size)
  have hz1 : (w3.alloc (.cells #[.int .i64 n] 3)).heap.size = w.heap.size + 4 := by simp [hz0]
  rw [hz0] at HC
  obtain ⟨w4, hw4⟩ : ∃ y, y = w3.alloc (.cells #[.int .i64 n] 3) := ⟨_, rfl⟩
  rw [← hw4] at HC hX1 hR1 hE1 hB1 hz1
  have HX1 := Lib.hid hX1
  have HR1 := Lib.hid hR1
  have HE1 := Lib.hid hE1
  have HB1 := Lib.hid hB1
  have HZ1 := Lib.hid hz1
  have HG := Lib.hid h
  have c0 : w3.cell? ⟨w.heap.size, 0, none⟩ = some (.pointer (some ⟨g, 0, none⟩)) := hX0.cell 0
  have hnE := h.nE
  clear h hb0 hX0 hR0 hE0 hbs hX1 hR1 hE1 hB1 hz1
  have hck := ckE_one es.length n
  refine (callsIn_wide (n := 10)).1 ?_
  refine callsIn_of_wp_marks Tryd.func20 rfl trivial ?_ rfl
  simp only [Tryd.ntmps20, List.size_toArray, List.length_cons, List.length_nil, Nat.reduceAdd, Nat.reduceSub, Array.replicate_succ, Array.replicate_zero, List.push_toArray, List.append_toArray, List.nil_append, List.cons_append]
  refine wpIn_wide.2 ?_
  obtain ⟨H, hH⟩ : ∃ H, H = w.heap.size := ⟨_, rfl⟩
  have HHH := Lib.hid hH
  rw [hw3] at c0 hw4
  cases hx : hasB n es.length with
  | false =>
    have hS : Hid (inhO ls es.length n = false) := by show _ = _; unfold inhO; rw [hx]; rfl
    rw [hx] at hck
    have hck : ckE es.length [n] = 3 := hck
    rw [hck] at HC ⊢
    rw [hS.out]
    clear hck hx hw3 hz0 hH
    go_wp2_with fail
    rw [← hw4]
    refine HC.out.mono ?_
    rintro e w5 ⟨rfl, hw⟩
    subst w5
    rw [← HHH.out] at HX1 HR1 HE1 HZ1 ⊢
    have d0 : w4.cell? ⟨H + 1, 0, none⟩ = some (.bool false) := HR1.out.cell 0
    have f0 : w4.frozen? ⟨H + 1, 0, none⟩ = false := HR1.out.free 0
    have hR2 : Blk (w4.setCell ⟨H + 1, 0, none⟩ (.bool false)) (H + 1) #[.bool false] 4 := by have := HR1.out.set 0 (.bool false); simpa using this
    have hE2 := HE1.out.other (show H + 2 ≠ H + 1 by omega) 0 (.bool false)
    have d1 : (w4.setCell ⟨H + 1, 0, none⟩ (.bool false)).cell? ⟨H + 2, 0, none⟩ = some (.int .i64 0) := hE2.cell 0
    have f1 : (w4.setCell ⟨H + 1, 0, none⟩ (.bool false)).frozen? ⟨H + 2, 0, none⟩ = false := hE2.free 0
    have HR2 := Lib.hid hR2
    have HE2 := Lib.hid hE2
    clear hR2 hE2 hw4
    go_wp2_with fail
    refine inh_ret (R0 := H + 1) (R1 := H + 2) (HR2.out.other (by omega) 0 (.int .i64 3)) (by have := HE2.out.set 0 (.int .i64 3); simpa using this) [] List.nodup_nil (fun D h => by cases h) rfl rfl fun W' ht => ⟨rfl, ht.below ((HB1.out.setCell (p := ⟨H + 1, 0, none⟩) (by show w.heap.size ≤ H + 1; rw [HHH.out]; omega) _).setCell (p := ⟨H + 2, 0, none⟩) (by show w.heap.size ≤ H + 2; rw [HHH.out]; omega) _) (fun D h => by cases h)⟩
  | true =>
    obtain ⟨p, rfl, hp⟩ := has_nat hx
    have hS : Hid (inhO ls es.length (p : Int) = inhB ls es.length p) := by show _ = _; unfold inhO; rw [hx]; rfl
    rw [hx] at hck
    have hck : ckE es.length [(p : Int)] = 0 := hck
    rw [hck] at HC ⊢
    rw [hS.out]
    clear hck hx hw3 hz0 hH
    go_wp2_with fail
    rw [← hw4]
    refine HC.out.mono ?_
    rintro e w5 ⟨rfl, hw⟩
    subst w5
    rw [← HHH.out] at HX1 HR1 HE1 HZ1 ⊢
    have d0 : w4.cell? ⟨H, 0, none⟩ = some (.pointer (some ⟨g, 0, none⟩)) := HX1.out.cell 0
    clear hw4 HC
    go_wp2_with fail
    refine (above_any g p _).mono ?_
    rintro e w6 ⟨rfl, hw6⟩
    have h46 : Below w4.heap.size w4 w6 := by rw [hw6]; exact bl_alloc (bl_alloc (Below.refl _ _) _) _
    have hgb : Blk w6 w4.heap.size #[.pointer (some ⟨g, 0, none⟩)] 23 := by rw [hw6]; exact (Blk.new w4 #[.pointer (some ⟨g, 0, none⟩)] 23).alloc _
    have hnb : Blk w6 (w4.heap.size + 1) #[.int .i64 p] 3 := by rw [hw6]; exact Blk.new2 _ _ _ _
    have hz6 : w6.heap.size = H + 6 := by rw [hw6]; simp [HZ1.out]
    have hb6 := HB1.out.trans (h46.mono HB1.out.size)
    have HX6 := Lib.hid (HX1.out.below h46)
    have HR6 := Lib.hid (HR1.out.below h46)
    have HE6 := Lib.hid (HE1.out.below h46)
    have HG6 := Lib.hid (HG.out.bl hb6)
    have HGV := Lib.hid (above_gives (m := 9) (by omega) HG6.out hgb hnb hp)
    rw [HZ1.out] at hgb hnb HGV ⊢
    have HB6 := Lib.hid hb6
    have HZ6 := Lib.hid hz6
    clear hw6 h46 hgb hnb hz6 hb6 c0 d0 HX1 HR1 HE1 HB1 HZ1
    have hN6 := ab_len HG6.out.inr hp
    go_wp2_with fail
    refine (wpIn_wide (n := 10)).1 ?_
    refine wpIn_range_Q (b := ?frm) rfl (by omega) rfl trivial (enters_of Tryd.func50 (by kernel_rfl) rfl) HGV.out rfl
      (fun k O' W => (∀ B, ¬ O' B) ∧ (∀ j a, j < k → (abL ls es.length p)[j]? = some a → okB ls a = true) ∧ Below w6.heap.size w6 W)
      (fun c k W => c = .ret ∧ inhB ls es.length p = false ∧ Blk W (H + 1) #[.bool false] 4 ∧ Blk W (H + 2) #[.int .i64 0] 35 ∧ Below w.heap.size w W)
      ?hI (fun k O' W h B hB => absurd hB (h.1 B)) ?hIx (fun _ => False) (fun B hB => hB.elim) ⟨fun B hB => hB, fun j a hj => absurd hj (Nat.not_lt_zero _), Below.refl _ _⟩ ?assign ?body ?done ?stop
    case assign =>
      intro l x W K hK
      gi_wp2
      exact hK
    case hI =>
      rintro k O' W1 W2 ⟨k1, k2, k3⟩ hk
      exact ⟨k1, k2, Keeps.bl k3 hk fun y hy => hy.1⟩
    case hIx =>
      rintro c k W1 W2 ⟨k1, k2, k3, k4, k5⟩ hk hc
      exact ⟨k1, k2, hc _ _ _ _ k3, hc _ _ _ _ k4, Keeps.bl k5 hk fun y hy => by have := hy.1; have := HZ6.out; have := HHH.out; omega⟩
    case stop =>
      rintro D c k W hD hk ⟨rfl, k2, k3, k4, k5⟩ hDD
      refine wpIn_wide.2 ?_
      have HK2 := Lib.hid k2
      have HK3 := Lib.hid k3
      have HK4 := Lib.hid k4
      clear k3 k4 k2
      go_wp2_with fail
      refine inh_ret (R0 := H + 1) (R1 := H + 2) HK3.out HK4.out [D] (by simp) (fun D' h => by rw [List.mem_singleton] at h; subst h; exact hDD) rfl rfl fun W' ht => ⟨by rw [HK2.out], ht.below k5 (fun D' h => by rw [List.mem_singleton] at h; subst h; have := HZ6.out; have := HHH.out; omega)⟩
    case done =>
      rintro D O' W hD ⟨_, k2, k3⟩ hDD
      have hB : Hid (inhB ls es.length p = true) := by
        show _ = _
        unfold inhB
        rw [List.all_eq_true]
        intro a ha
        obtain ⟨j, hj, e⟩ := List.getElem_of_mem ha
        exact k2 j a (by unfold yI; rw [List.length_map]; exact hj) (by rw [List.getElem?_eq_getElem hj, e])
      have HK3 := Lib.hid k3
      have HDD := Lib.hid hDD
      have hRW := HR6.out.below k3
      have hEW := HE6.out.below k3
      clear k2 k3 hDD
      simp only [Exit.inBlock, Exit.then]
      have d0 : W.cell? ⟨H + 1, 0, none⟩ = some (.bool false) := hRW.cell 0
      have f0 : W.frozen? ⟨H + 1, 0, none⟩ = false := hRW.free 0
      have hR2 : Blk (W.setCell ⟨H + 1, 0, none⟩ (.bool true)) (H + 1) #[.bool true] 4 := by have := hRW.set 0 (.bool true); simpa using this
      have hE2 := hEW.other (show H + 2 ≠ H + 1 by omega) 0 (.bool true)
      have d1 : (W.setCell ⟨H + 1, 0, none⟩ (.bool true)).cell? ⟨H + 2, 0, none⟩ = some (.int .i64 0) := hE2.cell 0
      have f1 : (W.setCell ⟨H + 1, 0, none⟩ (.bool true)).frozen? ⟨H + 2, 0, none⟩ = false := hE2.free 0
      have HR2 := Lib.hid hR2
      have HE2 := Lib.hid hE2
      have hDs : D ≠ H + 1 ∧ D ≠ H + 2 := by have := HZ6.out; omega
      clear hR2 hE2 hRW hEW
      go_wp2_with fail
      refine inh_ret (R0 := H + 1) (R1 := H + 2) (HR2.out.other (by omega) 0 (.int .i64 0)) (by have := HE2.out.set 0 (.int .i64 0); simpa using this) [D] (by simp) (fun D' h => by rw [List.mem_singleton] at h; subst h; exact (Below.heap_setCell _ ⟨H + 2, 0, none⟩ _ _ hDs.2).trans ((Below.heap_setCell _ ⟨H + 1, 0, none⟩ _ _ hDs.1).trans HDD.out)) rfl rfl fun W' ht => ⟨by rw [hB.out], ht.below (((HB6.out.trans (HK3.out.mono HB6.out.size)).setCell (p := ⟨H + 1, 0, none⟩) (by show w.heap.size ≤ H + 1; rw [HHH.out]; omega) _).setCell (p := ⟨H + 2, 0, none⟩) (by show w.heap.size ≤ H + 2; rw [HHH.out]; omega) _) (fun D' h => by rw [List.mem_singleton] at h; subst h; have := HZ6.out; have := HHH.out; omega)⟩
    case body =>
      rintro l k O' x W ⟨k1, k2, k3⟩ hx _
      obtain ⟨a, ha, rfl⟩ : ∃ a : Nat, (abL ls es.length p)[k]? = some a ∧ x = .int .i64 (a : Int) := by
        unfold yI at hx
        rw [List.getElem?_map] at hx
        cases hq : (abL ls es.length p)[k]? with
        | none => rw [hq] at hx; cases hx
        | some a => rw [hq] at hx; exact ⟨a, rfl, (Option.some.inj hx).symm⟩
      have ham : a ∈ abL ls es.length p := List.mem_of_getElem? ha
      have haN : a < es.length := ab_lt HG.out.inr hp a ham
      have hGW := HG6.out.bl k3
      have d0 : W.cell? ⟨H, 0, none⟩ = some (.pointer (some ⟨g, 0, none⟩)) := (HX6.out.below k3).cell 0
      have b0 : W.cell? ⟨H + 1, 0, none⟩ = some (.bool false) := (HR6.out.below k3).cell 0
      have bf0 : W.frozen? ⟨H + 1, 0, none⟩ = false := (HR6.out.below k3).free 0
      have hbb0 : Blk (W.setCell ⟨H + 1, 0, none⟩ (.bool false)) (H + 1) #[.bool false] 4 := by have := (HR6.out.below k3).set 0 (.bool false); simpa using this
      have hee0 := (HE6.out.below k3).other (show H + 2 ≠ H + 1 by omega) 0 (.bool false)
      have b1 : (W.setCell ⟨H + 1, 0, none⟩ (.bool false)).cell? ⟨H + 2, 0, none⟩ = some (.int .i64 0) := hee0.cell 0
      have bf1 : (W.setCell ⟨H + 1, 0, none⟩ (.bool false)).frozen? ⟨H + 2, 0, none⟩ = false := hee0.free 0
      have HBB0 := Lib.hid hbb0
      have HEE0 := Lib.hid hee0
      obtain ⟨ba, hba⟩ := own_off hGW.list (by omega)
      have hcA := own_capQ hGW.list
      have d1 : W.cell? ⟨g, 0, none⟩ = some (.slice (some ⟨ba, 0, none⟩) es.length r.c) := by rw [← hba]; exact hGW.blk.cell 0
      have d3 : W.cell? ⟨g, 1, none⟩ = some (.slice r.B ls.length r.d) := hGW.blk.cell 1
      have hcB := own_capQ hGW.lks
      obtain ⟨fa, fc, hfr, hcf⟩ := hGW.ab_frs (gb := 0) (nb := 0) haN
      have d2 : W.cell? ⟨ba, a * 4 + 2, none⟩ = some (.slice fa (frK ls a).length fc) := by
        obtain ⟨b', o', e', _, hc⟩ := rdEn (rd_of_owns hGW.list) (by rw [hGW.len]; omega)
        rw [hba] at e'
        cases e'
        have h4 := (hc a (by rw [hGW.len]; omega)).2.2.1
        rw [Nat.zero_add, hfr] at h4
        exact h4
      have HCK : Hid (0 < ls.length → ∃ bb, r.B = some ⟨bb, 0, none⟩ ∧ ∀ k, k < ls.length → W.cell? ⟨bb, k * 3, none⟩ = some (.int .i64 (lK ls k))) := fun h1 => by
        obtain ⟨bb, hbb⟩ := own_off hGW.lks h1
        obtain ⟨_, _, e, _, hck⟩ := rdLk (rd_of_owns hGW.lks) h1
        rw [hbb] at e
        cases e
        refine ⟨bb, hbb, fun k hk => ?_⟩
        have := (hck k hk).1
        rw [Nat.zero_add] at this
        exact this
      have HCF : Hid (0 < (frK ls a).length → ∃ fb, fa = some ⟨fb, 0, none⟩ ∧ ∀ j, j < (frK ls a).length → W.cell? ⟨fb, j, none⟩ = some (.int .i64 (frAt ls a j : Nat))) := fun h0 => by
        obtain ⟨fb, e, h⟩ := hcf h0
        exact ⟨fb, e, h W (fun B _ => rfl)⟩
      have hfl : (frK ls a).length ≤ ls.length := by
        have h := List.length_filter_le (fun k => decide (lT ls k = (a : Int))) (List.range ls.length)
        rw [List.length_range] at h; exact h
      have hnL := hGW.nL
      have HFA : Hid (∀ j, j < (frK ls a).length → frAt ls a j < ls.length) := fun j hj => frAt_lt hj
      have HOK1 : Hid ((∀ j, j < (frK ls a).length → lK ls (frAt ls a j) ≠ 2) → okB ls a = true) := fun h => by
        unfold okB
        rw [List.all_eq_true]
        intro y hy
        obtain ⟨j, hj, e⟩ := List.getElem_of_mem hy
        have h2 := h j hj
        unfold frAt at h2
        rw [List.getD_eq_getElem?_getD, List.getElem?_eq_getElem hj, e] at h2
        simpa using h2
      have HOK2 : Hid (∀ j, j < (frK ls a).length → lK ls (frAt ls a j) = 2 → inhB ls es.length p = false) := fun j hj h => by
        have hm : frAt ls a j ∈ frK ls a := by
          unfold frAt
          rw [List.getD_eq_getElem?_getD, List.getElem?_eq_getElem hj]
          exact List.getElem_mem hj
        rw [← Bool.not_eq_true]
        intro h3
        have h4 := (List.all_eq_true.1 h3) a ham
        have h5 := (List.all_eq_true.1 h4) _ hm
        simp [h] at h5
      have K2 := Lib.hid k2
      have K3 := Lib.hid k3
      have HA := Lib.hid ha
      obtain ⟨fn, hfn⟩ : ∃ y, y = (frK ls a).length := ⟨_, rfl⟩
      obtain ⟨L, hL⟩ : ∃ y, y = ls.length := ⟨_, rfl⟩
      rw [← hfn] at d2 HCF hfl HFA HOK1 HOK2
      rw [← hL] at d3 hcB HCK hfl hnL HFA
      clear k2 k3 ha hx hGW hba hfr hcf hbb0 hee0 hfn hL ham
      gi_wp2
      gi_loopw [30] (fun y wr => ∃ j : Nat, j ≤ fn ∧ y = .int .i64 j ∧ Hid (∀ i, i < j → lK ls (frAt ls a i) ≠ 2) ∧ wr = W) (fun y _ => fn - (intOf y).toNat)
      case atStart => exact ⟨0, by omega, rfl, (fun i h => absurd h (Nat.not_lt_zero _) : ∀ i, i < 0 → lK ls (frAt ls a i) ≠ 2), rfl⟩
      case round =>
        obtain ⟨j, hj, rfl, hK, hw⟩ := hrel
        subst wr
        by_cases hlt : j < fn
        · obtain ⟨fb, rfl, hcj⟩ := HCF.out (by omega)
          have c1 := hcj j hlt
          have hiL := HFA.out j hlt
          obtain ⟨bb, hbb, hck⟩ := HCK.out (by omega)
          have c2 := hck (frAt ls a j) hiL
          rw [hbb] at d3
          have hw1 : IntKind.i64.wrap ((j : Int) + 1) = ((j + 1 : Nat) : Int) := wrap_nat _ _ (by omega) (by omega)
          have HO2 := Lib.hid (HOK2.out j hlt)
          have HNX : Hid (lK ls (frAt ls a j) ≠ 2 → ∀ i, i < j + 1 → lK ls (frAt ls a i) ≠ 2) := fun h i hi => by
            by_cases e : i = j
            · subst e; exact h
            · exact hK.out i (by omega)
          clear hcj hck hbb
          obtain ⟨i, hi⟩ : ∃ i, i = frAt ls a j := ⟨_, rfl⟩
          rw [← hi] at c1 c2 hiL HO2 HNX
          obtain ⟨z, hz⟩ : ∃ z, z = lK ls i := ⟨_, rfl⟩
          rw [← hz] at c2 HO2 HNX
          clear hi hz
          by_cases h2 : z = 2
          · have HZ := Lib.hid (HO2.out h2)
            subst h2
            gi_wp2
            refine ⟨(KeepsOthers.setCell _ _ _).trans (KeepsOthers.setCell _ _ _), rfl, HZ.out, HBB0.out.other (by omega) 0 (.int .i64 0), by have := HEE0.out.set 0 (.int .i64 0); simpa using this, ?_⟩
            exact ((HB6.out.trans (K3.out.mono HB6.out.size)).setCell (p := ⟨H + 1, 0, none⟩) (by show w.heap.size ≤ H + 1; rw [HHH.out]; omega) _).setCell (p := ⟨H + 2, 0, none⟩) (by show w.heap.size ≤ H + 2; rw [HHH.out]; omega) _
          · have t1 : (z == 2) = false := by simp [h2]
            have t2 : decide (z = 2) = false := by simp [h2]
            have HNX2 := Lib.hid (HNX.out h2)
            clear h2 HNX HO2
            gi_wp2
            go_roundw
            case rel => exact ⟨j + 1, by omega, by go_num, HNX2, trivial⟩
            case measure => simp [intOf]; omega
        · obtain rfl : j = fn := by omega
          have HOK := Lib.hid (HOK1.out hK.out)
          clear hK HOK1 HOK2 HCF HCK HFA
          gi_wp2
          refine ⟨KeepsOthers.refl _, O', ⟨k1, fun j b hj hb => ?_, K3.out⟩, ⟨fun B hB => .inl hB, fun B hB => absurd hB (k1 B), Nat.le_refl _, fun B cs t fr _ hB => hB⟩⟩
          by_cases ej : j = k
          · subst ej
            rw [HA.out] at hb
            cases hb
            exact HOK.out
          · exact K2.out j b (by omega) hb
set_option maxHeartbeats 1000000 in
set_option maxRecDepth 100000 in
theorem inherited_no {w : World} {v : Value} (h : GrNo w v) (n : Int) :
    Calls Tryd.prog 20 #[v, .int .i64 n] w fun e w' => e = .returned (.tuple #[.bool false, .int .i64 1]) ∧ Below w.heap.size w w' := by
  obtain ⟨o, rfl⟩ : ∃ o, v = .pointer o := by
    rcases h with rfl | ⟨g, rfl, _⟩
    · exact ⟨_, rfl⟩
    · exact ⟨_, rfl⟩
  have hb0 := bl_alloc (bl_alloc (bl_alloc (Below.refl _ w) (.cells #[.pointer o] 23)) (.cells #[.bool false] 4)) (.cells #[.int .i64 0] 35)
  have hX0 := ((Blk.new w #[.pointer o] 23).alloc (.cells #[.bool false] 4)).alloc (.cells #[.int .i64 0] 35)
  have hR0 := (Blk.new2 w (.cells #[.pointer o] 23) #[.bool false] 4).alloc (.cells #[.int .i64 0] 35)
  have hE0 : Blk (((w.alloc (.cells #[.pointer o] 23)).alloc (.cells #[.bool false] 4)).alloc (.cells #[.int .i64 0] 35)) (w.heap.size + 2) #[.int .i64 0] 35 := by
    have := Blk.new2 (w.alloc (.cells #[.pointer o] 23)) (.cells #[.bool false] 4) #[.int .i64 0] 35
    simpa using this
  have c0 := hX0.cell 0
  have hbs := bl_alloc hb0 (.cells #[.int .i64 n] 3)
  have HC := Lib.hid (check_no (h.bl hbs) (.slice (some ⟨w.heap.size + 3, 0, none⟩) 1 1))
  have HR1 := Lib.hid (hR0.alloc (.cells #[.int .i64 n] 3))
  have HE1 := Lib.hid (hE0.alloc (.cells #[.int .i64 n] 3))
  have HB1 := Lib.hid hbs
  clear h hb0 hX0 hR0 hE0 hbs
  refine (callsIn_wide (n := 10)).1 ?_
  refine callsIn_of_wp_marks Tryd.func20 rfl trivial ?_ rfl
  simp only [Tryd.ntmps20, List.size_toArray, List.length_cons, List.length_nil, Nat.reduceAdd, Nat.reduceSub, Array.replicate_succ, Array.replicate_zero, List.push_toArray, List.append_toArray, List.nil_append, List.cons_append]
  refine wpIn_wide.2 ?_
  go_wp2_with fail
  refine HC.out.mono ?_
  rintro e w5 ⟨rfl, hw⟩
  obtain ⟨w4, hw4⟩ : ∃ y, y = (((w.alloc (.cells #[.pointer o] 23)).alloc (.cells #[.bool false] 4)).alloc (.cells #[.int .i64 0] 35)).alloc (.cells #[.int .i64 n] 3) := ⟨_, rfl⟩
  rw [← hw4] at HC HR1 HE1 HB1 hw
  subst w5
  clear HC hw4
  obtain ⟨H, hH⟩ : ∃ H, H = w.heap.size := ⟨_, rfl⟩
  have HHH := Lib.hid hH
  clear hH
  rw [← HHH.out] at HR1 HE1 ⊢
  have d0 : w4.cell? ⟨H + 1, 0, none⟩ = some (.bool false) := HR1.out.cell 0
  have f0 : w4.frozen? ⟨H + 1, 0, none⟩ = false := HR1.out.free 0
  have hR2 : Blk (w4.setCell ⟨H + 1, 0, none⟩ (.bool false)) (H + 1) #[.bool false] 4 := by have := HR1.out.set 0 (.bool false); simpa using this
  have hE2 := HE1.out.other (show H + 2 ≠ H + 1 by omega) 0 (.bool false)
  have d1 : (w4.setCell ⟨H + 1, 0, none⟩ (.bool false)).cell? ⟨H + 2, 0, none⟩ = some (.int .i64 0) := hE2.cell 0
  have f1 : (w4.setCell ⟨H + 1, 0, none⟩ (.bool false)).frozen? ⟨H + 2, 0, none⟩ = false := hE2.free 0
  have HR2 := Lib.hid hR2
  have HE2 := Lib.hid hE2
  clear hR2 hE2
  go_wp2_with fail
  refine inh_ret (R0 := H + 1) (R1 := H + 2) (HR2.out.other (by omega) 0 (.int .i64 1)) (by have := HE2.out.set 0 (.int .i64 1); simpa using this) [] List.nodup_nil (fun D h => by cases h) rfl rfl fun W' ht => ⟨rfl, ht.below ((HB1.out.setCell (p := ⟨H + 1, 0, none⟩) (by show w.heap.size ≤ H + 1; rw [HHH.out]; omega) _).setCell (p := ⟨H + 2, 0, none⟩) (by show w.heap.size ≤ H + 2; rw [HHH.out]; omega) _) (fun D h => by cases h)⟩
end Go.Proofs.YtmfomjaomhohkaaDoor
namespace Go.Proofs.YtmfomjaomhohkaaDoor
open Go.RowKit
/-- copy between slices whose elements have k cells. -/
theorem run_copy_rowk {P : Program} (w : World) (dT sT ty elem : TypeId) (g o dLen dCap : Nat) (a : Addr) (sLen sCap k : Nat) (cur : Array Value) (t : TypeId) (cs : List Value)
    (hu : P.underlying dT = some (.slice elem)) (hs : (P.info? elem).map (·.size) = some k)
    (hg : w.heap[g]? = some (.cells cur t (0, 0))) (hn : cs.length = Nat.min sLen dLen * k)
    (hsrc : ∀ j v, cs[j]? = some v → w.cell? (a.add j) = some v) (hfit : o + cs.length ≤ cur.size) (h1 : ∀ v ∈ cs, v.oneCell' = true) :
    (Builtin.copy_ #[dT, sT] ty #[.slice (some ⟨g, o, none⟩) dLen dCap, .slice (some a) sLen sCap]).run P w =
      .ok (goInt (Nat.min sLen dLen)) (w.setRow g (cur.toList.take o ++ cs ++ cur.toList.drop (o + cs.length)).toArray) := by
  have hl := run_loadCells_list (P := P) w a cs hsrc
  have hst := run_storeCells_at P g o t cs 0 cur w hg (by simpa using hfit) h1
  cases hq : P.info? elem with
  | none => simp [hq] at hs
  | some i =>
    have hi : i.size = k := by simpa [hq] using hs
    rw [hn] at hl
    simp [Builtin.copy_, run_underlying hu, Builtin.lenOf, Builtin.firstCells, sizeOf, typeInfo, hq, hi, hl, hst]
/-- k elements x, then z's. -/
def rpL {α : Type} (x z : α) (k M : Nat) : List α := List.replicate k x ++ List.replicate (M - k) z
theorem rpL_len {α : Type} (x z : α) {k M : Nat} (h : k ≤ M) : (rpL x z k M).length = M := by simp [rpL]; omega
theorem rpL_zero {α : Type} (x z : α) (M : Nat) : rpL x z 0 M = List.replicate M z := by simp [rpL]
theorem rpL_all {α : Type} (x z : α) (M : Nat) : rpL x z M M = List.replicate M x := by simp [rpL]
section
variable {α : Type} {enc : α → List Value} {c : Nat}
theorem rpL_copy (hk : ∀ x, (enc x).length = c) (x z : α) {k n M : Nat} (h : k + n ≤ M) : (fl enc (rpL x z k M)).take (k * c) ++ fl enc (List.replicate n x) ++ (fl enc (rpL x z k M)).drop (k * c + (fl enc (List.replicate n x)).length) = fl enc (rpL x z (k + n) M) := by
  have l1 : (fl enc (List.replicate k x)).length = k * c := by rw [fl_length hk]; simp
  have l2 : (fl enc (List.replicate n x)).length = n * c := by rw [fl_length hk]; simp
  have l3 : (fl enc (List.replicate n z)).length = n * c := by rw [fl_length hk]; simp
  have e : List.replicate (M - k) z = List.replicate n z ++ List.replicate (M - (k + n)) z := by rw [List.replicate_append_replicate]; congr 1; omega
  have e2 : List.replicate (k + n) x = List.replicate k x ++ List.replicate n x := by rw [List.replicate_append_replicate]
  rw [l2, rpL, rpL, fl_append, fl_append, e, fl_append, e2, fl_append]
  rw [List.take_left' l1, List.drop_append, List.drop_eq_nil_of_le (by omega), l1, List.nil_append, show k * c + n * c - k * c = n * c by omega, List.drop_left' l3]
theorem rpL_cell (hk : ∀ x, (enc x).length = c) (x z : α) {k M : Nat} (_ : k ≤ M) (j : Nat) (hj : j < k * c) : (fl enc (rpL x z k M))[j]? = (fl enc (List.replicate k x))[j]? := by
  have l1 : (fl enc (List.replicate k x)).length = k * c := by rw [fl_length hk]; simp
  rw [rpL, fl_append, List.getElem?_append_left (by omega)]
theorem rep_pre (_ : ∀ x, (enc x).length = c) (x : α) {n k : Nat} (h : n ≤ k) (j : Nat) (v : Value) (hv : (fl enc (List.replicate n x))[j]? = some v) : (fl enc (List.replicate k x))[j]? = some v := by
  have e : List.replicate k x = List.replicate n x ++ List.replicate (k - n) x := by rw [List.replicate_append_replicate]; congr 1; omega
  have hj : j < (fl enc (List.replicate n x)).length := (List.getElem?_eq_some_iff.1 hv).1
  rw [e, fl_append, List.getElem?_append_left hj, hv]
theorem owns_full {w : World} {g n t : Nat} {L : List α} (hk : ∀ x, (enc x).length = c) (hb : Blk w g (fl enc L).toArray t) (hL : L.length = n) (hn : n ≤ maxLen) {base : Nat} (hbase : base ≤ g) : w.ownsRow base t c (.slice (some ⟨g, 0, none⟩) n n) n (fl enc L) :=
  ⟨by rw [fl_length hk, hL], .inr ⟨g, n, _, rfl, hbase, hb, Nat.le_refl _, hn, by simp [fl_length hk, hL], by rw [← hL, ← fl_length hk, List.toList_toArray]; exact List.take_length⟩⟩
theorem blk_setRow {w : World} {g : Nat} {cs cs' : Array Value} {t : TypeId} (h : Blk w g cs t) : Blk (w.setRow g cs') g cs' t := setRow_heap w g _ _ t _ h
end
theorem step_copyk {P : Program} {ops : Array Oper} {o : Oper} {a : Act} {w : World} {K : Act → World → Prop} {Q : Exit → Act → World → Prop} {E : Prop} (hgd : o.guard = none) (d s : Operand) (dT sT : TypeId)
    (ho : o.op = .call { callee := .builtin .copy, args := #[d, s], argTypes := #[dT, sT] }) {dv sv r : Value} {w' : World} (hd : a.eval d = dv) (hs : a.eval s = sv) (hrun : (Builtin.copy_ #[dT, sT] o.type #[dv, sv]).run P w = .ok r w')
    (h : K (a.put o.dst r) w') : if Region.wanted o (yielded ops a.tmps) = true then Oper.wp P o a w K Q else E := by
  have hw : Region.wanted o (yielded ops a.tmps) = true := by simp [Region.wanted, hgd]
  rw [if_pos hw]
  unfold Oper.wp
  simp [execOp, ho, resolve, invoke, builtin, hd, hs, hrun, Result.andThen]
  exact h
theorem wpList_copyk {P : Program} {w : World} {ops : Array Oper} {rest : List Oper} {o : Oper} {a : Act} {Q : Exit → Act → World → Prop} (hgd : o.guard = none) (d s : Operand) (dT sT : TypeId)
    (ho : o.op = .call { callee := .builtin .copy, args := #[d, s], argTypes := #[dT, sT] }) {dv sv r : Value} {w' : World} (hd : a.eval d = dv) (hs : a.eval s = sv) (hrun : (Builtin.copy_ #[dT, sT] o.type #[dv, sv]).run P w = .ok r w')
    (h : wpList P ops Q rest (a.put o.dst r) w') : wpList P ops Q (o :: rest) a w := by
  refine wpList_plain hgd fun K hK => ?_
  unfold Oper.wp
  simp [execOp, ho, resolve, invoke, builtin, hd, hs, hrun, Result.andThen]
  exact hK _ _ h
theorem setRow_below {B g : Nat} {w0 w : World} (hb : Below B w0 w) (hBg : B ≤ g) (cs : Array Value) : Below B w0 (w.setRow g cs) :=
  hb.trans ⟨rfl, rfl, rfl, by simp [World.setRow], fun k hk => setRow_other w g k cs (by omega)⟩
theorem wrapU (n : Int) : IntKind.u64.wrap n = n % 18446744073709551616 := by simp [IntKind.wrap, IntKind.bits, IntKind.signed]
set_option maxRecDepth 100000 in
set_option maxHeartbeats 2000000 in
/-- math/bits.Mul64 of one and a number. -/
theorem mul64_one (c : Nat) (w : World) (hc : c < 4294967296) : Calls Tryd.prog 60 #[.int .u64 1, .int .u64 c] w fun e w' => e = .returned (.tuple #[.int .u64 0, .int .u64 c]) ∧ w' = w := by
  have b1 : bits .and .u64 1 4294967295 = 1 := (and_low32 1 (by omega) (by omega)).trans (by decide)
  have b2 : bits .and .u64 (c : Int) 4294967295 = (c : Int) := (and_low32 c (by omega) (by omega)).trans (by omega)
  have b3 : bits .and .u64 0 4294967295 = 0 := (and_low32 0 (by omega) (by omega)).trans (by decide)
  have b4 : (c : Int) / 4294967296 = 0 := by omega
  have b5 : IntKind.u64.wrap (c : Int) = c := by rw [wrapU]; omega
  have b6 : IntKind.u64.wrap 0 = 0 := by rw [wrapU]; decide
  have b7 : (1 : Int) * (c : Int) = c := by omega
  go_enter Tryd.func60, Tryd.ntmps60
  go_wp2_with fail
  go_ret2
  exact ⟨rfl, rfl⟩
set_option maxRecDepth 100000 in
set_option maxHeartbeats 1000000 in
theorem mul_one' (c : Nat) (w : World) (hc : c < 4294967296) : Calls Tryd.prog 49 #[.int .u64 1, .int .u64 c] w fun e w' => e = .returned (.tuple #[.int .u64 0, .int .u64 c]) ∧ w' = w := by
  go_enter Tryd.func49, Tryd.ntmps49
  go_wp2_with (go_at_call 60; refine (mul64_one c _ hc).mono ?_; rintro e w1 ⟨rfl, rfl⟩)
  go_ret2
  exact ⟨rfl, rfl⟩
theorem encI_one4 : ∀ x : Int, ∀ u ∈ encI x, u.oneCell' = true := by
  intro x u hu
  simp [encI] at hu
  subst hu; rfl
set_option maxRecDepth 100000 in
set_option maxHeartbeats 4000000 in
/-- slices.Repeat of one element. -/
theorem repI_any (b o cap M : Nat) (x : Int) (w : World) (hM0 : 1 ≤ M) (hM : M ≤ 4096) (hx : Rd w (some ⟨b, o, none⟩) (fl encI [x])) :
    Calls Tryd.prog 38 #[.slice (some ⟨b, o, none⟩) 1 cap, .int .i64 M] w fun e w' => ∃ g, e = .returned (.slice (some ⟨g, 0, none⟩) M M) ∧ w.heap.size ≤ g ∧ w'.ownsRow w.heap.size 3 1 (.slice (some ⟨g, 0, none⟩) M M) M (fl encI (List.replicate M x)) ∧ Below w.heap.size w w' := by
  obtain ⟨i0, hi0, hz0, hz1, hz2⟩ := info_parts info_I
  have hmk := fun w => run_make (P := Tryd.prog) w 31 3 i0 _ Tryd.underlying31 hi0 hz0 .i64 .i64 (M : Int) (M : Int) (by omega) (by omega) (by rw [hz2]; omega) (by omega)
  simp only [hz1, Int.toNat_natCast] at hmk
  have hsz : (Tryd.prog.info? 3).map (·.size) = some 1 := by rw [hi0, Option.map_some, hz1]
  have q1 : decide ((M : Int) < 0) = false := by simp
  have q2 : IntKind.u64.wrap (M : Int) = M := by rw [wrapU]; omega
  have q3 : IntKind.i64.wrap (M : Int) = M := wrap_nat _ M rfl (by omega)
  have q4 : IntKind.u64.wrap 1 = 1 := by rw [wrapU]; decide
  have q5 : decide ((9223372036854775807 : Int) < (M : Int)) = false := by simp; omega
  have HX := Lib.hid hx
  have HI := Lib.hid (And.intro hi0 (And.intro hz0 (And.intro hz1 hz2)))
  have HSZ := Lib.hid hsz
  clear hx hi0 hz0 hz1 hz2 hsz
  go_enter Tryd.func38, Tryd.ntmps38
  go_upto_region 7 with (go_at_call 49; refine (mul_one' M _ (by omega)).mono ?_; rintro e w1 ⟨rfl, hw⟩; rw [hw]; clear hw w1)
  obtain ⟨w0, hw0⟩ : ∃ w0, w0 = w := ⟨_, rfl⟩
  have HB0 : Hid (Blk (w.alloc (.cells (madeCells ((encI (0 : Int)).toArray) (M * 1)) 3)) w.heap.size (fl encI (rpL x (0 : Int) 0 M)).toArray 3) := by
    have h1 := Blk.new w (madeCells ((encI (0 : Int)).toArray) (M * 1)) 3
    have h2 := made_cells encI 1 encI_len (by decide) (0 : Int) M
    rw [rpL_zero, ← h2, Array.toArray_toList]
    exact h1
  have HBL0 := Lib.hid (bl_alloc (Below.refl w.heap.size w) (.cells (madeCells ((encI (0 : Int)).toArray) (M * 1)) 3))
  obtain ⟨w1, hw1⟩ : ∃ w1, w1 = w.alloc (.cells (madeCells ((encI (0 : Int)).toArray) (M * 1)) 3) := ⟨_, rfl⟩
  obtain ⟨g, hg⟩ : ∃ g, g = w.heap.size := ⟨_, rfl⟩
  rw [← hw1] at HB0 HBL0
  have HX1 := Lib.hid (HX.out.bl HBL0.out)
  have hw1' : w.alloc (.cells (madeCells (#[Value.int .i64 0]) (M)) 3) = w1 := by rw [hw1, Nat.mul_one]; rfl
  rw [hw1']
  rw [← hg] at HB0 ⊢
  have HG := Lib.hid hg
  clear hw0 hw1 hw1' hg hmk
  have hmin : Nat.min 1 M = 1 := Nat.min_eq_left hM0
  have hrun : ∀ ty sc, (Builtin.copy_ #[31, 31] ty #[.slice (some ⟨g, 0, none⟩) M M, .slice (some ⟨b, o, none⟩) 1 sc]).run Tryd.prog w1 = .ok (goInt 1) (w1.setRow g (fl encI (rpL x (0 : Int) 1 M)).toArray) := fun ty sc => by
    have h1 := run_copy_rowk (P := Tryd.prog) w1 31 31 ty 3 g 0 M M ⟨b, o, none⟩ 1 sc 1 (fl encI (rpL x (0 : Int) 0 M)).toArray 3 (fl encI [x]) Tryd.underlying31 HSZ.out HB0.out (by rw [hmin, fl_length encI_len]; rfl) (fun j v hv => by
      obtain ⟨b', o', e, _, hc⟩ := HX1.out (by rw [fl_length encI_len]; simp)
      simp at e
      obtain ⟨rfl, rfl⟩ := e
      have hj := (List.getElem?_eq_some_iff.1 hv).1
      have h2 := hc j hj
      rw [List.getD_eq_getElem?_getD, hv] at h2
      by_cases ej : j = 0
      · subst ej; simpa [Addr.add] using h2
      · simpa [Addr.add, ej] using h2) (by simp [fl_length encI_len, rpL_len]; omega) (fun v hv => by
      obtain ⟨y, _, hy⟩ := List.mem_flatMap.1 hv
      exact encI_one4 y v hy)
    rw [hmin] at h1
    rw [h1]
    congr 2
    have h3 := rpL_copy (enc := encI) encI_len x (0 : Int) (k := 0) (n := 1) (M := M) (by omega)
    rw [Nat.zero_mul, Nat.zero_add] at h3
    simp only [List.replicate_one, Nat.zero_add] at h3 ⊢
    rw [h3]
  have HB1 : Hid (Blk (w1.setRow g (fl encI (rpL x (0 : Int) 1 M)).toArray) g (fl encI (rpL x (0 : Int) 1 M)).toArray 3) := blk_setRow HB0.out
  have HBL1 : Hid (Below w.heap.size w (w1.setRow g (fl encI (rpL x (0 : Int) 1 M)).toArray)) := setRow_below HBL0.out (by rw [HG.out]; exact Nat.le_refl _) _
  obtain ⟨w2, hw2⟩ : ∃ w2, w2 = w1.setRow g (fl encI (rpL x (0 : Int) 1 M)).toArray := ⟨_, rfl⟩
  rw [← hw2] at HB1 HBL1 hrun
  clear hw2 HB0 HBL0 HX1
  go_wp2_with (at_builtin; refine wpList_copyk rfl (.tmp 31) (.tmp 32) 31 31 rfl rfl rfl (hrun _ _) ?_)
  go_loopw [8] (fun s wr => ∃ k : Nat, 1 ≤ k ∧ k ≤ M ∧ s = .int .i64 k ∧ Blk wr g (fl encI (rpL x (0 : Int) k M)).toArray 3 ∧ Below w.heap.size w wr) (fun s _ => M - (intOf s).toNat)
  case atStart => exact ⟨1, by omega, by omega, rfl, HB1.out, HBL1.out⟩
  case round =>
    obtain ⟨k, hk1, hk, rfl, hblk, hbl⟩ := hrel
    clear hrun
    by_cases hlt : k < M
    · have HBK := Lib.hid hblk
      obtain ⟨m, hm⟩ : ∃ m, Nat.min k (M - k) = m := ⟨_, rfl⟩
      have hm1 : 1 ≤ m := by rw [← hm]; exact Nat.le_min.2 ⟨hk1, by omega⟩
      have hm2 : k + m ≤ M := by have h9 : m ≤ M - k := (by rw [← hm]; exact Nat.min_le_right _ _); omega
      have hm3 : m ≤ k := by rw [← hm]; exact Nat.min_le_left _ _
      have hrun2 : ∀ n2 ty, (Builtin.copy_ #[31, 31] ty #[.slice (some ⟨g, k * 1, none⟩) (M - k) (M - k), .slice (some ⟨g, 0, none⟩) k M]).run Tryd.prog (wr.drewN n2) = .ok (goInt m) ((wr.drewN n2).setRow g (fl encI (rpL x (0 : Int) (k + m) M)).toArray) := fun n2 ty => by
        have h1 := run_copy_rowk (P := Tryd.prog) (wr.drewN n2) 31 31 ty 3 g (k * 1) (M - k) (M - k) ⟨g, 0, none⟩ k M 1 (fl encI (rpL x (0 : Int) k M)).toArray 3 (fl encI (List.replicate m x)) Tryd.underlying31 HSZ.out (HBK.out.drewN n2) (by rw [hm, fl_length encI_len]; simp) (fun j v hv => by
          have hj := (List.getElem?_eq_some_iff.1 hv).1
          rw [fl_length encI_len] at hj
          simp only [List.length_replicate] at hj
          have h2 : (fl encI (rpL x (0 : Int) k M))[j]? = some v := by rw [rpL_cell encI_len x (0 : Int) hk j (by have := Nat.mul_le_mul_right 1 hm3; omega)]; exact rep_pre encI_len x hm3 j v hv
          have h4 : (wr.drewN n2).cell? ⟨g, j, none⟩ = some v := by rw [(HBK.out.drewN n2).cell j, ← Array.getElem?_toList, List.toList_toArray]; exact h2
          by_cases ej : j = 0
          · subst ej; simpa [Addr.add] using h4
          · simpa [Addr.add, ej] using h4) (by simp [fl_length encI_len, rpL_len _ _ hk]; omega) (fun v hv => by
          obtain ⟨y, _, hy⟩ := List.mem_flatMap.1 hv
          exact encI_one4 y v hy)
        rw [hm] at h1
        rw [h1]
        congr 2
        have h3 := rpL_copy (enc := encI) encI_len x (0 : Int) (k := k) (n := m) (M := M) hm2
        rw [List.toList_toArray, h3]
      have HB3 : Hid (∀ n2, Blk ((wr.drewN n2).setRow g (fl encI (rpL x (0 : Int) (k + m) M)).toArray) g (fl encI (rpL x (0 : Int) (k + m) M)).toArray 3) := fun n2 => blk_setRow (HBK.out.drewN n2)
      have HBL3 : Hid (∀ n2, Below w.heap.size w ((wr.drewN n2).setRow g (fl encI (rpL x (0 : Int) (k + m) M)).toArray)) := fun n2 => setRow_below (bl_drewN hbl n2) (by rw [HG.out]; exact Nat.le_refl _) _
      have w1' := wrap_nat ((k : Int) + (m : Int)) (k + m) (by omega) (by omega)
      clear hblk hbl hm
      go_wp2_with fail
      have hne : ¬ (M = k) := by omega
      have hrun3 : ∀ ty, (Builtin.copy_ #[31, 31] ty #[.slice (some ⟨g, k, none⟩) (M - k) (M - k), .slice (some ⟨g, 0, none⟩) k M]).run Tryd.prog wr.drew = .ok (goInt m) (wr.drew.setRow g (fl encI (rpL x (0 : Int) (k + m) M)).toArray) := fun ty => by have := hrun2 1 ty; rw [Nat.mul_one] at this; exact this
      have HB4 : Hid (Blk (wr.drew.setRow g (fl encI (rpL x (0 : Int) (k + m) M)).toArray) g (fl encI (rpL x (0 : Int) (k + m) M)).toArray 3) := HB3.out 1
      have HBL4 : Hid (Below w.heap.size w (wr.drew.setRow g (fl encI (rpL x (0 : Int) (k + m) M)).toArray)) := HBL3.out 1
      clear hrun2 HB3 HBL3
      obtain ⟨Z, hZ⟩ : ∃ Z, Z = (fl encI (rpL x (0 : Int) (k + m) M)).toArray := ⟨_, rfl⟩
      rw [← hZ] at hrun3 HB4 HBL4
      have HZ := Lib.hid hZ
      clear hZ
      go_region
      go_wp2_with fail
      go_roundw
      case rel => exact ⟨k + m, by omega, by omega, by go_num, by rw [← HZ.out]; exact HB4.out, HBL4.out⟩
      case measure => simp [intOf]; omega
    · have e9 : k = M := by omega
      rw [e9, rpL_all] at hblk
      have HF := Lib.hid (owns_full (n := M) (c := 1) encI_len hblk (by simp) (by unfold maxLen; omega) (base := w.heap.size) (by rw [HG.out]; exact Nat.le_refl _))
      clear hblk e9
      go_wp2_with fail
      go_ret
      exact ⟨g, rfl, by rw [HG.out]; exact Nat.le_refl _, HF.out, hbl⟩

end Go.Proofs.YtmfomjaomhohkaaDoor
namespace Go.Proofs.YtmfomjaomhohkaaDoor
open Go
/-- Operations that only read. -/
def calmB (o : Oper) : Bool := match o.op with
  | .move _ | .assign _ | .pick _ _ _ | .load _ _ | .nilCheck _ | .binOp _ _ _ _ _ | .unOp _ _ _ | .fieldAddr _ _ _ | .indexAddr _ _ _ | .field _ _ _ | .index _ _ _ => true
  | _ => false
/-- A value, or a halt. -/
def VH (s : Sem Next) : Prop := ∀ (P : Program) (w : World), (∃ v w', s.run P w = .ok (.value v) w') ∨ ∃ h w', s.run P w = .halt h w'
theorem VH.pure (v : Value) : VH (pure (.value v)) := fun _ w => .inl ⟨v, w, Sem.run_pure _ _ _⟩
theorem VH.bind {α : Type} {s : Sem α} {f : α → Sem Next} (h : ∀ a, VH (f a)) : VH (s >>= f) := fun P w => by
  rw [Sem.run_bind]
  cases s.run P w with
  | ok v w' => exact h v P w'
  | halt x w' => exact .inr ⟨x, w', by simp⟩
theorem VH.nilp : VH (runtimePanic .nilDeref : Sem Next) := fun P w => by
  right
  simp only [runtimePanic, goPanic]
  simp [go_sem]
theorem calm_vh {o : Oper} (h : calmB o = true) (ρ : Operand → Value) : VH (execOp ρ o) := by
  unfold calmB at h
  unfold execOp
  cases ho : o.op <;> rw [ho] at h <;> first | (cases h; done) | skip
  all_goals dsimp only
  all_goals first
    | exact VH.pure _
    | exact VH.bind fun _ => VH.pure _
    | (split
       · exact VH.nilp
       · exact VH.nilp
       · exact VH.nilp
       · split
         · exact VH.nilp
         · refine VH.bind fun _ => VH.bind fun _ => ?_
           split
           · exact VH.bind fun _ => VH.pure _
           · exact VH.pure _
         · exact VH.pure _
       · exact VH.pure _)
theorem calm_about {o : Oper} (h : calmB o = true) (P : Program) (w : World) (ρ : Operand → Value) : o.about P w ρ = none := by
  unfold calmB at h
  unfold Oper.about
  cases ho : o.op <;> rw [ho] at h <;> first | (cases h; done) | rfl
theorem calm_sem {o : Oper} (h : calmB o = true) (r : Option Nat) (ρ : Operand → Value) : Oper.semAt r ρ o = execOp ρ o := Oper.semAt_eq r ρ o fun c e => by
  unfold calmB at h
  rw [e] at h; cases h
section
variable {F : Fence} {n : Nat} {P : Program} {ops : Array Oper} {Q : Exit → Act → World → Prop} {md : Region.Mode}
/-- Nothing but the plain end. -/
def OnlyN (Q : Exit → Act → World → Prop) : Exit → Act → World → Prop := fun e a w => e = .normal ∧ Q .normal a w
theorem onlyN_lets : ¬ LetsOut (OnlyN Q) := fun ⟨_, _, h, _⟩ => by cases h
theorem calm_wp {o : Oper} (hc : calmB o = true) {a : Act} {w : World} {K K' : Act → World → Prop} (hK : ∀ a w, K a w → K' a w) (h : o.wp P a w K (OnlyN Q)) : o.wpIn F n P a w K' Q := by
  refine ⟨fun f hf => absurd hf (by rw [calm_about hc]; exact fun h => by cases h), ?_⟩
  rw [calm_sem hc]
  unfold Oper.wp at h
  rcases calm_vh hc a.eval P w with ⟨v, w', e⟩ | ⟨x, w', e⟩
  · rw [e] at h ⊢
    exact hK _ _ h
  · rw [e] at h
    cases x <;> first | exact h.elim | (exact absurd h.1 (by intro h; cases h))
theorem calm_any (hc : ∀ (i : Nat) (o : Oper), ops[i]? = some o → calmB o = true) : ∀ (f : Nat) (listed : Array Bool) (a : Act) (w : World), wpAny P md ops (OnlyN Q) f listed a w → wpAnyIn F n P md ops Q f listed a w
  | 0, listed, a, w, h => ⟨h.1, h.2.2⟩
  | f + 1, listed, a, w, h => by
    refine ⟨fun h0 => (h.1 h0).2, fun i hi => ?_⟩
    have h1 := h.2 i hi
    unfold wpOp at h1
    unfold wpOpIn
    cases ho : ops[i]? with
    | none => rw [ho] at h1; exact calm_any hc f _ a w h1
    | some o =>
      rw [ho] at h1
      dsimp only at h1 ⊢
      by_cases hw : Region.wanted o (yielded ops a.tmps) = true
      · rw [if_pos hw] at h1 ⊢
        rcases h1 with h1 | h1
        · exact calm_wp (hc i o ho) (fun a' w' h' => calm_any hc f _ a' w' h') h1
        · exact absurd h1.2 onlyN_lets
      · rw [if_neg hw] at h1 ⊢
        exact ⟨fun g hf => absurd hf (by rw [calm_about (hc i o ho)]; exact fun h => by cases h), calm_any hc f _ _ w h1⟩
theorem wpIn_region_calm {id : Nat} {a : Act} {w : World} {l : List Oper} (hm : P.follows .mixedOrders = true) (hB : Region.lexB .any l.toArray = true) (hc : l.all calmB = true)
    (h : wpQuiet P l.toArray (fun w' => ∃ n, w' = w.drewN n) (fun a' => ∀ w', (∃ n, w' = w.drewN n) → Q .normal a' w') l a) : (Code.region id l.toArray true).wpIn F n P Q a w := by
  refine wpIn_region_any hm (calm_any (fun i o ho => ?_) _ _ _ _ ?_)
  · rw [List.all_eq_true] at hc
    exact hc o (by rw [List.getElem?_toArray] at ho; exact List.mem_of_getElem? ho)
  · simp only [Region.lexB, Bool.and_eq_true] at hB
    refine wpAny_of_quiet (C := fun w' => ∃ n, w' = w.drewN n) (Q := fun a' => ∀ w', (∃ n, w' = w.drewN n) → Q .normal a' w') (fun _ w' hw' h => ⟨rfl, h w' hw'⟩) _ _ _ _ ⟨1, rfl⟩ ?_
    have := wpAnyQ_lex (C := fun w' => ∃ n, w' = w.drewN n) (md := .any) hB.1 l 0 (Array.replicate l.toArray.size false) a (by simp) (by simpa using hB.2) h
    simpa using this
end
end Go.Proofs.YtmfomjaomhohkaaDoor
