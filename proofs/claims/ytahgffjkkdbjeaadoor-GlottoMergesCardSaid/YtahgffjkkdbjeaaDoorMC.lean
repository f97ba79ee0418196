/- The body of the statement GlottoMerges, at every input. -/
import Derived.Test.YtahgffjkkdbjeaaDoorZF
import Derived.Test.YtahgffjkkdbjeaaDoorZC
namespace Go.Proofs.YtahgffjkkdbjeaaDoor
open Go.RowKit
theorem jw_congr {f f' : Nat → Nat} {a b m : Nat} (hm : m ≤ 24) (ha : a < m) (hb : b < m) (h : ∀ x y, x < m → y < m → f (x * 24 + y) = f' (x * 24 + y)) : ∀ i, i ≤ 24 → ∀ x y, x < m → y < m → jw f a b i (x * 24 + y) = jw f' a b i (x * 24 + y)
  | 0, _ => fun x y hx hy => by rw [jw, jw]; exact h x y hx hy
  | i + 1, hi => fun x y hx hy => by
    have ih := jw_congr hm ha hb h i (by omega)
    rw [jw, jw]
    unfold updN
    by_cases e1 : x * 24 + y = i * 24 + a
    · rw [if_pos e1, if_pos e1, ih a i ha (by omega), ih b i hb (by omega)]
    · rw [if_neg e1, if_neg e1]
      by_cases e2 : x * 24 + y = a * 24 + i
      · rw [if_pos e2, if_pos e2, ih a i ha (by omega), ih b i hb (by omega)]
      · rw [if_neg e2, if_neg e2]; exact ih x y hx hy
theorem bestP_congr {s f f' : Nat → Nat} : ∀ (l : List (Nat × Nat)) (o : Option (Nat × Nat)), (∀ p ∈ l, f (p.1 * 24 + p.2) = f' (p.1 * 24 + p.2)) → (∀ p, o = some p → f (p.1 * 24 + p.2) = f' (p.1 * 24 + p.2)) → l.foldl (stepB s f) o = l.foldl (stepB s f') o
  | [], _, _, _ => rfl
  | x :: l, o, h, ho => by
    have hx := h x List.mem_cons_self
    have e : stepB s f o x = stepB s f' o x := by
      cases o with
      | none => rfl
      | some p =>
        have e : nearB s f x.1 x.2 p.1 p.2 = nearB s f' x.1 x.2 p.1 p.2 := by rw [nearB, nearB, hx, ho p rfl]
        show (if nearB s f x.1 x.2 p.1 p.2 = true then some x else some p) = if nearB s f' x.1 x.2 p.1 p.2 = true then some x else some p
        rw [e]
    rw [List.foldl_cons, List.foldl_cons, ← e]
    refine bestP_congr l _ (fun p hp => h p (List.mem_cons_of_mem _ hp)) fun p hp => ?_
    unfold stepB at hp
    cases o with
    | none => cases hp; exact hx
    | some q =>
      simp only at hp
      split at hp
      · cases hp; exact hx
      · exact ho p hp
theorem mRun_congr {n c : Nat} {g g' : Nat → Nat} (hn : n ≤ 24) (hg : ∀ t, g t ≤ 1073741824) (h : ∀ i j, i < n → j < n → g (i * 24 + j) = g' (i * 24 + j)) :
    ∀ k, k < n → (mRun n c g k).s = (mRun n c g' k).s ∧ (mRun n c g k).l = (mRun n c g' k).l ∧ ∀ i j, i < n → j < n → (mRun n c g k).f (i * 24 + j) = (mRun n c g' k).f (i * 24 + j)
  | 0, _ => ⟨rfl, rfl, h⟩
  | k + 1, hk => by
    obtain ⟨e1, e2, e3⟩ := mRun_congr (c := c) hn hg h k (by omega)
    have hp := (mRun_pick (mRun_inv (c := c) hn hg k (by omega)) hk).2
    obtain ⟨p1, p2, p3, p4, p5⟩ := mem_prs.1 hp
    have hq : mPick n (mRun n c g k).s (mRun n c g k).f = mPick n (mRun n c g' k).s (mRun n c g' k).f := by
      unfold mPick bestP
      rw [← e1]
      rw [bestP_congr (f' := (mRun n c g' k).f) _ none (fun p hp => by obtain ⟨q1, q2, q3, q4, q5⟩ := mem_prs.1 hp; exact e3 _ _ q1 q4) (fun p hp => by cases hp)]
    refine ⟨?_, ?_, ?_⟩
    · show joinS _ _ _ = joinS _ _ _
      rw [← hq, ← e1]
    · show _ ++ [_] = _ ++ [_]
      rw [← hq, ← e1, ← e2, mgOf, mgOf, e3 _ _ p1 p4]
    · intro i j hi hj
      show jw _ _ _ 24 _ = jw _ _ _ 24 _
      rw [← hq]
      exact jw_congr hn p1 p4 e3 24 (Nat.le_refl _) i j hi hj
/-- Merges has one answer. -/
theorem mg_ans (n : Int) (d : List Fr) : ∃ (k : Int) (l : List Mg) (N : Nat), Hid (l.length = N) ∧ N ≤ 24 ∧ ∀ w e w', MgPost w n d e w' → ∃ a' c', e = .returned (.tuple #[.slice a' N c', .int .i64 k]) ∧ Rd w' a' (fl encMg l) ∧ Below w.heap.size w w' := by
  rcases hs : scaledS n d with k | c
  · refine ⟨k, [], 0, rfl, by omega, fun w e w' h => ?_⟩
    obtain ⟨hb, ⟨k', h1, rfl⟩ | ⟨m, c, v, g, h0, h1, h2, h3, rfl, h5, h6, h7⟩⟩ := h
    · rw [hs] at h1; cases h1
      exact ⟨none, 0, rfl, Rd.nil _ _, hb⟩
    · rw [hs] at h3; cases h3
  · by_cases hex : ∃ (m : Nat) (g : Nat → Nat), n = (m : Int) ∧ 1 ≤ m ∧ m ≤ 24 ∧ (∀ i j, i < m → j < m → g (i * 24 + j) = dist d c m i j) ∧ ∀ t, g t ≤ 1073741824
    · obtain ⟨m, g, hm, hm1, hm2, hg1, hg2⟩ := hex
      refine ⟨0, (mRun m c g (m - 1)).l, m - 1, mRun_len _ _ _ _, by omega, fun w e w' h => ?_⟩
      obtain ⟨hb, ⟨k', h1, rfl⟩ | ⟨m', c', v, g', h0, h1, h2, h3, rfl, h5, h6, h7⟩⟩ := h
      · rw [hs] at h1; cases h1
      · rw [hs] at h3; cases h3
        obtain rfl : m = m' := by omega
        obtain ⟨a', c', rfl, _⟩ := owns_slice h5
        rw [← (mRun_congr (c := c) hm2 hg2 (fun i j hi hj => by rw [hg1 i j hi hj, h6 i j hi hj]) (m - 1) (by omega)).2.1] at h5
        exact ⟨a', c', rfl, rd_of_owns h5, hb⟩
    · refine ⟨0, [], 0, rfl, by omega, fun w e w' h => ?_⟩
      obtain ⟨hb, ⟨k', h1, rfl⟩ | ⟨m', c', v, g', h0, h1, h2, h3, rfl, h5, h6, h7⟩⟩ := h
      · rw [hs] at h1; cases h1
      · rw [hs] at h3; cases h3
        exact absurd ⟨m', g', h0, h1, h2, h6, h7⟩ hex
theorem encFr_one : ∀ x : Fr, ∀ u ∈ encFr x, u.oneCell' = true := by
  intro x u hu
  simp [encFr] at hu
  rcases hu with rfl | rfl <;> rfl
set_option maxRecDepth 100000 in
set_option maxHeartbeats 1000000 in
/-- slices.Clone of fractions. -/
theorem cloneFr_any (a : Option Addr) (n c : Nat) (row : List Fr) (w : World) (hn : row.length = n) (hn2 : n < 1048576) (hA : Rd w a (fl encFr row)) :
    Calls Tryd.prog 28 #[.slice a n c] w fun e w' => ∃ a' c', e = .returned (.slice a' n c') ∧ Rd w' a' (fl encFr row) ∧ Below w.heap.size w w' := by
  have HN := Lib.hid hn
  have q29 : ∀ (w : World) (a : Option Addr) (n c n' c' : Nat), (binOp .eql 22 (.slice a n c) (.slice none n' c')).run Tryd.prog w = .ok (.bool a.isNone) w := fun w a n c n' c' => Lib.run_eql_slice_nil w _ _ a n c n' c' Tryd.underlying22
  rcases a with _ | ad
  · have h0 : n = 0 := by
      rcases Nat.eq_zero_or_pos row.length with h | h
      · omega
      · obtain ⟨b, o, e, _⟩ := hA (by rw [fl_length encFr_len]; omega)
        cases e
    have hr : row = [] := List.eq_nil_of_length_eq_zero (by omega)
    clear hn
    subst h0
    subst hr
    have q0 := fun w n c n' c' => q29 w none n c n' c'
    simp only [Option.isNone] at q0
    go_enter Tryd.func28, Tryd.ntmps28
    go_wp2_with fail
    go_ret
    exact ⟨none, 0, rfl, Rd.nil _ _, Below.refl _ _⟩
  · clear hn
    have hown0 : (w.alloc (.cells #[] 40)).ownsRow w.heap.size 40 2 (.slice (some ⟨w.heap.size, 0, none⟩) 0 0) 0 (fl encFr []) := by
      have := owns_made (w := w) (base := w.heap.size) (e := 40) (k := 2) (n := 0) (cs := #[]) (Nat.le_refl _) (by simp) (by omega)
      exact this
    have hA1 := hA.bl (bl_alloc (Below.refl _ w) (.cells #[] 40))
    have hb1 := bl_alloc (Below.refl w.heap.size w) (.cells #[] 40)
    have q0 := fun w n c n' c' => q29 w (some ad) n c n' c'
    simp only [Option.isNone] at q0
    go_enter Tryd.func28, Tryd.ntmps28
    go_wp2_with (at_builtin; refine wpList_pushs (enc := encFr) (k := 2) (bytes := 16) rfl encFr_len (by decide) encFr_one (base := w.heap.size) Tryd.underlying22 info_Fr rfl (.tmp 5) (.tmp 6) rfl (.slice (some ⟨w.heap.size, 0, none⟩) 0 0) ([] : List Fr) 0 rfl rfl hown0 (some ad) n c row HN.out.symm rfl hA1 (fun e => by cases e) (by omega) (by decide) hb1.size ?_; intro v1 w2 hw1 hw2 hw3)
    rw [Nat.zero_add, List.nil_append] at hw1
    obtain ⟨a', c', rfl, hc2⟩ := owns_slice hw1
    have hrd := rd_of_owns hw1
    go_ret
    exact ⟨a', c', rfl, hrd, hb1.grown hw2 (by simp) (by intro k hk; simp [Value.ownBlock] at hk; omega)⟩
set_option maxRecDepth 100000 in
set_option maxHeartbeats 1000000 in
theorem mglaw_any (n : Int) (a : Option Addr) (N c : Nat) (d : List Fr) (w : World) (hn1 : -9223372036854775808 ≤ n) (hn2 : n ≤ 9223372036854775807) (hd : d.length = N) (hN : N ≤ 9223372036854775807) (hA : Rd w a (fl encFr d)) (hok : FitFr d) :
    Calls Tryd.prog 7 #[.int .i64 n, .slice a N c] w fun e w' => e = .returned (.bool true) ∧ Below w.heap.size w w' := by
  have HD := Lib.hid hd
  have HK := Lib.hid hok
  clear hd hok
  by_cases h7 : 700 < N
  · have hq : decide (700 < (N : Int)) = true := by simp; omega
    go_enter Tryd.func7, Tryd.ntmps7
    go_wp2_with fail
    refine (works_any _).mono ?_
    rintro e w1 ⟨rfl, hb1⟩
    go_wp2_with fail
    go_ret
    exact ⟨rfl, hb1⟩
  · have hq : decide (700 < (N : Int)) = false := by simp; omega
    obtain ⟨k, l, M, hlen, hM, hans⟩ := mg_ans n d
    have HANS := Lib.hid hans
    clear hans
    go_enter Tryd.func7, Tryd.ntmps7
    go_wp2_with fail
    refine (cloneFr_any a N c d _ HD.out (by omega) hA).mono ?_
    rintro e w1 ⟨a1, c1, rfl, hr1, hb1⟩
    have hA1 := hA.bl hb1
    have HR1 := Lib.hid hr1
    have HB1 := Lib.hid hb1
    have HA1 := Lib.hid hA1
    clear hr1 hb1 hA1 hA
    go_wp2_with fail
    refine (merges_any a n N c d _ hn1 hn2 HD.out (by omega) HA1.out HK.out).mono ?_
    rintro e w2 hp2
    obtain ⟨a2, c2, rfl, hr2, hb2⟩ := HANS.out _ _ _ hp2
    have HR2 := Lib.hid hr2
    have HB2 := Lib.hid hb2
    clear hp2 hr2 hb2
    go_wp2_with fail
    refine (rmerges_any a1 n N c1 d _ hn1 hn2 HD.out (by omega) (HR1.out.bl HB2.out) HK.out).mono ?_
    rintro e w3 hp3
    obtain ⟨a3, c3, rfl, hr3, hb3⟩ := HANS.out _ _ _ hp3
    have HR3 := Lib.hid hr3
    have HB3 := Lib.hid hb3
    clear hp3 hr3 hb3
    have HE := Lib.hid ((eqMg_any a2 a3 M M c2 c3 l l w3 hlen.out hlen.out (by omega) (by omega) (HR2.out.bl HB3.out) HR3.out).mono fun e w' (h : e = .returned (.bool (decide (l = l))) ∧ ∃ n, w' = w3.drewN n) => (⟨by rw [h.1, decide_eq_true rfl], h.2⟩ : e = .returned (.bool true) ∧ ∃ n, w' = w3.drewN n))
    have HE2 : Hid (∀ nq, Calls Tryd.prog 27 #[.slice a1 N c1, .slice a N c] (w3.drewN nq) fun e w' => e = .returned (.bool true) ∧ ∃ n, w' = (w3.drewN nq).drewN n) := fun nq =>
      (eqFr_any a1 a N N c1 c d d (w3.drewN nq) HD.out HD.out (by omega) (by omega) (((HR1.out.bl HB2.out).bl HB3.out).drewN nq) (((HA1.out.bl HB2.out).bl HB3.out).drewN nq)).mono fun e w' (h : e = .returned (.bool (decide (d = d))) ∧ ∃ n, w' = (w3.drewN nq).drewN n) => (⟨by rw [h.1, decide_eq_true rfl], h.2⟩ : e = .returned (.bool true) ∧ ∃ n, w' = (w3.drewN nq).drewN n)
    have HBW := Lib.hid (bl_trans (bl_trans HB1.out HB2.out) HB3.out)
    clear HR2 HR3 HR1 HA1 HB1 HB2 HB3 HANS
    go_wp2_with (first
      | (go_at_call 30; refine HE.out.mono ?_; rintro e w4 ⟨rfl, n4, rfl⟩)
      | (go_at_call 27; refine (HE2.out n4).mono ?_; rintro e w5 ⟨rfl, n5, rfl⟩)
      | (go_at_call 14; refine (works_any _).mono ?_; rintro e w6 ⟨rfl, hb6⟩))
    go_ret
    exact ⟨rfl, bl_trans (bl_drewN HBW.out (n4 + n5)) hb6⟩
end Go.Proofs.YtahgffjkkdbjeaaDoor
