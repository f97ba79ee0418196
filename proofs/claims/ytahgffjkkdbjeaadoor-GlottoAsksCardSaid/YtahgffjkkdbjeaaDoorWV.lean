/- The body of the statement GlottoAsks, at every input. -/
import Derived.Test.YtahgffjkkdbjeaaDoorWU
import Derived.Test.YtahgffjkkdbjeaaDoorWF
namespace Go.Proofs.YtahgffjkkdbjeaaDoor
open Go.RowKit
theorem ltK_irr {K : Nat → Nat} {x y : Nat} (h : ltK K x y) (k : ltK K y x) : False := by unfold ltK at *; omega
theorem ltK_self {K : Nat → Nat} {x : Nat} (h : ltK K x x) : False := by unfold ltK at *; omega
/-- There is one sorted row. -/
theorem RkRow.uniq {d : List Fr} {c m y : Nat} {f g : Nat → Nat} (hf : RkRow d c m y f) (hg : RkRow d c m y g) : ∀ p, p < m → f p = g p := by
  intro p
  induction p using Nat.strongRecOn with
  | _ p ih =>
    intro hp
    have hr : ∃ r, r < m ∧ g r = f p := by
      have h1 := (hf.same.2 (f p)).1 ⟨p, ⟨Nat.zero_le _, hp⟩, rfl⟩
      obtain ⟨r, hr, e⟩ := (hg.same.2 (f p)).2 h1
      exact ⟨r, hr.2, e⟩
    have hs : ∃ s, s < m ∧ f s = g p := by
      have h1 := (hg.same.2 (g p)).1 ⟨p, ⟨Nat.zero_le _, hp⟩, rfl⟩
      obtain ⟨r, hr, e⟩ := (hf.same.2 (g p)).2 h1
      exact ⟨r, hr.2, e⟩
    obtain ⟨r, hr, er⟩ := hr
    obtain ⟨s, hs, es⟩ := hs
    have hrp : p ≤ r := by
      rcases Nat.lt_or_ge r p with h | h
      · have := hf.srt r p (Nat.zero_le _) h hp
        rw [ih r h hr, er] at this
        exact (ltK_self this).elim
      · exact h
    have hsp : p ≤ s := by
      rcases Nat.lt_or_ge s p with h | h
      · have := hg.srt s p (Nat.zero_le _) h hp
        rw [← ih s h hs, es] at this
        exact (ltK_self this).elim
      · exact h
    rcases Nat.lt_or_ge p r with h | h
    · have h1 := hg.srt p r (Nat.zero_le _) h hr
      rw [er] at h1
      rcases Nat.lt_or_ge p s with h2 | h2
      · have h3 := hf.srt p s (Nat.zero_le _) h2 hs
        rw [es] at h3
        exact (ltK_irr h1 h3).elim
      · obtain rfl : s = p := by omega
        rw [es] at h1
        exact (ltK_self h1).elim
    · obtain rfl : r = p := by omega
      exact er.symm
theorem RkRow.rowL {d : List Fr} {c m y : Nat} {f g : Nat → Nat} (hf : RkRow d c m y f) (hg : RkRow d c m y g) : rowL f m = rowL g m := by
  unfold Go.Proofs.YtahgffjkkdbjeaaDoor.rowL
  refine List.map_congr_left fun p hp => ?_
  rw [hf.uniq hg p (List.mem_range.1 hp)]
theorem RkRow.nearV {d : List Fr} {c m y : Nat} {f g : Nat → Nat} (hm : y < m) (hf : RkRow d c m y f) (hg : RkRow d c m y g) : nearV f m y = nearV g m y := by
  unfold Go.Proofs.YtahgffjkkdbjeaaDoor.nearV
  by_cases h1 : m = 1
  · rw [if_pos h1, if_pos h1]
  · rw [if_neg h1, if_neg h1, hf.uniq hg 0 (by omega), hf.uniq hg 1 (by omega)]
/-- Nearest has one answer. -/
theorem near_ans (n x : Int) (d : List Fr) : ∃ p q : Int, ∀ (w : World) (e : Ending) (w' : World), NrPost w n d x e w' → e = .returned (.tuple #[.int .i64 p, .int .i64 q]) := by
  cases hE : rankE n d x with
  | error k =>
    refine ⟨0, k, fun w e w' h => ?_⟩
    rcases h.2 with ⟨k', hk, rfl⟩ | ⟨m, c, y, f, hm, hx, hy, hc, rfl, hr⟩
    · rw [hE] at hk
      obtain rfl : k = k' := by injection hk
      rfl
    · rw [hE] at hc; cases hc
  | ok c =>
    by_cases hex : ∃ (m y : Nat) (f : Nat → Nat), n = (m : Int) ∧ x = (y : Int) ∧ y < m ∧ RkRow d c m y f
    · obtain ⟨m, y, f, hm, hx, hy, hr⟩ := hex
      refine ⟨nearV f m y, nearE m, fun w e w' h => ?_⟩
      rcases h.2 with ⟨k', hk, rfl⟩ | ⟨m', c', y', f', hm', hx', hy', hc', rfl, hr'⟩
      · rw [hE] at hk; cases hk
      · obtain rfl : m = m' := by omega
        obtain rfl : y = y' := by omega
        rw [hE] at hc'
        obtain rfl : c = c' := by injection hc'
        rw [hr.nearV hy hr']
    · refine ⟨0, 0, fun w e w' h => ?_⟩
      rcases h.2 with ⟨k', hk, rfl⟩ | ⟨m', c', y', f', hm', hx', hy', hc', rfl, hr'⟩
      · rw [hE] at hk; cases hk
      · rw [hE] at hc'
        obtain rfl : c = c' := by injection hc'
        exact absurd ⟨m', y', f', hm', hx', hy', hr'⟩ hex
/-- Rank has one answer, and so has the document. -/
theorem rank_ans (n x : Int) (d : List Fr) : ∃ (m : Nat) (q : Int) (l : List Int), l.length = m ∧ m ≤ 24 ∧
    (∀ (w : World) (e : Ending) (w' : World), RkPost w n d x e w' → ∃ a c, e = .returned (.tuple #[.slice a m c, .int .i64 q]) ∧ Rd w' a (fl encI l)) ∧
    (∀ (w : World) (e : Ending) (w' : World), RrPost w n d x e w' → ∃ a c, e = .returned (.tuple #[.slice a m c, .int .i64 q]) ∧ Rd w' a (fl encI l)) := by
  cases hE : rankE n d x with
  | error k =>
    refine ⟨0, k, [], rfl, by omega, fun w e w' h => ?_, fun w e w' h => ?_⟩
    · rcases h.2 with ⟨k', hk, rfl⟩ | ⟨m, c, y, B, cap, f, hm, hx, hy, hm24, hc, rfl, hB, hF, hr⟩
      · rw [hE] at hk
        obtain rfl : k = k' := by injection hk
        exact ⟨none, 0, rfl, Rd.nil _ _⟩
      · rw [hE] at hc; cases hc
    · rcases h.2 with ⟨k', hk, rfl⟩ | ⟨m, c, y, v, f, hm, hx, hy, _, hc, rfl, hown, hr⟩
      · rw [hE] at hk
        obtain rfl : k = k' := by injection hk
        exact ⟨none, 0, rfl, Rd.nil _ _⟩
      · rw [hE] at hc; cases hc
  | ok c =>
    by_cases hex : ∃ (m y : Nat) (f : Nat → Nat), n = (m : Int) ∧ x = (y : Int) ∧ y < m ∧ m ≤ 24 ∧ RkRow d c m y f
    · obtain ⟨m, y, f, hm, hx, hy, hm24, hr⟩ := hex
      refine ⟨m, 0, Go.Proofs.YtahgffjkkdbjeaaDoor.rowL f m, by simp [Go.Proofs.YtahgffjkkdbjeaaDoor.rowL], hm24, fun w e w' h => ?_, fun w e w' h => ?_⟩
      · rcases h.2 with ⟨k', hk, rfl⟩ | ⟨m', c', y', B, cap, f', hm', hx', hy', _, hc', rfl, hB, hF, hr'⟩
        · rw [hE] at hk; cases hk
        · obtain rfl : m = m' := by omega
          obtain rfl : y = y' := by omega
          rw [hE] at hc'
          obtain rfl : c = c' := by injection hc'
          refine ⟨some ⟨B, 0, none⟩, cap, rfl, ?_⟩
          rw [hr.rowL hr']
          exact rd_of_owns hF
      · rcases h.2 with ⟨k', hk, rfl⟩ | ⟨m', c', y', v, f', hm', hx', hy', _, hc', rfl, hown, hr'⟩
        · rw [hE] at hk; cases hk
        · obtain rfl : m = m' := by omega
          obtain rfl : y = y' := by omega
          rw [hE] at hc'
          obtain rfl : c = c' := by injection hc'
          obtain ⟨a2, cap2, rfl, _⟩ := owns_slice hown
          refine ⟨a2, cap2, rfl, ?_⟩
          rw [hr.rowL hr']
          exact rd_of_owns hown
    · refine ⟨0, 0, [], rfl, by omega, fun w e w' h => ?_, fun w e w' h => ?_⟩
      · rcases h.2 with ⟨k', hk, rfl⟩ | ⟨m', c', y', B, cap, f', hm', hx', hy', h24, hc', rfl, hB, hF, hr'⟩
        · rw [hE] at hk; cases hk
        · rw [hE] at hc'
          obtain rfl : c = c' := by injection hc'
          exact absurd ⟨m', y', f', hm', hx', hy', h24, hr'⟩ hex
      · rcases h.2 with ⟨k', hk, rfl⟩ | ⟨m', c', y', v, f', hm', hx', hy', h24, hc', rfl, hown, hr'⟩
        · rw [hE] at hk; cases hk
        · rw [hE] at hc'
          obtain rfl : c = c' := by injection hc'
          exact absurd ⟨m', y', f', hm', hx', hy', h24, hr'⟩ hex
set_option maxRecDepth 100000 in
set_option maxHeartbeats 4000000 in
theorem asks_any (a : Option Addr) (n x : Int) (N c : Nat) (d : List Fr) (w : World) (hn1 : -9223372036854775808 ≤ n) (hn2 : n ≤ 9223372036854775807) (hx1 : -9223372036854775808 ≤ x) (hx2 : x ≤ 9223372036854775807) (hd : d.length = N) (hN0 : N ≤ 9223372036854775807) (hA : Rd w a (fl encFr d)) (hok : FitFr d) :
    Calls Tryd.prog 3 #[.int .i64 n, .slice a N c, .int .i64 x] w fun e w' => e = .returned (.bool true) ∧ Below w.heap.size w w' := by
  have HH := Lib.hid (And.intro hd (And.intro hA hok))
  clear hd hA hok
  by_cases h7 : 700 < N
  · have hq : decide (700 < (N : Int)) = true := by simp; omega
    go_enter Tryd.func3, Tryd.ntmps3
    go_wp2_with fail
    refine (works_any _).mono ?_
    rintro e w1 ⟨rfl, hb1⟩
    go_wp2_with fail
    go_ret
    exact ⟨rfl, hb1⟩
  · have hq : decide (700 < (N : Int)) = false := by simp; omega
    have hN : N ≤ 1152921504606846976 := by omega
    go_enter Tryd.func3, Tryd.ntmps3
    go_wp2_with fail
    refine (ultra_any a n N c d _ hn1 hn2 HH.out.1 hN HH.out.2.1 HH.out.2.2).mono ?_
    rintro e w1 ⟨rfl, hb1⟩
    have HA1 := Lib.hid (HH.out.2.1.bl hb1)
    go_wp2_with fail
    refine (rultra_any a n N c d _ hn1 hn2 HH.out.1 hN HA1.out HH.out.2.2).mono ?_
    rintro e w2 ⟨rfl, hb2⟩
    generalize (ultraS n d).1 = u1
    generalize (ultraS n d).2 = u2
    have HA2 := Lib.hid (HA1.out.bl hb2)
    have HB2 := Lib.hid (bl_trans hb1 hb2)
    clear hb1 hb2 HA1
    go_wp2_with fail
    obtain ⟨p, q, hna⟩ := near_ans n x d
    have HNA := Lib.hid hna
    clear hna
    refine (near_any a n x N c d _ hn1 hn2 hx1 hx2 HH.out.1 hN HA2.out HH.out.2.2).mono ?_
    intro e3 w3 hp3
    obtain rfl := HNA.out _ _ _ hp3
    have HA3 := Lib.hid (HA2.out.bl hp3.1)
    have HB3 := Lib.hid (bl_trans HB2.out hp3.1)
    clear hp3 HA2 HB2
    go_wp2_with fail
    refine (rnear_any a n x N c d _ hn1 hn2 hx1 hx2 HH.out.1 hN HA3.out HH.out.2.2).mono ?_
    intro e4 w4 hp4
    obtain rfl := HNA.out _ _ _ hp4
    have HA4 := Lib.hid (HA3.out.bl hp4.1)
    have HB4 := Lib.hid (bl_trans HB3.out hp4.1)
    clear hp4 HA3 HB3 HNA
    go_wp2_with fail
    obtain ⟨m, q2, l, hl, hm, hk1, hk2⟩ := rank_ans n x d
    have HK1 := Lib.hid hk1
    have HK2 := Lib.hid hk2
    have HL := Lib.hid hl
    clear hk1 hk2 hl
    refine (rank_any a n x N c d _ hn1 hn2 hx1 hx2 HH.out.1 hN HA4.out HH.out.2.2).mono ?_
    intro e5 w5 hp5
    obtain ⟨a5, c5, rfl, hr5⟩ := HK1.out _ _ _ hp5
    have HA5 := Lib.hid (HA4.out.bl hp5.1)
    have HB5 := Lib.hid (bl_trans HB4.out hp5.1)
    have HR5 := Lib.hid hr5
    clear hp5 HA4 HB4 HK1 hr5
    go_wp2_with fail
    refine (rrank_any a n x N c d _ hn1 hn2 hx1 hx2 HH.out.1 hN HA5.out HH.out.2.2).mono ?_
    intro e6 w6 hp6
    obtain ⟨a6, c6, rfl, hr6⟩ := HK2.out _ _ _ hp6
    have HB6 := Lib.hid (bl_trans HB5.out hp6.1)
    have HE := Lib.hid ((eqI_any a5 a6 m m c5 c6 l l w6 HL.out HL.out (by omega) (by omega) (HR5.out.bl hp6.1) hr6).mono fun e w' (h : e = .returned (.bool (decide (l = l))) ∧ ∃ n, w' = w6.drewN n) => (⟨by rw [h.1, decide_eq_true rfl], h.2⟩ : e = .returned (.bool true) ∧ ∃ n, w' = w6.drewN n))
    clear hp6 HA5 HB5 HK2 HR5 hr6
    go_wp2_with fail
    refine HE.out.mono ?_
    rintro e w7 ⟨rfl, n7, rfl⟩
    have HB7 := Lib.hid (bl_drewN HB6.out n7)
    clear HE HB6
    go_wp2_with fail
    refine (works_any _).mono ?_
    rintro e w8 ⟨rfl, hb8⟩
    have HB8 := Lib.hid (bl_trans HB7.out hb8)
    clear hb8 HB7
    go_wp2_with fail
    go_ret
    exact ⟨rfl, HB8.out⟩
end Go.Proofs.YtahgffjkkdbjeaaDoor
