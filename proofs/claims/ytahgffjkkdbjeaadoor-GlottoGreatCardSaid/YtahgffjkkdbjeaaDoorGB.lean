/- Parts of the statement GlottoGreat: what the calls with great numbers answer. -/
import Derived.Test.YtahgffjkkdbjeaaDoorGA
namespace Go.Proofs.YtahgffjkkdbjeaaDoor
open Go.RowKit
theorem eqlFr (x0 y0 : Int) (x1 y1 : Int) (w : World) : (binOp .eql 40 (.agg #[.int .i64 x0, .int .i64 x1]) (.agg #[.int .i64 y0, .int .i64 y1])).run Tryd.prog w = .ok (.bool (decide (x0 = y0) && decide (x1 = y1))) w := by
  have u2 := Tryd.underlying2
  have a2 := Tryd.isAgg2
  have z2 := Tryd.sizeOf2
  have hS : Tryd.prog.underlying 40 = some (.struct (Tryd.prog.fieldsOf 40)) := by kernel_rfl
  have hp : Tryd.prog.stoodInHeld 40 = false := by kernel_rfl
  rw [run_eql_struct, show (10000 : Nat) = 9999 + 1 from rfl, run_equalIn_agg w 9999 40 _ _ hS hp]
  simp only [Program.fieldsOf, Tryd.underlying40]
  go_simp
  by_cases h0 : x0 = y0 <;> by_cases h1 : x1 = y1 <;> simp [ba_inj, h0, h1]
theorem twoL_len (p q : Int) : (twoL p q).length = 4 := rfl
theorem twoL_fit {p q : Int} (hp : p ≤ 9223372036854775807) (hq : q ≤ 9223372036854775807) : FitFr (twoL p q) := fun i hi => by
  rw [twoL_len] at hi
  match i, hi with
  | 0, _ => exact ⟨show (0 : Int) ≤ _ by omega, show (1 : Int) ≤ _ by omega⟩
  | 1, _ => exact ⟨hp, hq⟩
  | 2, _ => exact ⟨hp, hq⟩
  | 3, _ => exact ⟨show (0 : Int) ≤ _ by omega, show (1 : Int) ≤ _ by omega⟩
theorem two_merges {p q : Int} {c P Q : Nat} (hs : scaledS 2 (twoL p q) = .ok c) (hp : p ≤ 9223372036854775807) (hq : q ≤ 9223372036854775807) (hlP : lowN ((scK (twoL p q) c 1 : Int), (c : Int)) = P) (hlQ : lowD ((scK (twoL p q) c 1 : Int), (c : Int)) = Q) (a : Option Addr) (w : World) (hA : Rd w a (fl encFr (twoL p q))) :
    Calls Tryd.prog 23 #[.int .i64 2, .slice a 4 4] w fun e w' => Below w.heap.size w w' ∧ ∃ b cap, e = .returned (.tuple #[.slice (some ⟨b, 0, none⟩) 1 cap, .int .i64 0]) ∧ w'.cell? ⟨b, 2, none⟩ = some (.int .i64 P) ∧ w'.cell? ⟨b, 3, none⟩ = some (.int .i64 Q) := by
  refine (merges_any a 2 4 4 (twoL p q) w (by omega) (by omega) rfl (by omega) hA (twoL_fit hp hq)).mono ?_
  rintro e w2 ⟨hb, ⟨x, hx, _⟩ | ⟨m, c', v, g, hm, hm1, hm24, hc', rfl, hown, hg, hgb⟩⟩
  · rw [hs] at hx; cases hx
  obtain rfl : m = 2 := by omega
  rw [hs] at hc'
  obtain rfl : c = c' := by injection hc'
  refine ⟨hb, ?_⟩
  have hm := mRun_inv (c := c) (n := 2) (g := g) (by omega) hgb 0 (by omega)
  obtain ⟨_, h2⟩ := mRun_pick hm (by omega)
  obtain ⟨a1, a2, a3, a4, a5⟩ := mem_prs.1 h2
  obtain ⟨e1, e2, e3, e4, e5⟩ := mRun_at (n := 2) (c := c) (g := g) (K := 1) (k := 0) (by omega)
  have eA : mA' 2 c g 0 = 0 := by unfold mA'; omega
  have eB : mB' 2 c g 0 = 1 := by unfold mB'; omega
  have h3 : hP 2 c g 0 = scK (twoL p q) c 1 := by
    unfold Go.Proofs.YtahgffjkkdbjeaaDoor.hP
    rw [eA, eB]
    exact hg 0 1 (by omega) (by omega)
  have h4 : hQ 2 c g 0 = c := by
    unfold Go.Proofs.YtahgffjkkdbjeaaDoor.hQ
    rw [eA, eB]
    show 1 * 1 * c = c
    omega
  rw [h3, h4] at e3 e4
  rw [hlP] at e3
  rw [hlQ] at e4
  obtain ⟨ma, mc, rfl, hmb⟩ := owns_slice hown
  rcases hmb with h | ⟨b, _, _, rfl⟩
  · omega
  refine ⟨b, mc, rfl, ?_⟩
  obtain ⟨b2, o2, he, _, hcm⟩ := rdMg (rd_of_owns hown) (by rw [mRun_len]; omega)
  simp only [Option.some.injEq, Addr.mk.injEq, and_true] at he
  obtain ⟨rfl, rfl⟩ := he
  obtain ⟨_, _, G2, G3, _⟩ := hcm 0 (by rw [mRun_len]; omega)
  rw [e3] at G2
  rw [e4] at G3
  exact ⟨G2, G3⟩
theorem two_over {p q k : Int} (hs : scaledS 2 (twoL p q) = .error k) (hp : p ≤ 9223372036854775807) (hq : q ≤ 9223372036854775807) (a : Option Addr) (w : World) (hA : Rd w a (fl encFr (twoL p q))) :
    Calls Tryd.prog 23 #[.int .i64 2, .slice a 4 4] w fun e w' => Below w.heap.size w w' ∧ e = .returned (.tuple #[.slice none 0 0, .int .i64 k]) := by
  refine (merges_any a 2 4 4 (twoL p q) w (by omega) (by omega) rfl (by omega) hA (twoL_fit hp hq)).mono ?_
  rintro e w2 ⟨hb, ⟨x, hx, rfl⟩ | ⟨m, c', v, g, hm, hm1, hm24, hc', rfl, hown, hg, hgb⟩⟩
  · rw [hs] at hx
    injection hx with hx
    rw [hx]
    exact ⟨hb, rfl⟩
  · obtain rfl : m = 2 := by omega
    rw [hs] at hc'; cases hc'
theorem two_ultra {p q : Int} {c : Nat} (hs : scaledS 2 (twoL p q) = .ok c) (hu : UltraP (twoL p q) c 2) (hp : p ≤ 9223372036854775807) (hq : q ≤ 9223372036854775807) (a : Option Addr) (w : World) (hA : Rd w a (fl encFr (twoL p q))) :
    Calls Tryd.prog 15 #[.int .i64 2, .slice a 4 4] w fun e w' => e = .returned (.tuple #[.bool true, .int .i64 0]) ∧ Below w.heap.size w w' :=
  (ultra_any a 2 4 4 (twoL p q) w (by omega) (by omega) rfl (by omega) hA (twoL_fit hp hq)).mono fun e w' h => by
    obtain ⟨rfl, hb⟩ := h
    have := ul_yes (n := 2) hs hu
    rw [show ((2 : Nat) : Int) = 2 from rfl] at this
    rw [this]
    exact ⟨rfl, hb⟩
def nineL : List Fr := [(0, 5), (1, 32768), (1, 32769), (2, 65536), (0, 7), (1, 1), (1, 32769), (3, 3), (0, 1)]
theorem nine_rank (a : Option Addr) (w : World) (hA : Rd w a (fl encFr nineL)) :
    Calls Tryd.prog 19 #[.int .i64 3, .slice a 9 9, .int .i64 9] w fun e w' => e = .returned (.tuple #[.slice none 0 0, .int .i64 7]) ∧ Below w.heap.size w w' := by
  have hs : scaledS 3 nineL = .error 7 := by kernel_rfl
  have hfit : FitFr nineL := by
    have h : ∀ x ∈ nineL, x.1 ≤ 9223372036854775807 ∧ x.2 ≤ 9223372036854775807 := by decide
    intro i hi
    have := h nineL[i] (List.getElem_mem hi)
    unfold fN fD
    rw [List.getD_eq_getElem?_getD, List.getElem?_eq_getElem hi]
    exact this
  refine (rank_any a 3 9 9 9 nineL w (by omega) (by omega) (by omega) (by omega) rfl (by omega) hA hfit).mono ?_
  rintro e w2 ⟨hb, ⟨x, hx, rfl⟩ | ⟨m, c, y, B, cap, f, _, _, _, _, hc, _⟩⟩
  · rw [rankE_err hs] at hx
    injection hx with hx
    rw [← hx]
    exact ⟨rfl, hb⟩
  · rw [rankE_err hs] at hc; cases hc
/-- Rows of one value. -/
theorem same_both {m n : Nat} {x : Int} (hx : 0 ≤ x) {a b : Nat} (ha : a < n) (hb : b < n) : ∀ k, k ≤ m → bothK (List.replicate m (List.replicate n x)) a b k = k ∧ sameK (List.replicate m (List.replicate n x)) a b k = k
  | 0, _ => ⟨rfl, rfl⟩
  | k + 1, hk => by
    obtain ⟨h1, h2⟩ := same_both (m := m) hx ha hb k (by omega)
    have e : ∀ c, c < n → iA (rwk (List.replicate m (List.replicate n x)) k) c = x := fun c hc => by
      simp [iA, rwk, show k < m by omega, hc]
    have hbt : bothR (List.replicate m (List.replicate n x)) a b k := by
      unfold bothR
      rw [e a ha, e b hb]
      exact ⟨hx, hx⟩
    unfold bothK sameK
    rw [h1, h2, if_pos hbt]
    rw [e a ha, e b hb]
    simp [hbt]
theorem same_share {m n : Nat} {x : Int} (hx : 0 ≤ x) (hm : 1 ≤ m) {a b : Nat} (ha : a < n) (hb : b < n) : shareF (List.replicate m (List.replicate n x)) a b = (1, 1) := by
  unfold shareF
  obtain ⟨h1, h2⟩ := same_both (m := m) hx ha hb m (Nat.le_refl _)
  rw [List.length_replicate, h1, h2, Nat.max_eq_left hm]
  unfold lowF
  simp only [lowN, lowD, Int.toNat_natCast, Nat.gcd_self, Nat.div_self hm]
  rfl
theorem same_ok {m n : Nat} {x : Int} (hx : 0 ≤ x) (hm1 : 1 ≤ m) (hm : m ≤ 256) (hn : n ≤ 24) : sharesE (List.replicate m (List.replicate n x)) = .ok n := by
  have e : ∀ i, i < m → rwk (List.replicate m (List.replicate n x)) i = List.replicate n x := fun i hi => by simp [rwk, hi]
  unfold sharesE
  rw [if_neg, if_neg, e 0 (by omega), List.length_replicate]
  · intro h
    apply h
    intro i hi
    rw [List.length_replicate] at hi
    refine ⟨by rw [e i hi, e 0 (by omega)], ?_⟩
    rw [e i hi, List.any_eq_false]
    intro y hy
    rw [List.eq_of_mem_replicate hy]
    unfold under
    simp
    omega
  · rw [List.length_replicate]
    rintro (h | h)
    · omega
    · rw [List.any_eq_true] at h
      obtain ⟨y, hy, h2⟩ := h
      rw [List.eq_of_mem_replicate hy] at h2
      unfold longL at h2
      simp at h2
      omega
theorem same_many {m n : Nat} {x : Int} (h : 256 < m ∨ (0 < m ∧ 24 < n)) : sharesE (List.replicate m (List.replicate n x)) = .error 12 := by
  unfold sharesE
  rw [if_pos]
  rw [List.length_replicate]
  rcases h with h | ⟨h, h2⟩
  · exact .inl h
  · refine .inr ?_
    rw [List.any_eq_true]
    refine ⟨List.replicate n x, by simp; omega, ?_⟩
    unfold longL
    simp
    omega
end Go.Proofs.YtahgffjkkdbjeaaDoor
