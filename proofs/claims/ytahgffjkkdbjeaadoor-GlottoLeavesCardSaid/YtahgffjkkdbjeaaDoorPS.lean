/- Plain: what a clustering, and a row by distances, become if all distances are multiplied. -/
import Derived.Test.YtahgffjkkdbjeaaDoorZ1
import Derived.Test.YtahgffjkkdbjeaaDoorZ7
import Derived.Test.YtahgffjkkdbjeaaDoorZD
namespace Go.Proofs.YtahgffjkkdbjeaaDoor
open Go.RowKit
/-- Two tables are alike but for a factor. -/
def Prop2 (n α β : Nat) (f1 f2 : Nat → Nat) : Prop := ∀ x y, x < n → y < n → α * f2 (x * 24 + y) = β * f1 (x * 24 + y)
theorem jw_prop {n α β : Nat} {f1 f2 : Nat → Nat} (hn : n ≤ 24) (h : Prop2 n α β f1 f2) {a b : Nat} (ha : a < n) (hb : b < n) : ∀ i, i ≤ 24 → Prop2 n α β (jw f1 a b i) (jw f2 a b i)
  | 0, _ => h
  | i + 1, hi => by
    have ih := jw_prop hn h ha hb i (by omega)
    intro x y hx hy
    rw [jw, jw]
    unfold updN
    by_cases e1 : x * 24 + y = i * 24 + a
    · rw [if_pos e1, if_pos e1, Nat.mul_add, Nat.mul_add, ih a i ha (by omega), ih b i hb (by omega)]
    · rw [if_neg e1, if_neg e1]
      by_cases e2 : x * 24 + y = a * 24 + i
      · rw [if_pos e2, if_pos e2, Nat.mul_add, Nat.mul_add, ih a i ha (by omega), ih b i hb (by omega)]
      · rw [if_neg e2, if_neg e2]
        exact ih x y hx hy
theorem near_prop {n α β : Nat} {f1 f2 : Nat → Nat} (hα : 0 < α) (hβ : 0 < β) (h : Prop2 n α β f1 f2) (s : Nat → Nat) {a b i j : Nat} (ha : a < n) (hb : b < n) (hi : i < n) (hj : j < n) : nearB s f2 a b i j = nearB s f1 a b i j := by
  have e1 := h a b ha hb
  have e2 := h i j hi hj
  unfold nearB
  rw [Bool.eq_iff_iff, decide_eq_true_iff, decide_eq_true_iff]
  have k1 : α * (f2 (a * 24 + b) * cnt s i j) = β * (f1 (a * 24 + b) * cnt s i j) := by rw [← Nat.mul_assoc, e1, Nat.mul_assoc]
  have k2 : α * (f2 (i * 24 + j) * cnt s a b) = β * (f1 (i * 24 + j) * cnt s a b) := by rw [← Nat.mul_assoc, e2, Nat.mul_assoc]
  constructor
  · intro h1
    have := Nat.mul_lt_mul_of_pos_left h1 hα
    rw [k1, k2] at this
    exact Nat.lt_of_mul_lt_mul_left this
  · intro h1
    have := Nat.mul_lt_mul_of_pos_left h1 hβ
    rw [← k1, ← k2] at this
    exact Nat.lt_of_mul_lt_mul_left this
theorem best_prop {n α β : Nat} {f1 f2 : Nat → Nat} (hα : 0 < α) (hβ : 0 < β) (h : Prop2 n α β f1 f2) (s : Nat → Nat) : ∀ (l : List (Nat × Nat)) (o : Option (Nat × Nat)), (∀ p ∈ l, p.1 < n ∧ p.2 < n) → (∀ p, o = some p → p.1 < n ∧ p.2 < n) → l.foldl (stepB s f2) o = l.foldl (stepB s f1) o
  | [], _, _, _ => rfl
  | x :: l, o, hl, ho => by
    have hx := hl x (by simp)
    rw [List.foldl_cons, List.foldl_cons]
    have e : stepB s f2 o x = stepB s f1 o x := by
      cases o with
      | none => rfl
      | some p =>
        have hp := ho p rfl
        simp only [stepB]
        rw [near_prop hα hβ h s hx.1 hx.2 hp.1 hp.2]
    rw [e]
    refine best_prop hα hβ h s l _ (fun p hp => hl p (by simp [hp])) fun p hp => ?_
    cases o with
    | none => simp only [stepB, Option.some.injEq] at hp; rw [← hp]; exact hx
    | some q =>
      simp only [stepB] at hp
      split at hp
      · simp only [Option.some.injEq] at hp; rw [← hp]; exact hx
      · simp only [Option.some.injEq] at hp; rw [← hp]; exact ho q rfl
theorem pick_prop {n α β : Nat} {f1 f2 : Nat → Nat} (hα : 0 < α) (hβ : 0 < β) (h : Prop2 n α β f1 f2) (s : Nat → Nat) : mPick n s f2 = mPick n s f1 := by
  unfold mPick bestP
  rw [best_prop hα hβ h s _ none (fun p hp => ?_) (fun p hp => by cases hp)]
  obtain ⟨h1, _, _, h4, _⟩ := mem_prs.1 hp
  exact ⟨h1, h4⟩
theorem mRun_prop {n α β c1 c2 : Nat} {g1 g2 : Nat → Nat} (hn : n ≤ 24) (hα : 0 < α) (hβ : 0 < β) (hg1 : ∀ t, g1 t ≤ 1073741824) (h : Prop2 n α β g1 g2) : ∀ k, k < n → (mRun n c2 g2 k).s = (mRun n c1 g1 k).s ∧ Prop2 n α β (mRun n c1 g1 k).f (mRun n c2 g2 k).f
  | 0, _ => ⟨rfl, h⟩
  | k + 1, hk => by
    obtain ⟨h1, h2⟩ := mRun_prop hn hα hβ hg1 h k (by omega)
    have hp := pick_prop hα hβ h2 (mRun n c1 g1 k).s
    obtain ⟨_, hm⟩ := mRun_pick (mRun_inv (c := c1) hn hg1 k (by omega)) hk
    obtain ⟨m1, _, _, m4, _⟩ := mem_prs.1 hm
    simp only [mRun]
    rw [h1, hp]
    exact ⟨rfl, jw_prop hn h2 m1 m4 24 (Nat.le_refl _)⟩
theorem mRun_get {n c : Nat} {g : Nat → Nat} (z : Mg) : ∀ (k j : Nat), j < k → (mRun n c g k).l.getD j z = mgOf c (mRun n c g j).s (mRun n c g j).f (mPick n (mRun n c g j).s (mRun n c g j).f)
  | 0, _, h => by omega
  | k + 1, j, h => by
    have hl := mRun_len n c g k
    simp only [mRun]
    rw [List.getD_eq_getElem?_getD]
    by_cases e : j = k
    · subst e
      rw [List.getElem?_append_right (by omega), hl, Nat.sub_self]
      rfl
    · rw [List.getElem?_append_left (by omega), ← List.getD_eq_getElem?_getD]
      exact mRun_get z k j (by omega)
/-- Heights: the one is the other's multiple. -/
theorem low_scale {F1 C1 F2 C2 k : Nat} (h1 : 0 < C1) (h2 : 0 < C2) (h : C1 * F2 = k * C2 * F1) : lowN ((F1 : Int), (C1 : Int)) * k * lowD ((F2 : Int), (C2 : Int)) = lowN ((F2 : Int), (C2 : Int)) * lowD ((F1 : Int), (C1 : Int)) := by
  simp only [lowN, lowD, Int.toNat_natCast]
  have g1 : 0 < Nat.gcd F1 C1 := Nat.gcd_pos_of_pos_right _ h1
  have g2 : 0 < Nat.gcd F2 C2 := Nat.gcd_pos_of_pos_right _ h2
  have a1 := Nat.div_mul_cancel (Nat.gcd_dvd_left F1 C1)
  have a2 := Nat.div_mul_cancel (Nat.gcd_dvd_right F1 C1)
  have a3 := Nat.div_mul_cancel (Nat.gcd_dvd_left F2 C2)
  have a4 := Nat.div_mul_cancel (Nat.gcd_dvd_right F2 C2)
  generalize Nat.gcd F1 C1 = u at *
  generalize Nat.gcd F2 C2 = v at *
  generalize F1 / u = n1 at *
  generalize C1 / u = d1 at *
  generalize F2 / v = n2 at *
  generalize C2 / v = d2 at *
  have key : n1 * k * d2 * (u * v) = n2 * d1 * (u * v) := by
    calc n1 * k * d2 * (u * v) = k * (d2 * v) * (n1 * u) := by
          simp only [Nat.mul_comm, Nat.mul_left_comm, Nat.mul_assoc]
      _ = (d1 * u) * (n2 * v) := by rw [a4, a1, ← h, a2, a3]
      _ = n2 * d1 * (u * v) := by simp only [Nat.mul_comm, Nat.mul_left_comm, Nat.mul_assoc]
  exact Nat.eq_of_mul_eq_mul_right (Nat.mul_pos g1 g2) key
/-- The merges of both are alike but for the heights. -/
theorem mg_alike {n c1 c2 k : Nat} {g1 g2 : Nat → Nat} (hn : n ≤ 24) (hc1 : 0 < c1) (hc2 : 0 < c2) (hk : 0 < k) (hg1 : ∀ t, g1 t ≤ 1073741824) (h : Prop2 n c1 (k * c2) g1 g2) {K i : Nat} (hK : K < n) (hi : i < K) :
    mA (mRun n c2 g2 K).l i = mA (mRun n c1 g1 K).l i ∧ mB (mRun n c2 g2 K).l i = mB (mRun n c1 g1 K).l i ∧ mS (mRun n c2 g2 K).l i = mS (mRun n c1 g1 K).l i ∧
      ∃ p q r s : Nat, mN (mRun n c1 g1 K).l i = p ∧ mD (mRun n c1 g1 K).l i = q ∧ mN (mRun n c2 g2 K).l i = r ∧ mD (mRun n c2 g2 K).l i = s ∧ p * k * s = r * q ∧ p ≤ 9007199254740992 := by
  obtain ⟨h1, h2⟩ := mRun_prop (c1 := c1) (c2 := c2) hn hc1 (Nat.mul_pos hk hc2) hg1 h i (by omega)
  have hp := pick_prop hc1 (Nat.mul_pos hk hc2) h2 (mRun n c1 g1 i).s
  have hinv := mRun_inv (c := c1) hn hg1 i (by omega)
  obtain ⟨_, hm⟩ := mRun_pick hinv (by omega)
  obtain ⟨m1, m2, m3, m4, m5⟩ := mem_prs.1 hm
  unfold mA mB mS mN mD
  rw [mRun_get _ K i hi, mRun_get _ K i hi, h1, hp]
  refine ⟨rfl, rfl, rfl, _, _, _, _, rfl, rfl, rfl, rfl, ?_, ?_⟩
  · have hcnt : 0 < cnt (mRun n c1 g1 i).s (mPick n (mRun n c1 g1 i).s (mRun n c1 g1 i).f).1 (mPick n (mRun n c1 g1 i).s (mRun n c1 g1 i).f).2 := Nat.mul_pos m2 m5
    refine low_scale (Nat.mul_pos hcnt hc1) (Nat.mul_pos hcnt hc2) ?_
    have e := h2 _ _ m1 m4
    rw [Nat.mul_assoc, e]
    simp only [Nat.mul_comm, Nat.mul_left_comm, Nat.mul_assoc]
  · refine Nat.le_trans (Nat.div_le_self _ _) ?_
    rw [Int.toNat_natCast]
    exact hinv.bound (by omega) _
/-- A list of fractions whose first i numerators are multiplied. -/
def mulF (F : Nat → Fr) (k : Int) (i p : Nat) : Fr := if p < i then ((F p).1 * k, (F p).2) else F p
theorem mulF_next (F : Nat → Fr) (k : Int) (i p : Nat) : updF (mulF F k i) i ((F i).1 * k, (F i).2) p = mulF F k (i + 1) p := by
  unfold updF mulF
  by_cases e : p = i
  · subst e; rw [if_pos rfl, if_pos (by omega)]
  · rw [if_neg e]
    by_cases h : p < i
    · rw [if_pos h, if_pos (by omega)]
    · rw [if_neg h, if_neg (by omega)]
def mulL (d : List Fr) (k : Int) : List Fr := d.map fun x => (x.1 * k, x.2)
theorem mulL_at (d : List Fr) (k : Int) (i : Nat) (hi : i < d.length) : fN (mulL d k) i = fN d i * k ∧ fD (mulL d k) i = fD d i := by
  simp [fN, fD, mulL, hi]
theorem mul_good {d : List Fr} {n q m : Nat} (h : GoodD d n q m) {k : Nat} (hk : 1 ≤ k) (hm : m * k ≤ 16777216) : GoodD (mulL d k) n q (m * k) := by
  have hl := h.len
  refine ⟨by simp [mulL, hl], ?_, fun i hi => ?_, fun i hi => ?_, fun a b ha hb => ?_, fun a ha => ?_⟩
  · have := h.one; omega
  · rw [(mulL_at d k i (by omega)).1]
    have := h.num i hi
    refine ⟨Int.mul_nonneg this.1 (by omega), ?_⟩
    have e := Int.mul_le_mul_of_nonneg_right this.2 (show (0 : Int) ≤ k by omega)
    rw [Int.natCast_mul]
    exact e
  · rw [(mulL_at d k i (by omega)).2]; exact h.den i hi
  · have i1 := idxLt ha hb
    have i2 := idxLt hb ha
    rw [(mulL_at d k _ (by omega)).1, (mulL_at d k _ (by omega)).2, (mulL_at d k _ (by omega)).1, (mulL_at d k _ (by omega)).2, (h.sym a b ha hb).1, (h.sym a b ha hb).2]
    exact ⟨rfl, rfl⟩
  · rw [(mulL_at d k _ (by have := idxLt ha ha; omega)).1, h.diag a ha]; simp
/-- The scaled tables of both are alike but for a factor. -/
theorem scale_prop {d : List Fr} {n q m c1 c2 k : Nat} (h : GoodD d n q m) (h1 : ∀ i, i < n * n → scK d c1 i * (fD d i).toNat = (fN d i).toNat * c1) (h2 : ∀ i, i < n * n → scK (mulL d k) c2 i * (fD (mulL d k) i).toNat = (fN (mulL d k) i).toNat * c2)
    {i : Nat} (hi : i < n * n) : c1 * scK (mulL d k) c2 i = k * c2 * scK d c1 i := by
  have a1 := h1 i hi
  have a2 := h2 i hi
  have hl := h.len
  rw [(mulL_at d k i (by omega)).1, (mulL_at d k i (by omega)).2] at a2
  have hN := h.num i hi
  have hD : 0 < (fD d i).toNat := by
    have := h.one
    rcases h.den i hi with e | e <;> omega
  have e : (fN d i * (k : Int)).toNat = (fN d i).toNat * k := by
    obtain ⟨p, hp⟩ : ∃ p : Nat, fN d i = p := ⟨(fN d i).toNat, by omega⟩
    rw [hp, ← Int.natCast_mul, Int.toNat_natCast, Int.toNat_natCast]
  rw [e] at a2
  generalize (fD d i).toNat = D at *
  generalize (fN d i).toNat = N at *
  generalize scK d c1 i = s1 at *
  generalize scK (mulL d k) c2 i = s2 at *
  have key : c1 * s2 * D = k * c2 * s1 * D := by
    rw [Nat.mul_assoc, a2, Nat.mul_assoc (k * c2), a1]
    simp only [Nat.mul_comm, Nat.mul_left_comm, Nat.mul_assoc]
  exact Nat.eq_of_mul_eq_mul_right hD key
/-- A row sorted by the one is sorted by the other. -/
theorem row_prop {d1 d2 : List Fr} {n c1 c2 α β y : Nat} {f : Nat → Nat} (hα : 0 < α) (hβ : 0 < β) (hy : y < n) (h : ∀ z, z < n → α * dist d2 c2 n y z = β * dist d1 c1 n y z) (hr : RkRow d2 c2 n y f) : RkRow d1 c1 n y f := by
  refine ⟨fun p q hp hpq hq => ?_, hr.same⟩
  have h1 := hr.srt p q hp hpq hq
  have e1 := h _ (hr.lt (p := p) (by omega))
  have e2 := h _ (hr.lt (p := q) hq)
  simp only [ltK] at h1 ⊢
  generalize dist d2 c2 n y (f p) = u1 at *
  generalize dist d2 c2 n y (f q) = u2 at *
  generalize dist d1 c1 n y (f p) = v1 at *
  generalize dist d1 c1 n y (f q) = v2 at *
  rcases h1 with h1 | ⟨h1, h2⟩
  · left
    have := Nat.mul_lt_mul_of_pos_left h1 hα
    rw [e1, e2] at this
    exact Nat.lt_of_mul_lt_mul_left this
  · right
    rw [h1] at e1
    exact ⟨Nat.eq_of_mul_eq_mul_left hβ (e1.symm.trans e2), h2⟩
end Go.Proofs.YtahgffjkkdbjeaaDoor
