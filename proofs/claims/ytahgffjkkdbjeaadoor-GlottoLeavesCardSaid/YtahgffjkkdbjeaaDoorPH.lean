/- Plain: the heights of a clustering do not fall; its steps are good; how high they are. -/
import Derived.Test.YtahgffjkkdbjeaaDoorPS
import Derived.Test.YtahgffjkkdbjeaaDoorPJ
namespace Go.Proofs.YtahgffjkkdbjeaaDoor
open Go.RowKit
/-- Fractions p/q ≤ r/s: by cross products; the middle one's denominator is not 0. -/
theorem cross_trans {a x b y c z : Nat} (hy : 0 < y) (h1 : a * y ≤ b * x) (h2 : b * z ≤ c * y) : a * z ≤ c * x := by
  have h3 : a * y * z ≤ b * x * z := Nat.mul_le_mul_right _ h1
  have h4 : b * z * x ≤ c * y * x := Nat.mul_le_mul_right _ h2
  have h5 : a * z * y ≤ c * x * y := by
    have e1 : a * z * y = a * y * z := by rw [Nat.mul_assoc, Nat.mul_comm z y, ← Nat.mul_assoc]
    have e2 : b * x * z = b * z * x := by rw [Nat.mul_assoc, Nat.mul_comm x z, ← Nat.mul_assoc]
    have e3 : c * y * x = c * x * y := by rw [Nat.mul_assoc, Nat.mul_comm y x, ← Nat.mul_assoc]
    omega
  exact Nat.le_of_mul_le_mul_right h5 hy
/-- The best pair is least. -/
theorem bestP_foldl {s f : Nat → Nat} : ∀ (l : List (Nat × Nat)) (o : Option (Nat × Nat)) (p : Nat × Nat), (∀ q ∈ l, 0 < cnt s q.1 q.2) → (∀ q, o = some q → 0 < cnt s q.1 q.2) → l.foldl (stepB s f) o = some p →
    (∀ q, (q ∈ l ∨ o = some q) → f (p.1 * 24 + p.2) * cnt s q.1 q.2 ≤ f (q.1 * 24 + q.2) * cnt s p.1 p.2)
  | [], o, p, _, _, h, q, hq => by
    rcases hq with hq | hq
    · cases hq
    · rw [List.foldl_nil] at h
      rw [h] at hq; cases hq; exact Nat.le_refl _
  | x :: l, o, p, hl, ho, h, q, hq => by
    rw [List.foldl_cons] at h
    have hx := hl x List.mem_cons_self
    have hs : ∃ y, stepB s f o x = some y ∧ 0 < cnt s y.1 y.2 ∧ f (y.1 * 24 + y.2) * cnt s x.1 x.2 ≤ f (x.1 * 24 + x.2) * cnt s y.1 y.2 ∧ ∀ z, o = some z → f (y.1 * 24 + y.2) * cnt s z.1 z.2 ≤ f (z.1 * 24 + z.2) * cnt s y.1 y.2 := by
      cases o with
      | none => exact ⟨x, rfl, hx, Nat.le_refl _, fun z h => by cases h⟩
      | some w =>
        have hw := ho w rfl
        by_cases hn : nearB s f x.1 x.2 w.1 w.2 = true
        · refine ⟨x, by simp only [stepB]; rw [if_pos hn], hx, Nat.le_refl _, fun z h => ?_⟩
          cases h
          unfold nearB at hn
          exact Nat.le_of_lt (of_decide_eq_true hn)
        · refine ⟨w, by simp only [stepB]; rw [if_neg hn], hw, ?_, fun z h => by cases h; exact Nat.le_refl _⟩
          unfold nearB at hn
          simp only [decide_eq_true_eq] at hn
          omega
    obtain ⟨y, h1, h2, h3, h4⟩ := hs
    rw [h1] at h
    have ih := bestP_foldl l (some y) p (fun q hq => hl q (List.mem_cons_of_mem _ hq)) (fun q e => by cases e; exact h2) h
    have hy := ih y (.inr rfl)
    rcases hq with hq | hq
    · rcases List.mem_cons.1 hq with rfl | hq
      · exact cross_trans h2 hy h3
      · exact ih q (.inl hq)
    · exact cross_trans h2 hy (h4 q hq)
/-- A table of sums of distances between clusters. -/
structure HInv (n G : Nat) (s f : Nat → Nat) : Prop where
  sym : ∀ a b, a < n → b < n → f (a * 24 + b) = f (b * 24 + a)
  top : ∀ a b, a < n → b < n → a ≠ b → 0 < s a → 0 < s b → f (a * 24 + b) ≤ G * (s a * s b)
/-- A pair that is least of all. -/
def LeastP (n : Nat) (s f : Nat → Nat) (A B : Nat) : Prop := ∀ x y, x < n → y < n → x ≠ y → 0 < s x → 0 < s y → f (A * 24 + B) * (s x * s y) ≤ f (x * 24 + y) * (s A * s B)
theorem least_of {n G k c : Nat} {g : Nat → Nat} (hi : MInv n k (mRun n c g k).s (mRun n c g k).f) (hh : HInv n G (mRun n c g k).s (mRun n c g k).f) (hk : k + 1 < n) :
    LeastP n (mRun n c g k).s (mRun n c g k).f (mPick n (mRun n c g k).s (mRun n c g k).f).1 (mPick n (mRun n c g k).s (mRun n c g k).f).2 := by
  obtain ⟨h1, h2⟩ := mRun_pick hi hk
  have hpos : ∀ q ∈ prs (mRun n c g k).s n n, 0 < cnt (mRun n c g k).s q.1 q.2 := fun q hq => by
    obtain ⟨_, a2, _, _, a5⟩ := mem_prs.1 hq
    exact Nat.mul_pos a2 a5
  have h3 := bestP_foldl _ none _ hpos (fun q e => by cases e) h1
  intro x y hx hy hne sx sy
  rcases Nat.lt_or_gt_of_ne hne with h | h
  · exact h3 (x, y) (.inl (mem_prs.2 ⟨hx, sx, h, hy, sy⟩))
  · have h4 := h3 (y, x) (.inl (mem_prs.2 ⟨hy, sy, h, hx, sx⟩))
    rw [hh.sym x y hx hy]
    unfold cnt at h4
    rw [Nat.mul_comm ((mRun n c g k).s x)]
    exact h4
/-- What a join does to sizes and table. -/
theorem join_at {n : Nat} {s f : Nat → Nat} {A B : Nat} (hn : n ≤ 24) (hAB : A < B) (hB : B < n) :
    joinS s A B A = s A + s B ∧ joinS s A B B = 0 ∧ (∀ x, x ≠ A → x ≠ B → joinS s A B x = s x) ∧ (∀ z, z < n → z ≠ A → jw f A B 24 (A * 24 + z) = f (A * 24 + z) + f (B * 24 + z) ∧ jw f A B 24 (z * 24 + A) = f (A * 24 + z) + f (B * 24 + z)) ∧ (∀ x y, x < n → y < n → x ≠ A → y ≠ A → jw f A B 24 (x * 24 + y) = f (x * 24 + y)) := by
  refine ⟨?_, ?_, fun x h1 h2 => ?_, fun z hz hza => jw_new f (by omega) (by omega) hza hAB 24 (Nat.le_refl _) (by omega), fun x y hx hy h1 h2 => jw_other f (by omega) (by omega) h1 h2 24 (Nat.le_refl _)⟩
  · unfold joinS; rw [updN_other _ _ (by omega), updN_same]
  · unfold joinS; rw [updN_same]
  · unfold joinS; rw [updN_other _ _ h2, updN_other _ _ h1]
theorem HInv.next {n G : Nat} {s f : Nat → Nat} (h : HInv n G s f) {A B : Nat} (hn : n ≤ 24) (hAB : A < B) (hB : B < n) (hA0 : 0 < s A) (hB0 : 0 < s B) : HInv n G (joinS s A B) (jw f A B 24) := by
  obtain ⟨j1, j2, j3, j4, j5⟩ := join_at (s := s) (f := f) hn hAB hB
  have hA : A < n := by omega
  have top1 : ∀ z, z < n → z ≠ A → 0 < joinS s A B z → f (A * 24 + z) + f (B * 24 + z) ≤ G * ((s A + s B) * s z) := by
    intro z hz hza hz0
    have hzb : z ≠ B := fun e => by rw [e, j2] at hz0; omega
    rw [j3 z hza hzb] at hz0
    have t1 := h.top A z hA hz (Ne.symm hza) hA0 hz0
    have t2 := h.top B z hB hz (Ne.symm hzb) hB0 hz0
    rw [Nat.add_mul, Nat.mul_add]
    omega
  refine ⟨fun a b ha hb => ?_, fun a b ha hb hne sa sb => ?_⟩
  · by_cases ea : a = A
    · by_cases eb : b = A
      · rw [ea, eb]
      · rw [ea, (j4 b hb eb).1, (j4 b hb eb).2]
    · by_cases eb : b = A
      · rw [eb, (j4 a ha ea).1, (j4 a ha ea).2]
      · rw [j5 a b ha hb ea eb, j5 b a hb ha eb ea, h.sym a b ha hb]
  · by_cases ea : a = A
    · have eb : b ≠ A := fun e => hne (ea.trans e.symm)
      have hzb : b ≠ B := fun e => by rw [e, j2] at sb; omega
      rw [ea, (j4 b hb eb).1, j1, j3 b eb hzb]
      exact top1 b hb eb sb
    · have hzb : a ≠ B := fun e => by rw [e, j2] at sa; omega
      by_cases eb : b = A
      · rw [eb, (j4 a ha ea).2, j1, j3 a ea hzb, Nat.mul_comm (s a)]
        exact top1 a ha ea sa
      · have hzb2 : b ≠ B := fun e => by rw [e, j2] at sb; omega
        rw [j5 a b ha hb ea eb, j3 a ea hzb, j3 b eb hzb2]
        rw [j3 a ea hzb] at sa
        rw [j3 b eb hzb2] at sb
        exact h.top a b ha hb hne sa sb
/-- After a least pair is joined, no pair is nearer than it was. -/
theorem LeastP.next {n G : Nat} {s f : Nat → Nat} (hh : HInv n G s f) {A B : Nat} (h : LeastP n s f A B) (hn : n ≤ 24) (hAB : A < B) (hB : B < n) (hA0 : 0 < s A) (hB0 : 0 < s B) {x y : Nat} (hx : x < n) (hy : y < n) (hne : x ≠ y) (sx : 0 < joinS s A B x) (sy : 0 < joinS s A B y) :
    f (A * 24 + B) * (joinS s A B x * joinS s A B y) ≤ jw f A B 24 (x * 24 + y) * (s A * s B) := by
  obtain ⟨j1, j2, j3, j4, j5⟩ := join_at (s := s) (f := f) hn hAB hB
  have hA : A < n := by omega
  have one : ∀ z, z < n → z ≠ A → 0 < joinS s A B z → f (A * 24 + B) * ((s A + s B) * s z) ≤ (f (A * 24 + z) + f (B * 24 + z)) * (s A * s B) := by
    intro z hz hza hz0
    have hzb : z ≠ B := fun e => by rw [e, j2] at hz0; omega
    rw [j3 z hza hzb] at hz0
    have t1 := h A z hA hz (Ne.symm hza) hA0 hz0
    have t2 := h B z hB hz (Ne.symm hzb) hB0 hz0
    rw [Nat.add_mul, Nat.mul_add, Nat.add_mul]
    omega
  by_cases ea : x = A
  · have eb : y ≠ A := fun e => hne (ea.trans e.symm)
    have hzb : y ≠ B := fun e => by rw [e, j2] at sy; omega
    rw [ea, (j4 y hy eb).1, j1, j3 y eb hzb]
    exact one y hy eb sy
  · have hzb : x ≠ B := fun e => by rw [e, j2] at sx; omega
    by_cases eb : y = A
    · rw [eb, (j4 x hx ea).2, j1, j3 x ea hzb, Nat.mul_comm (s x)]
      exact one x hx ea sx
    · have hzb2 : y ≠ B := fun e => by rw [e, j2] at sy; omega
      rw [j5 x y hx hy ea eb, j3 x ea hzb, j3 y eb hzb2]
      rw [j3 x ea hzb] at sx
      rw [j3 y eb hzb2] at sy
      exact h x y hx hy hne sx sy
section
variable {n c G : Nat} {g : Nat → Nat}
/-- The table that a clustering starts from. -/
structure Start (n c G : Nat) (g : Nat → Nat) : Prop where
  n1 : 1 ≤ n
  n24 : n ≤ 24
  c1 : 1 ≤ c
  bd : ∀ t, g t ≤ 1073741824
  sym : ∀ i j, i < n → j < n → g (i * 24 + j) = g (j * 24 + i)
  top : ∀ i j, i < n → j < n → i ≠ j → g (i * 24 + j) ≤ G
def mA' (n c : Nat) (g : Nat → Nat) (k : Nat) : Nat := (mPick n (mRun n c g k).s (mRun n c g k).f).1
def mB' (n c : Nat) (g : Nat → Nat) (k : Nat) : Nat := (mPick n (mRun n c g k).s (mRun n c g k).f).2
theorem Start.pick (h : Start n c G g) {k : Nat} (hk : k + 1 < n) : mA' n c g k < mB' n c g k ∧ mB' n c g k < n ∧ 0 < (mRun n c g k).s (mA' n c g k) ∧ 0 < (mRun n c g k).s (mB' n c g k) := by
  obtain ⟨_, h2⟩ := mRun_pick (mRun_inv (c := c) h.n24 h.bd k (by omega)) hk
  obtain ⟨_, a2, a3, a4, a5⟩ := mem_prs.1 h2
  exact ⟨a3, a4, a2, a5⟩
theorem Start.hinv (h : Start n c G g) : ∀ k, k < n → HInv n G (mRun n c g k).s (mRun n c g k).f
  | 0, _ => ⟨fun a b ha hb => h.sym a b ha hb, fun a b ha hb hne _ _ => by
      show g (a * 24 + b) ≤ G * (aloneS n a * aloneS n b)
      rw [show aloneS n a = 1 from if_pos ha, show aloneS n b = 1 from if_pos hb]
      have := h.top a b ha hb hne
      omega⟩
  | k + 1, hk => by
    obtain ⟨p1, p2, p3, p4⟩ := h.pick hk
    exact (h.hinv k (by omega)).next h.n24 p1 p2 p3 p4
theorem Start.least (h : Start n c G g) {k : Nat} (hk : k + 1 < n) : LeastP n (mRun n c g k).s (mRun n c g k).f (mA' n c g k) (mB' n c g k) :=
  least_of (mRun_inv (c := c) h.n24 h.bd k (by omega)) (h.hinv k (by omega)) hk
/-- A step's height, not in lowest terms. -/
def hP (n c : Nat) (g : Nat → Nat) (k : Nat) : Nat := (mRun n c g k).f (mA' n c g k * 24 + mB' n c g k)
def hQ (n c : Nat) (g : Nat → Nat) (k : Nat) : Nat := cnt (mRun n c g k).s (mA' n c g k) (mB' n c g k) * c
theorem Start.rise (h : Start n c G g) {k : Nat} (hk : k + 2 < n) : hP n c g k * hQ n c g (k + 1) ≤ hP n c g (k + 1) * hQ n c g k := by
  obtain ⟨p1, p2, p3, p4⟩ := h.pick (show k + 1 < n by omega)
  obtain ⟨q1, q2, q3, q4⟩ := h.pick hk
  have h1 := (h.least (show k + 1 < n by omega)).next (h.hinv k (by omega)) h.n24 p1 p2 p3 p4 (show mA' n c g (k + 1) < n by omega) q2 (by omega) q3 q4
  have h2 : hP n c g k * cnt (mRun n c g (k + 1)).s (mA' n c g (k + 1)) (mB' n c g (k + 1)) ≤ hP n c g (k + 1) * cnt (mRun n c g k).s (mA' n c g k) (mB' n c g k) := h1
  unfold hQ
  rw [← Nat.mul_assoc, ← Nat.mul_assoc]
  exact Nat.mul_le_mul_right _ h2
theorem Start.qpos (h : Start n c G g) {k : Nat} (hk : k + 1 < n) : 0 < hQ n c g k := by
  obtain ⟨p1, p2, p3, p4⟩ := h.pick hk
  exact Nat.mul_pos (Nat.mul_pos p3 p4) h.c1
theorem Start.hbd (h : Start n c G g) {k : Nat} (hk : k + 1 < n) : hP n c g k ≤ G * 576 ∧ hQ n c g k ≤ 576 * c := by
  obtain ⟨p1, p2, p3, p4⟩ := h.pick hk
  have hi := mRun_inv (c := c) h.n24 h.bd k (by omega)
  have h1 := (h.hinv k (by omega)).top _ _ (show mA' n c g k < n by omega) p2 (by omega) p3 p4
  have h2 : cnt (mRun n c g k).s (mA' n c g k) (mB' n c g k) ≤ 576 := cnt_le (fun a => Nat.le_trans (hi.le a) h.n24) _ _
  exact ⟨Nat.le_trans h1 (Nat.mul_le_mul_left _ h2), Nat.mul_le_mul_right _ h2⟩
/-- The first step joins the two nearest languages. -/
theorem Start.first (h : Start n c G g) (hn : 1 < n) {i j : Nat} (hi : i < n) (hj : j < n) (hne : i ≠ j) : hP n c g 0 * c ≤ g (i * 24 + j) * hQ n c g 0 := by
  have h1 := (h.least (k := 0) (by omega)) i j hi hj hne (by show 0 < aloneS n i; unfold aloneS; rw [if_pos hi]; omega) (by show 0 < aloneS n j; unfold aloneS; rw [if_pos hj]; omega)
  have e1 : (mRun n c g 0).s i = 1 := if_pos hi
  have e2 : (mRun n c g 0).s j = 1 := if_pos hj
  rw [e1, e2] at h1
  unfold hP hQ cnt
  rw [← Nat.mul_assoc]
  have h3 : (mRun n c g 0).f (i * 24 + j) = g (i * 24 + j) := rfl
  rw [h3] at h1
  exact Nat.mul_le_mul_right _ (by omega)
/-- The list of the steps. -/
theorem mRun_at {K k : Nat} (hk : k < K) : mA (mRun n c g K).l k = mA' n c g k ∧ mB (mRun n c g K).l k = mB' n c g k ∧ mN (mRun n c g K).l k = (lowN ((hP n c g k : Int), (hQ n c g k : Int)) : Int) ∧ mD (mRun n c g K).l k = (lowD ((hP n c g k : Int), (hQ n c g k : Int)) : Int) ∧ mS (mRun n c g K).l k = (((mRun n c g k).s (mA' n c g k) + (mRun n c g k).s (mB' n c g k) : Nat) : Int) := by
  unfold mA mB mN mD mS
  rw [mRun_get _ K k hk]
  exact ⟨rfl, rfl, rfl, rfl, rfl⟩
theorem stS_run {K : Nat} : ∀ k, k ≤ K → stS n (mRun n c g K).l k = (mRun n c g k).s
  | 0, _ => rfl
  | k + 1, hk => by
    obtain ⟨h1, h2, _⟩ := mRun_at (n := n) (c := c) (g := g) (show k < K by omega)
    show joinS (stS n (mRun n c g K).l k) (mA (mRun n c g K).l k).toNat (mB (mRun n c g K).l k).toNat = _
    rw [stS_run k (by omega), h1, h2, Int.toNat_natCast, Int.toNat_natCast]
    rfl
theorem low_bd (p q : Nat) (hq : 0 < q) : lowN ((p : Int), (q : Int)) ≤ p ∧ lowD ((p : Int), (q : Int)) ≤ q ∧ 1 ≤ lowD ((p : Int), (q : Int)) := by
  simp only [lowN, lowD, Int.toNat_natCast]
  have g1 : 0 < Nat.gcd p q := Nat.gcd_pos_of_pos_right _ hq
  exact ⟨Nat.div_le_self _ _, Nat.div_le_self _ _, Nat.div_pos (Nat.le_of_dvd hq (Nat.gcd_dvd_right p q)) g1⟩
theorem Start.steps (h : Start n c G g) : StepsOk n (mRun n c g (n - 1)).l := by
  have hn := h.n1
  refine ⟨by rw [mRun_len]; omega, fun k hk => ?_⟩
  rw [mRun_len] at hk
  obtain ⟨h1, h2, h3, h4, h5⟩ := mRun_at (n := n) (c := c) (g := g) hk
  obtain ⟨p1, p2, p3, p4⟩ := h.pick (show k + 1 < n by omega)
  have hl := low_bd (hP n c g k) (hQ n c g k) (h.qpos (by omega))
  unfold StepOk
  rw [h1, h2, h3, h4, h5, stS_run k (by omega), Int.toNat_natCast, Int.toNat_natCast]
  exact ⟨by omega, by omega, by omega, by omega, by omega, rfl, by omega, by omega⟩
end
end Go.Proofs.YtahgffjkkdbjeaaDoor
