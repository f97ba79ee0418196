/- Plain: ultrametric distances come back from their clustering. -/
import Derived.Test.YtahgffjkkdbjeaaDoorPI
namespace Go.Proofs.YtahgffjkkdbjeaaDoor
open Go.RowKit
theorem low_mul {p q x c : Nat} (hq : 0 < q) (h : p * c = x * q) : lowN ((p : Int), (q : Int)) * c = x * lowD ((p : Int), (q : Int)) := by
  simp only [lowN, lowD, Int.toNat_natCast]
  have g1 : 0 < Nat.gcd p q := Nat.gcd_pos_of_pos_right _ hq
  have e1 := Nat.div_mul_cancel (Nat.gcd_dvd_left p q)
  have e2 := Nat.div_mul_cancel (Nat.gcd_dvd_right p q)
  generalize p / Nat.gcd p q = a at *
  generalize q / Nat.gcd p q = b at *
  generalize Nat.gcd p q = u at *
  subst e1 e2
  apply Nat.eq_of_mul_eq_mul_right g1
  rw [Nat.mul_assoc x, ← h, Nat.mul_right_comm]
/-- Two clusters that are nearest to each other are equally far from all others. -/
theorem cl_alike {n A B : Nat} {s f g ls : Nat → Nat} (hAB : A < B) (hB : B < n) (hA0 : 0 < s A) (hB0 : 0 < s B) (hle : LeastP n s f A B) (hsym : ∀ i j, i < n → j < n → g (i * 24 + j) = g (j * 24 + i))
    (hu : ∀ a b x, a < n → b < n → x < n → g (a * 24 + b) ≤ max (g (a * 24 + x)) (g (b * 24 + x))) (lt : ∀ a, a < n → ls a < n) (live : ∀ a, a < n → 0 < s (ls a))
    (tab : ∀ a b, a < n → b < n → ls a ≠ ls b → f (ls a * 24 + ls b) = s (ls a) * s (ls b) * g (a * 24 + b)) {a b x : Nat} (ha : a < n) (hb : b < n) (hx : x < n) (ea : ls a = A) (eb : ls b = B) (xa : ls x ≠ A) (xb : ls x ≠ B) : g (a * 24 + x) = g (b * 24 + x) := by
  have t0 := tab a b ha hb (by omega)
  have t1 := tab a x ha hx (by omega)
  have t2 := tab b x hb hx (by omega)
  have l1 := hle A (ls x) (by omega) (lt x hx) (Ne.symm xa) hA0 (live x hx)
  have l2 := hle B (ls x) hB (lt x hx) (Ne.symm xb) hB0 (live x hx)
  rw [ea, eb] at t0
  rw [ea] at t1
  rw [eb] at t2
  rw [t0, t1] at l1
  rw [t0, t2] at l2
  have pz := live x hx
  have g1 : g (a * 24 + b) ≤ g (a * 24 + x) := by
    have : s A * s B * (s A * s (ls x)) * g (a * 24 + b) ≤ s A * s B * (s A * s (ls x)) * g (a * 24 + x) := by
      have e1 : s A * s B * g (a * 24 + b) * (s A * s (ls x)) = s A * s B * (s A * s (ls x)) * g (a * 24 + b) := by rw [Nat.mul_right_comm]
      have e2 : s A * s (ls x) * g (a * 24 + x) * (s A * s B) = s A * s B * (s A * s (ls x)) * g (a * 24 + x) := by rw [Nat.mul_right_comm, Nat.mul_comm (s A * s B)]
      omega
    exact Nat.le_of_mul_le_mul_left this (Nat.mul_pos (Nat.mul_pos hA0 hB0) (Nat.mul_pos hA0 pz))
  have g2 : g (a * 24 + b) ≤ g (b * 24 + x) := by
    have : s A * s B * (s B * s (ls x)) * g (a * 24 + b) ≤ s A * s B * (s B * s (ls x)) * g (b * 24 + x) := by
      have e1 : s A * s B * g (a * 24 + b) * (s B * s (ls x)) = s A * s B * (s B * s (ls x)) * g (a * 24 + b) := by rw [Nat.mul_right_comm]
      have e2 : s B * s (ls x) * g (b * 24 + x) * (s A * s B) = s A * s B * (s B * s (ls x)) * g (b * 24 + x) := by rw [Nat.mul_right_comm, Nat.mul_comm (s A * s B)]
      omega
    exact Nat.le_of_mul_le_mul_left this (Nat.mul_pos (Nat.mul_pos hA0 hB0) (Nat.mul_pos hB0 pz))
  have u1 := hu a x b ha hx hb
  have u2 := hu b x a hb hx ha
  have s1 := hsym x b hx hb
  have s2 := hsym x a hx ha
  have s3 := hsym b a hb ha
  omega
theorem cl_sum {n A B : Nat} {s f g ls : Nat → Nat} (hAB : A < B) (hB : B < n) (hA0 : 0 < s A) (hB0 : 0 < s B) (hle : LeastP n s f A B) (hsym : ∀ i j, i < n → j < n → g (i * 24 + j) = g (j * 24 + i))
    (hu : ∀ a b x, a < n → b < n → x < n → g (a * 24 + b) ≤ max (g (a * 24 + x)) (g (b * 24 + x))) (lt : ∀ a, a < n → ls a < n) (live : ∀ a, a < n → 0 < s (ls a)) (own : ∀ a, a < n → 0 < s a → ls a = a)
    (tab : ∀ a b, a < n → b < n → ls a ≠ ls b → f (ls a * 24 + ls b) = s (ls a) * s (ls b) * g (a * 24 + b)) {a x : Nat} (ha : a < n) (hx : x < n) (ea : ls a = A ∨ ls a = B) (xa : ls x ≠ A) (xb : ls x ≠ B) : f (A * 24 + ls x) + f (B * 24 + ls x) = (s A + s B) * s (ls x) * g (a * 24 + x) := by
  have hA : A < n := by omega
  have oA := own A hA hA0
  have oB := own B hB hB0
  have tA := tab A x hA hx (by omega)
  have tB := tab B x hB hx (by omega)
  rw [oA] at tA
  rw [oB] at tB
  have al := fun (u v : Nat) (hu' : u < n) (hv : v < n) (e1 : ls u = A) (e2 : ls v = B) => cl_alike hAB hB hA0 hB0 hle hsym hu lt live tab hu' hv hx e1 e2 xa xb
  rcases ea with ea | ea
  · have e1 := al a B ha hB ea oB
    have e2 := al A B hA hB oA oB
    rw [tA, tB, ← e1, e2, ← e1, Nat.add_mul, Nat.add_mul]
  · have e1 := al A a hA ha oA ea
    have e2 := al A B hA hB oA oB
    rw [tA, tB, ← e2, e1, Nat.add_mul, Nat.add_mul]
theorem cl_tab {n A B : Nat} {s f g ls : Nat → Nat} (hn : n ≤ 24) (hAB : A < B) (hB : B < n) (hA0 : 0 < s A) (hB0 : 0 < s B) (hle : LeastP n s f A B) (hsym : ∀ i j, i < n → j < n → g (i * 24 + j) = g (j * 24 + i))
    (hu : ∀ a b x, a < n → b < n → x < n → g (a * 24 + b) ≤ max (g (a * 24 + x)) (g (b * 24 + x))) (lt : ∀ a, a < n → ls a < n) (live : ∀ a, a < n → 0 < s (ls a)) (own : ∀ a, a < n → 0 < s a → ls a = a)
    (tab : ∀ a b, a < n → b < n → ls a ≠ ls b → f (ls a * 24 + ls b) = s (ls a) * s (ls b) * g (a * 24 + b)) {a b : Nat} (ha : a < n) (hb : b < n) (hne : (if ls a = B then A else ls a) ≠ (if ls b = B then A else ls b)) :
    jw f A B 24 ((if ls a = B then A else ls a) * 24 + (if ls b = B then A else ls b)) = joinS s A B (if ls a = B then A else ls a) * joinS s A B (if ls b = B then A else ls b) * g (a * 24 + b) := by
  obtain ⟨j1, j2, j3, j4, j5⟩ := join_at (s := s) (f := f) hn hAB hB
  have sum := fun (a x : Nat) (ha : a < n) (hx : x < n) (ea : ls a = A ∨ ls a = B) (xa : ls x ≠ A) (xb : ls x ≠ B) => cl_sum hAB hB hA0 hB0 hle hsym hu lt live own tab ha hx ea xa xb
  have la := lt a ha
  have lb := lt b hb
  by_cases ea : ls a = A ∨ ls a = B
  · have ea' : (if ls a = B then A else ls a) = A := by split <;> omega
    rw [ea'] at hne ⊢
    have xb : ls b ≠ B := by intro e; rw [if_pos e] at hne; exact hne rfl
    rw [if_neg xb] at hne ⊢
    have xa : ls b ≠ A := Ne.symm hne
    rw [(j4 _ lb xa).1, j1, j3 _ xa xb]
    exact sum a b ha hb ea xa xb
  · have xa : ls a ≠ A := fun e => ea (.inl e)
    have xb : ls a ≠ B := fun e => ea (.inr e)
    rw [if_neg xb] at hne ⊢
    by_cases eb : ls b = A ∨ ls b = B
    · have eb' : (if ls b = B then A else ls b) = A := by split <;> omega
      rw [eb'] at hne ⊢
      rw [(j4 _ la xa).2, j1, j3 _ xa xb, hsym a b ha hb, Nat.mul_comm (s (ls a))]
      exact sum b a hb ha eb xa xb
    · have ya : ls b ≠ A := fun e => eb (.inl e)
      have yb : ls b ≠ B := fun e => eb (.inr e)
      rw [if_neg yb] at hne ⊢
      rw [j5 _ _ la lb xa ya, j3 _ xa xb, j3 _ ya yb]
      exact tab a b ha hb hne
section
variable {n c G : Nat} {g : Nat → Nat}
/-- A table between clusters that comes of ultrametric distances, and what is joined already. -/
structure CInv (n c : Nat) (g : Nat → Nat) (k : Nat) : Prop where
  tab : ∀ a b, a < n → b < n → lsK (mRun n c g (n - 1)).l k a ≠ lsK (mRun n c g (n - 1)).l k b → (mRun n c g k).f (lsK (mRun n c g (n - 1)).l k a * 24 + lsK (mRun n c g (n - 1)).l k b) = (mRun n c g k).s (lsK (mRun n c g (n - 1)).l k a) * (mRun n c g k).s (lsK (mRun n c g (n - 1)).l k b) * g (a * 24 + b)
  jn : ∀ a b, a < n → b < n → a ≠ b → lsK (mRun n c g (n - 1)).l k a = lsK (mRun n c g (n - 1)).l k b → ∃ p q : Nat, jnK (mRun n c g (n - 1)).l k a b = ((p : Int), (q : Int)) ∧ 1 ≤ q ∧ p * c = g (a * 24 + b) * q
theorem Start.cstart (h : Start n c G g) : CInv n c g 0 := by
  refine ⟨fun a b ha hb _ => ?_, fun a b _ _ hne e => absurd e hne⟩
  show g (a * 24 + b) = aloneS n a * aloneS n b * g (a * 24 + b)
  rw [show aloneS n a = 1 from if_pos ha, show aloneS n b = 1 from if_pos hb, Nat.one_mul]
theorem Start.cnext (h : Start n c G g) (hu : ∀ a b x, a < n → b < n → x < n → g (a * 24 + b) ≤ max (g (a * 24 + x)) (g (b * 24 + x))) {k : Nat} (hk : k + 1 < n) (hi : CInv n c g k) : CInv n c g (k + 1) := by
  obtain ⟨p1, p2, p3, p4⟩ := h.pick hk
  have hle := h.least hk
  have hjh := h.jH hk
  have hqp := h.qpos hk
  obtain ⟨e1, e2, _⟩ := mRun_at (n := n) (c := c) (g := g) (show k < n - 1 by omega)
  have eA : aN (mRun n c g (n - 1)).l k = mA' n c g k := by unfold aN; rw [e1, Int.toNat_natCast]
  have eB : bN (mRun n c g (n - 1)).l k = mB' n c g k := by unfold bN; rw [e2, Int.toNat_natCast]
  have hI := lsI (n := n) (l := (mRun n c g (n - 1)).l) k (fun i hi => h.oks i (by omega))
  have live : ∀ a, a < n → 0 < (mRun n c g k).s (lsK (mRun n c g (n - 1)).l k a) := fun a ha => by
    have := hI.live a ha
    rwa [stS_run k (by omega)] at this
  have own : ∀ a, a < n → 0 < (mRun n c g k).s a → lsK (mRun n c g (n - 1)).l k a = a := fun a ha h0 => hI.own a ha (by rw [stS_run k (by omega)]; exact h0)
  have el : ∀ a, lsK (mRun n c g (n - 1)).l (k + 1) a = if lsK (mRun n c g (n - 1)).l k a = mB' n c g k then mA' n c g k else lsK (mRun n c g (n - 1)).l k a := fun a => by rw [← eA, ← eB]; rfl
  have ej : ∀ a b, jnK (mRun n c g (n - 1)).l (k + 1) a b = if JnS (mRun n c g (n - 1)).l k a b then Go.Proofs.YtahgffjkkdbjeaaDoor.jH (mRun n c g (n - 1)).l k else jnK (mRun n c g (n - 1)).l k a b := fun a b => rfl
  refine ⟨fun a b ha hb hne => ?_, fun a b ha hb hne heq => ?_⟩
  · rw [el, el] at hne ⊢
    exact cl_tab h.n24 p1 p2 p3 p4 hle h.sym hu hI.lt live own hi.tab ha hb hne
  · rw [el, el] at heq
    rw [ej]
    by_cases hj : JnS (mRun n c g (n - 1)).l k a b
    · rw [if_pos hj, hjh]
      have hl := low_bd (hP n c g k) (hQ n c g k) hqp
      refine ⟨_, _, rfl, hl.2.2, low_mul hqp ?_⟩
      have hpq : hP n c g k = (mRun n c g k).s (mA' n c g k) * (mRun n c g k).s (mB' n c g k) * g (a * 24 + b) := by
        unfold JnS at hj
        rw [eA, eB] at hj
        rcases hj with ⟨q1, q2⟩ | ⟨q1, q2⟩
        · have := hi.tab a b ha hb (by omega)
          rw [q1, q2] at this
          exact this
        · have := hi.tab b a hb ha (by omega)
          rw [q1, q2] at this
          rw [h.sym a b ha hb]
          exact this
      rw [hpq]
      show _ * c = _ * ((mRun n c g k).s (mA' n c g k) * (mRun n c g k).s (mB' n c g k) * c)
      rw [Nat.mul_comm _ (g (a * 24 + b)), Nat.mul_assoc]
    · rw [if_neg hj]
      refine hi.jn a b ha hb hne ?_
      unfold JnS at hj
      rw [eA, eB] at hj
      split at heq <;> split at heq <;> omega
theorem Start.cinv (h : Start n c G g) (hu : ∀ a b x, a < n → b < n → x < n → g (a * 24 + b) ≤ max (g (a * 24 + x)) (g (b * 24 + x))) : ∀ k, k + 1 ≤ n → CInv n c g k
  | 0, _ => h.cstart
  | k + 1, hk => h.cnext hu hk (h.cinv hu k (by omega))
/-- The joined table has the distances. -/
theorem Start.clock (h : Start n c G g) (hu : ∀ a b x, a < n → b < n → x < n → g (a * 24 + b) ≤ max (g (a * 24 + x)) (g (b * 24 + x))) {a b : Nat} (ha : a < n) (hb : b < n) (hd : a = b → g (a * 24 + b) = 0) : ∃ p q : Nat, jR n c g a b = ((p : Int), (q : Int)) ∧ 1 ≤ q ∧ p * c = g (a * 24 + b) * q := by
  by_cases e : a = b
  · have e1 := h.jdiag a
    rw [← e] at hd ⊢
    refine ⟨0, 1, e1, Nat.le_refl _, ?_⟩
    rw [hd rfl]
    omega
  · exact (h.cinv hu (n - 1) (by have := h.n1; omega)).jn a b ha hb e (by rw [h.one ha, h.one hb])
end
end Go.Proofs.YtahgffjkkdbjeaaDoor
