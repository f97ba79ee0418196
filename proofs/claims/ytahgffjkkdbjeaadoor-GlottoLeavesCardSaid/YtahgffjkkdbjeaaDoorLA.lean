/- Plain: the tree of a clustering: each merge has two children, the languages below it are those of its cluster. -/
import Derived.Test.YtahgffjkkdbjeaaDoorPI
import Derived.Test.YtahgffjkkdbjeaaDoorPR
namespace Go.Proofs.YtahgffjkkdbjeaaDoor
open Go.RowKit
/-- How many of the nodes before v are children of u. -/
def kidsN (t : List Nd) (u : Nat) : Nat → Nat
  | 0 => 0
  | v + 1 => kidsN t u v + if 0 < v ∧ nP t v = (u : Int) then 1 else 0
/-- The nodes from v on, s of them, are all that is below v. -/
structure Sub (t : List Nd) (v s : Nat) : Prop where
  fit : v + s ≤ t.length
  pos : 0 < s
  inn : ∀ x, v < x → x < v + s → (v : Int) ≤ nP t x
  out : ∀ x, v + s ≤ x → x < t.length → nP t x < v ∨ ((v + s : Nat) : Int) ≤ nP t x
/-- t is a node with the trees A and B below it. -/
structure Two2 (t A B : List Nd) (nm : ByteArray) : Prop where
  len : t.length = 1 + A.length + B.length
  p0 : nP t 0 = -1
  s0 : nS t 0 = nm
  pa : ∀ x, x < A.length → nP t (1 + x) = if x = 0 then 0 else nP A x + 1
  sa : ∀ x, x < A.length → nS t (1 + x) = nS A x
  pb : ∀ x, x < B.length → nP t (1 + A.length + x) = if x = 0 then 0 else nP B x + 1 + A.length
  sb : ∀ x, x < B.length → nS t (1 + A.length + x) = nS B x
theorem shf_at {up : Int} {pos : Nat} {t : List Nd} {x : Nat} (h : x < t.length) : nP (shf up pos t) x = (if x = 0 then up else nP t x + pos) ∧ nS (shf up pos t) x = nS t x := by
  cases t with
  | nil => simp at h
  | cons y r =>
    cases x with
    | zero => exact ⟨rfl, rfl⟩
    | succ x =>
      have hx : x < r.length := by simpa using h
      simp [shf, nP, nS, hx]
theorem app_at {A B : List Nd} {x : Nat} (h : x < A.length) : nP (A ++ B) x = nP A x ∧ nS (A ++ B) x = nS A x := by
  unfold nP nS
  rw [List.getD_eq_getElem?_getD, List.getD_eq_getElem?_getD, List.getElem?_append_left h]
  exact ⟨rfl, rfl⟩
theorem app_at2 {A B : List Nd} {x : Nat} : nP (A ++ B) (A.length + x) = nP B x ∧ nS (A ++ B) (A.length + x) = nS B x := by
  unfold nP nS
  rw [List.getD_eq_getElem?_getD, List.getD_eq_getElem?_getD, List.getElem?_append_right (by omega), Nat.add_sub_cancel_left]
  exact ⟨rfl, rfl⟩
theorem two2_of (A B : List Nd) (nm : ByteArray) : Two2 (undr (undr [(-1, nm)] A) B) A B nm := by
  have e : undr (undr [(-1, nm)] A) B = ([(-1, nm)] ++ shf 0 1 A) ++ shf 0 (1 + A.length) B := by
    unfold undr
    rw [List.length_append, shf_len]
    rfl
  have l1 : ([((-1 : Int), nm)] ++ shf 0 1 A).length = 1 + A.length := by simp [shf_len, Nat.add_comm]
  rw [e]
  refine ⟨by rw [List.length_append, l1, shf_len], rfl, rfl, fun x hx => ?_, fun x hx => ?_, fun x hx => ?_, fun x hx => ?_⟩
  · rw [(app_at (by omega)).1]
    have := (app_at2 (A := [((-1 : Int), nm)]) (B := shf 0 1 A) (x := x)).1
    rw [show [((-1 : Int), nm)].length = 1 from rfl] at this
    rw [this, (shf_at hx).1]
    rfl
  · rw [(app_at (by omega)).2]
    have := (app_at2 (A := [((-1 : Int), nm)]) (B := shf 0 1 A) (x := x)).2
    rw [show [((-1 : Int), nm)].length = 1 from rfl] at this
    rw [this, (shf_at hx).2]
  · have := (app_at2 (A := [((-1 : Int), nm)] ++ shf 0 1 A) (B := shf 0 (1 + A.length) B) (x := x)).1
    rw [l1] at this
    rw [this, (shf_at hx).1]
    split
    · rfl
    · omega
  · have := (app_at2 (A := [((-1 : Int), nm)] ++ shf 0 1 A) (B := shf 0 (1 + A.length) B) (x := x)).2
    rw [l1] at this
    rw [this, (shf_at hx).2]
/-- A tree whose parents come before their children. -/
structure Par (t : List Nd) : Prop where
  root : nP t 0 = -1
  par : ∀ v, 0 < v → v < t.length → 0 ≤ nP t v ∧ nP t v < v
  pos : 0 < t.length
section
variable {t A B : List Nd} {nm : ByteArray}
theorem Two2.cut {x : Nat} (h : Two2 t A B nm) (hx : x < t.length) : x = 0 ∨ (∃ y, y < A.length ∧ x = 1 + y) ∨ ∃ y, y < B.length ∧ x = 1 + A.length + y := by
  have := h.len
  by_cases h0 : x = 0
  · exact .inl h0
  · by_cases h1 : x < 1 + A.length
    · exact .inr (.inl ⟨x - 1, by omega, by omega⟩)
    · exact .inr (.inr ⟨x - (1 + A.length), by omega, by omega⟩)
theorem Two2.par (h : Two2 t A B nm) (ha : Par A) (hb : Par B) : Par t := by
  refine ⟨h.p0, fun v h0 hv => ?_, by have := h.len; omega⟩
  rcases h.cut hv with rfl | ⟨y, hy, rfl⟩ | ⟨y, hy, rfl⟩
  · omega
  · rw [h.pa y hy]
    split
    · omega
    · have := ha.par y (by omega) hy
      omega
  · rw [h.pb y hy]
    split
    · omega
    · have := hb.par y (by omega) hy
      omega
theorem Two2.kids0A (h : Two2 t A B nm) (ha : Par A) : ∀ x, x ≤ A.length → kidsN t 0 (1 + x) = if x = 0 then 0 else 1
  | 0, _ => by simp [kidsN]
  | x + 1, hx => by
    have ih := h.kids0A ha x (by omega)
    show kidsN t 0 (1 + x) + (if 0 < 1 + x ∧ nP t (1 + x) = ((0 : Nat) : Int) then 1 else 0) = _
    rw [ih, h.pa x (by omega)]
    by_cases e : x = 0
    · subst e; simp
    · have := ha.par x (by omega) (by omega)
      rw [if_neg e, if_neg e, if_neg (by omega), if_neg (by omega)]
theorem Two2.kids0B (h : Two2 t A B nm) (ha : Par A) (hb : Par B) : ∀ x, x ≤ B.length → kidsN t 0 (1 + A.length + x) = if x = 0 then 1 else 2
  | 0, _ => by
    have := h.kids0A ha A.length (Nat.le_refl _)
    rw [if_neg (by have := ha.pos; omega)] at this
    exact this
  | x + 1, hx => by
    have ih := h.kids0B ha hb x (by omega)
    show kidsN t 0 (1 + A.length + x) + (if 0 < 1 + A.length + x ∧ nP t (1 + A.length + x) = ((0 : Nat) : Int) then 1 else 0) = _
    rw [ih, h.pb x (by omega)]
    by_cases e : x = 0
    · subst e
      rw [if_pos rfl, if_pos rfl, if_pos ⟨by omega, rfl⟩, if_neg (by omega)]
    · have := hb.par x (by omega) (by omega)
      rw [if_neg e, if_neg e, if_neg (by omega), if_neg (by omega)]
theorem Two2.kidsA (h : Two2 t A B nm) (ha : Par A) {u : Nat} : ∀ x, x ≤ A.length → kidsN t (1 + u) (1 + x) = kidsN A u x
  | 0, _ => by simp [kidsN]
  | x + 1, hx => by
    have ih := h.kidsA ha x (by omega) (u := u)
    show kidsN t (1 + u) (1 + x) + (if 0 < 1 + x ∧ nP t (1 + x) = ((1 + u : Nat) : Int) then 1 else 0) = kidsN A u x + (if 0 < x ∧ nP A x = (u : Int) then 1 else 0)
    rw [ih, h.pa x (by omega)]
    by_cases e : x = 0
    · subst e
      rw [if_pos rfl, if_neg (by omega), if_neg (by omega)]
    · rw [if_neg e]
      by_cases e2 : nP A x = (u : Int)
      · rw [if_pos (by omega), if_pos (by omega)]
      · rw [if_neg (by omega), if_neg (by omega)]
theorem Two2.kidsA2 (h : Two2 t A B nm) (ha : Par A) (hb : Par B) {u : Nat} (hu : u < A.length) : ∀ x, x ≤ B.length → kidsN t (1 + u) (1 + A.length + x) = kidsN A u A.length
  | 0, _ => h.kidsA ha A.length (Nat.le_refl _)
  | x + 1, hx => by
    have ih := h.kidsA2 ha hb hu x (by omega)
    show kidsN t (1 + u) (1 + A.length + x) + (if 0 < 1 + A.length + x ∧ nP t (1 + A.length + x) = ((1 + u : Nat) : Int) then 1 else 0) = _
    rw [ih, h.pb x (by omega)]
    by_cases e : x = 0
    · subst e
      rw [if_pos rfl, if_neg (by omega), Nat.add_zero]
    · have := hb.par x (by omega) (by omega)
      rw [if_neg e, if_neg (by omega), Nat.add_zero]
theorem Two2.kidsB0 (h : Two2 t A B nm) (ha : Par A) {u : Nat} : ∀ x, x ≤ A.length → kidsN t (1 + A.length + u) (1 + x) = 0
  | 0, _ => by simp [kidsN]
  | x + 1, hx => by
    have ih := h.kidsB0 ha x (by omega) (u := u)
    show kidsN t (1 + A.length + u) (1 + x) + (if 0 < 1 + x ∧ nP t (1 + x) = ((1 + A.length + u : Nat) : Int) then 1 else 0) = _
    rw [ih, h.pa x (by omega)]
    by_cases e : x = 0
    · subst e
      rw [if_pos rfl, if_neg (by omega)]
    · have := ha.par x (by omega) (by omega)
      rw [if_neg e, if_neg (by omega)]
theorem Two2.kidsB (h : Two2 t A B nm) (ha : Par A) {u : Nat} : ∀ x, x ≤ B.length → kidsN t (1 + A.length + u) (1 + A.length + x) = kidsN B u x
  | 0, _ => h.kidsB0 ha A.length (Nat.le_refl _)
  | x + 1, hx => by
    have ih := h.kidsB ha x (by omega) (u := u)
    show kidsN t (1 + A.length + u) (1 + A.length + x) + (if 0 < 1 + A.length + x ∧ nP t (1 + A.length + x) = ((1 + A.length + u : Nat) : Int) then 1 else 0) = kidsN B u x + (if 0 < x ∧ nP B x = (u : Int) then 1 else 0)
    rw [ih, h.pb x (by omega)]
    by_cases e : x = 0
    · subst e
      rw [if_pos rfl, if_neg (by omega), if_neg (by omega)]
    · rw [if_neg e]
      by_cases e2 : nP B x = (u : Int)
      · rw [if_pos (by omega), if_pos (by omega)]
      · rw [if_neg (by omega), if_neg (by omega)]
theorem Two2.kidsRoot (h : Two2 t A B nm) (ha : Par A) (hb : Par B) : kidsN t 0 t.length = 2 := by
  have := h.kids0B ha hb B.length (Nat.le_refl _)
  rw [if_neg (by have := hb.pos; omega)] at this
  rw [h.len]; exact this
theorem Two2.kidsLeft (h : Two2 t A B nm) (ha : Par A) (hb : Par B) {u : Nat} (hu : u < A.length) : kidsN t (1 + u) t.length = kidsN A u A.length := by
  rw [h.len]; exact h.kidsA2 ha hb hu B.length (Nat.le_refl _)
theorem Two2.kidsRight (h : Two2 t A B nm) (ha : Par A) {u : Nat} : kidsN t (1 + A.length + u) t.length = kidsN B u B.length := by
  rw [h.len]; exact h.kidsB ha B.length (Nat.le_refl _)
theorem Two2.subA (h : Two2 t A B nm) (ha : Par A) (hb : Par B) {v s : Nat} (hs : Sub A v s) : Sub t (1 + v) s := by
  have h1 := hs.fit
  have h2 := hs.pos
  refine ⟨by rw [h.len]; omega, h2, fun x h3 h4 => ?_, fun x h3 h4 => ?_⟩
  · obtain ⟨y, rfl⟩ : ∃ y, x = 1 + y := ⟨x - 1, by omega⟩
    rw [h.pa y (by omega), if_neg (by omega)]
    have := hs.inn y (by omega) (by omega)
    omega
  · rcases h.cut h4 with rfl | ⟨y, hy, rfl⟩ | ⟨y, hy, rfl⟩
    · omega
    · rw [h.pa y hy]
      split
      · omega
      · have := hs.out y (by omega) hy
        omega
    · rw [h.pb y hy]
      split
      · omega
      · have := hb.par y (by omega) hy
        omega
theorem Two2.subB (h : Two2 t A B nm) (hb : Par B) {v s : Nat} (hs : Sub B v s) : Sub t (1 + A.length + v) s := by
  have h1 := hs.fit
  have h2 := hs.pos
  refine ⟨by rw [h.len]; omega, h2, fun x h3 h4 => ?_, fun x h3 h4 => ?_⟩
  · obtain ⟨y, rfl⟩ : ∃ y, x = 1 + A.length + y := ⟨x - (1 + A.length), by omega⟩
    rw [h.pb y (by omega), if_neg (by omega)]
    have := hs.inn y (by omega) (by omega)
    omega
  · obtain ⟨y, rfl⟩ : ∃ y, x = 1 + A.length + y := ⟨x - (1 + A.length), by omega⟩
    have hy : y < B.length := by have := h.len; omega
    rw [h.pb y hy]
    split
    · omega
    · have := hs.out y (by omega) hy
      omega
theorem Par.subAll (h : Par t) : Sub t 0 t.length := ⟨by omega, h.pos, fun x h1 h2 => by have := h.par x h1 (by omega); omega, fun x h1 h2 => by omega⟩
end
/-- What the tree of a cluster has. -/
structure PtOk (n : Nat) (nm : Nat → ByteArray) (l : List Mg) (k a : Nat) (t : List Nd) : Prop where
  len : t.length + 1 = 2 * stS n l k a
  par : Par t
  node : ∀ v, v < t.length → (∃ b, b < n ∧ lsK l k b = a ∧ nS t v = nm b ∧ kidsN t v t.length = 0) ∨ (∃ j, j < k ∧ lsK l k (aN l j) = a ∧ nS t v = innS j ∧ kidsN t v t.length = 2)
  dst : ∀ u v, u < v → v < t.length → nS t u ≠ nS t v
  lang : ∀ b, b < n → lsK l k b = a → ∃ v, v < t.length ∧ nS t v = nm b
  inn : ∀ j, j < k → lsK l k (aN l j) = a → ∃ v s, v < t.length ∧ nS t v = innS j ∧ Sub t v s ∧ ∀ u b, u < t.length → b < n → nS t u = nm b → ((v ≤ u ∧ u < v + s) ↔ lsK l (j + 1) b = aN l j)
/-- Names that do not clash. -/
structure NmOk (n K : Nat) (nm : Nat → ByteArray) : Prop where
  inj : ∀ a b, a < n → b < n → nm a = nm b → a = b
  inn : ∀ i j, i < K → j < K → innS i = innS j → i = j
  cross : ∀ a j, a < n → j < K → nm a ≠ innS j
theorem pt_ok {n K : Nat} {names : List ByteArray} {l : List Mg} (hnm : NmOk n K (sA names)) (hok : ∀ i, i < K → StepOk n l i) : ∀ k, k ≤ K → ∀ a, a < n → 0 < stS n l k a → PtOk n (sA names) l k a (ptK names l k a)
  | 0, _, a, ha, _ => by
    have es : stS n l 0 a = 1 := if_pos ha
    refine ⟨by rw [es]; rfl, ⟨rfl, fun v h1 h2 => ?_, ?_⟩, fun v hv => ?_, fun u v h1 h2 => ?_, fun b hb e => ?_, fun j hj _ => absurd hj (by omega)⟩
    · have : v < 1 := h2
      omega
    · show 0 < 1
      omega
    · have hv1 : v < 1 := hv
      obtain rfl : v = 0 := by omega
      exact .inl ⟨a, ha, rfl, rfl, by simp [ptK, kidsN]⟩
    · have : v < 1 := h2
      omega
    · obtain rfl : b = a := e
      exact ⟨0, by show 0 < 1; omega, rfl⟩
  | k + 1, hk, a, ha, hs => by
    have ih := pt_ok hnm hok k (by omega)
    obtain ⟨p1, p2, p3, p4⟩ := (hok k (by omega)).nat
    have hI := lsI (n := n) (l := l) k (fun i hi => hok i (by omega))
    have oA := hI.own _ (show aN l k < n by omega) p3
    have oB := hI.own _ p2 p4
    have es : stS n l (k + 1) a = if a = bN l k then 0 else if a = aN l k then stS n l k (aN l k) + stS n l k (bN l k) else stS n l k a := joinS_at p1 a
    have el : ∀ x, lsK l (k + 1) x = if lsK l k x = bN l k then aN l k else lsK l k x := fun x => rfl
    have ept : ptK names l (k + 1) a = if a = aN l k then undr (undr [(-1, innS k)] (ptK names l k (aN l k))) (ptK names l k (bN l k)) else ptK names l k a := rfl
    have jlt : ∀ j, j < k → aN l j < n := fun j hj => by obtain ⟨q1, q2, _⟩ := (hok j (by omega)).nat; omega
    have jown : ∀ j, j < k → lsK l (j + 1) (aN l j) = aN l j := fun j hj => by
      obtain ⟨q1, q2, q3, q4⟩ := (hok j (by omega)).nat
      have hI2 := lsI (n := n) (l := l) j (fun i hi => hok i (by omega))
      have := hI2.own _ (show aN l j < n by omega) q3
      show (if lsK l j (aN l j) = bN l j then aN l j else lsK l j (aN l j)) = _
      rw [this, if_neg (by omega)]
    have stay : ∀ j b, j < k → lsK l (j + 1) b = aN l j → lsK l k b = lsK l k (aN l j) := fun j b hj e => by
      have h1 := (jn_stay (n := n) (l := l) (a := b) (b := aN l j) (k := j + 1) (by rw [e, jown j hj]) (k - (j + 1)) (fun i hi => hok i (by omega))).1
      rwa [show j + 1 + (k - (j + 1)) = k by omega] at h1
    by_cases e : a = aN l k
    · rw [ept, if_pos e]
      have hA := ih _ (show aN l k < n by omega) p3
      have hB := ih _ p2 p4
      have h2 := two2_of (ptK names l k (aN l k)) (ptK names l k (bN l k)) (innS k)
      generalize undr (undr [(-1, innS k)] (ptK names l k (aN l k))) (ptK names l k (bN l k)) = t at *
      generalize ptK names l k (aN l k) = A at *
      generalize ptK names l k (bN l k) = B at *
      have la := hA.len
      have lb := hB.len
      have hl := h2.len
      have la0 := hA.par.pos
      have lb0 := hB.par.pos
      have elA : ∀ x, lsK l (k + 1) x = a ↔ lsK l k x = aN l k ∨ lsK l k x = bN l k := fun x => by
        rw [el]
        split <;> omega
      refine ⟨?_, h2.par hA.par hB.par, fun v hv => ?_, fun u v h1 hv => ?_, fun b hb hlb => ?_, fun j hj hlj => ?_⟩
      · rw [es, if_neg (by omega), if_pos e]; omega
      · rcases h2.cut hv with rfl | ⟨y, hy, rfl⟩ | ⟨y, hy, rfl⟩
        · exact .inr ⟨k, by omega, by rw [elA]; exact .inl oA, h2.s0, h2.kidsRoot hA.par hB.par⟩
        · rw [h2.sa y hy, h2.kidsLeft hA.par hB.par hy]
          rcases hA.node y hy with ⟨b, b1, b2, b3, b4⟩ | ⟨j, b1, b2, b3, b4⟩
          · exact .inl ⟨b, b1, by rw [elA]; exact .inl b2, b3, b4⟩
          · exact .inr ⟨j, by omega, by rw [elA]; exact .inl b2, b3, b4⟩
        · rw [h2.sb y hy, h2.kidsRight hA.par]
          rcases hB.node y hy with ⟨b, b1, b2, b3, b4⟩ | ⟨j, b1, b2, b3, b4⟩
          · exact .inl ⟨b, b1, by rw [elA]; exact .inr b2, b3, b4⟩
          · exact .inr ⟨j, by omega, by rw [elA]; exact .inr b2, b3, b4⟩
      · rcases h2.cut hv with rfl | ⟨y, hy, rfl⟩ | ⟨y, hy, rfl⟩
        · omega
        · rw [h2.sa y hy]
          rcases h2.cut (show u < t.length by omega) with rfl | ⟨z, hz, rfl⟩ | ⟨z, hz, rfl⟩
          · rw [h2.s0]
            rcases hA.node y hy with ⟨b, b1, b2, b3, b4⟩ | ⟨j, b1, b2, b3, b4⟩
            · rw [b3]; exact fun h => hnm.cross b k b1 (by omega) h.symm
            · rw [b3]; exact fun h => by have := hnm.inn k j (by omega) (by omega) h; omega
          · rw [h2.sa z hz]; exact hA.dst z y (by omega) hy
          · omega
        · rw [h2.sb y hy]
          rcases h2.cut (show u < t.length by omega) with rfl | ⟨z, hz, rfl⟩ | ⟨z, hz, rfl⟩
          · rw [h2.s0]
            rcases hB.node y hy with ⟨b, b1, b2, b3, b4⟩ | ⟨j, b1, b2, b3, b4⟩
            · rw [b3]; exact fun h => hnm.cross b k b1 (by omega) h.symm
            · rw [b3]; exact fun h => by have := hnm.inn k j (by omega) (by omega) h; omega
          · rw [h2.sa z hz]
            intro h
            rcases hA.node z hz with ⟨b, b1, b2, b3, b4⟩ | ⟨j, b1, b2, b3, b4⟩ <;> rcases hB.node y hy with ⟨b', c1, c2, c3, c4⟩ | ⟨j', c1, c2, c3, c4⟩
            · rw [b3, c3] at h
              have := hnm.inj b b' b1 c1 h
              subst this
              omega
            · rw [b3, c3] at h
              exact hnm.cross b j' b1 (by omega) h
            · rw [b3, c3] at h
              exact hnm.cross b' j c1 (by omega) h.symm
            · rw [b3, c3] at h
              have := hnm.inn j j' (by omega) (by omega) h
              subst this
              omega
          · rw [h2.sb z hz]; exact hB.dst z y (by omega) hy
      · rcases (elA b).1 hlb with h | h
        · obtain ⟨v, v1, v2⟩ := hA.lang b hb h
          exact ⟨1 + v, by omega, by rw [h2.sa v v1, v2]⟩
        · obtain ⟨v, v1, v2⟩ := hB.lang b hb h
          exact ⟨1 + A.length + v, by omega, by rw [h2.sb v v1, v2]⟩
      · have bA : ∀ u b, u < A.length → b < n → nS A u = sA names b → lsK l k b = aN l k := fun u b hu hb h => by
          rcases hA.node u hu with ⟨b', b1, b2, b3, b4⟩ | ⟨j', b1, b2, b3, b4⟩
          · rw [h] at b3
            have := hnm.inj b b' hb b1 b3
            subst this; exact b2
          · rw [h] at b3
            exact absurd b3 (hnm.cross b j' hb (by omega))
        have bB : ∀ u b, u < B.length → b < n → nS B u = sA names b → lsK l k b = bN l k := fun u b hu hb h => by
          rcases hB.node u hu with ⟨b', b1, b2, b3, b4⟩ | ⟨j', b1, b2, b3, b4⟩
          · rw [h] at b3
            have := hnm.inj b b' hb b1 b3
            subst this; exact b2
          · rw [h] at b3
            exact absurd b3 (hnm.cross b j' hb (by omega))
        by_cases ej : j = k
        · subst ej
          refine ⟨0, t.length, by omega, h2.s0, (h2.par hA.par hB.par).subAll, fun u b hu hb h => ⟨fun _ => ?_, fun _ => by omega⟩⟩
          rw [← e, elA]
          rcases h2.cut hu with rfl | ⟨y, hy, rfl⟩ | ⟨y, hy, rfl⟩
          · rw [h2.s0] at h
            exact absurd h.symm (hnm.cross b j hb (by omega))
          · rw [h2.sa y hy] at h
            exact .inl (bA y b hy hb h)
          · rw [h2.sb y hy] at h
            exact .inr (bB y b hy hb h)
        · rcases (elA _).1 hlj with h3 | h3
          · obtain ⟨v, s, v1, v2, v3, v4⟩ := hA.inn j (by omega) h3
            have vf := v3.fit
            refine ⟨1 + v, s, by omega, by rw [h2.sa v v1, v2], h2.subA hA.par hB.par v3, fun u b hu hb h => ?_⟩
            rcases h2.cut hu with rfl | ⟨y, hy, rfl⟩ | ⟨y, hy, rfl⟩
            · rw [h2.s0] at h
              exact absurd h.symm (hnm.cross b k hb (by omega))
            · rw [h2.sa y hy] at h
              rw [← v4 y b hy hb h]
              omega
            · rw [h2.sb y hy] at h
              have hbb := bB y b hy hb h
              refine ⟨fun hh => by omega, fun hh => ?_⟩
              have := stay j b (by omega) hh
              omega
          · obtain ⟨v, s, v1, v2, v3, v4⟩ := hB.inn j (by omega) h3
            have vf := v3.fit
            refine ⟨1 + A.length + v, s, by omega, by rw [h2.sb v v1, v2], h2.subB hB.par v3, fun u b hu hb h => ?_⟩
            rcases h2.cut hu with rfl | ⟨y, hy, rfl⟩ | ⟨y, hy, rfl⟩
            · rw [h2.s0] at h
              exact absurd h.symm (hnm.cross b k hb (by omega))
            · rw [h2.sa y hy] at h
              have hbb := bA y b hy hb h
              refine ⟨fun hh => by omega, fun hh => ?_⟩
              have := stay j b (by omega) hh
              omega
            · rw [h2.sb y hy] at h
              rw [← v4 y b hy hb h]
              omega
    · rw [es] at hs
      have eb : a ≠ bN l k := fun h => by rw [if_pos h] at hs; omega
      rw [if_neg eb, if_neg e] at hs
      rw [ept, if_neg e]
      have ht := ih a ha hs
      have elA : ∀ x, lsK l (k + 1) x = a ↔ lsK l k x = a := fun x => by
        rw [el]
        split <;> omega
      refine ⟨by rw [es, if_neg eb, if_neg e]; exact ht.len, ht.par, fun v hv => ?_, ht.dst, fun b hb h => ht.lang b hb ((elA b).1 h), fun j hj h => ?_⟩
      · rcases ht.node v hv with ⟨b, b1, b2, b3, b4⟩ | ⟨j, b1, b2, b3, b4⟩
        · exact .inl ⟨b, b1, by rw [elA]; exact b2, b3, b4⟩
        · exact .inr ⟨j, by omega, by rw [elA]; exact b2, b3, b4⟩
      · by_cases ej : j = k
        · subst ej
          rw [elA, oA] at h
          omega
        · exact ht.inn j (by omega) ((elA _).1 h)
end Go.Proofs.YtahgffjkkdbjeaaDoor
