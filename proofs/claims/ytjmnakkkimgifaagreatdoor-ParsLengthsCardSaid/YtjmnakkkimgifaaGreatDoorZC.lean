/- The numbered tree: its nodes' parents, its shape (plain). Binary trees and their shapes; the numbered tree is a binary tree (plain). The exchange of two parts of a shape (plain). A drawn region: reads first, then operations that keep a condition, of which two at a time may come up; then the forced end. pars.changes: what an innovation costs on a tree. pars.numbered: the smallest leaf below a node. How a shape is written into a row of nodes (plain). pars.numbered: the nodes as they are met. pars.numbered. All binary trees of one to five leaves (plain). -/
import Derived.Test.YtjmnakkkimgifaaGreatDoorZB
import Derived.Test.YtjmnakkkimgifaaGreatDoorZA
namespace Go.Proofs.YtjmnakkkimgifaaGreatDoor
open Go Go.RowKit Go.Shelf
namespace Sh
def pre : Sh → List Nat
  | lf _ => []
  | nd v a b => v :: (a.pre ++ b.pre)
theorem ni_snd : ∀ (s : Sh) (p : Int) (k : Nat), (s.ni p k).map (·.2) = s.pre
  | lf _, _, _ => rfl
  | nd v a b, p, k => by simp [ni, pre, ni_snd a, ni_snd b]
theorem pre_len : ∀ s : Sh, s.pre.length = s.inn
  | lf _ => rfl
  | nd _ a b => by simp [pre, inn, pre_len a, pre_len b]
theorem pre_all : ∀ s : Sh, (s.pre ++ s.lvs).Perm s.all
  | lf _ => List.Perm.refl _
  | nd v a b => by
    show (v :: (a.pre ++ b.pre) ++ (a.lvs ++ b.lvs)).Perm (v :: (a.all ++ b.all))
    rw [List.cons_append]
    refine List.Perm.cons v ?_
    refine List.Perm.trans ?_ ((pre_all a).append (pre_all b))
    rw [List.append_assoc, List.append_assoc]
    refine List.Perm.append_left _ ?_
    rw [← List.append_assoc, ← List.append_assoc]
    exact List.Perm.append_right _ List.perm_append_comm
/-- z is part of a shape. -/
def In (z : Sh) : Sh → Prop
  | lf v => z = lf v
  | nd v a b => z = nd v a b ∨ In z a ∨ In z b
theorem in_self : ∀ s : Sh, In s s
  | lf _ => rfl
  | nd _ _ _ => .inl rfl
theorem in_all {z : Sh} : ∀ {s : Sh}, In z s → ∀ u, u ∈ z.all → u ∈ s.all
  | lf v, h, u, hu => by rw [show z = lf v from h] at hu; exact hu
  | nd v a b, h, u, hu => by
    rcases h with h | h | h
    · rw [h] at hu; exact hu
    · exact List.mem_cons_of_mem _ (List.mem_append_left _ (in_all h u hu))
    · exact List.mem_cons_of_mem _ (List.mem_append_right _ (in_all h u hu))
theorem in_trans {z y : Sh} (h : In z y) : ∀ {s : Sh}, In y s → In z s
  | lf v, k => by rw [show y = lf v from k] at h; exact h
  | nd v a b, k => by
    rcases k with k | k | k
    · rw [k] at h; exact h
    · exact .inr (.inl (in_trans h k))
    · exact .inr (.inr (in_trans h k))
theorem in_uniq {z z' : Sh} : ∀ {s : Sh}, s.all.Nodup → In z s → In z' s → z.top = z'.top → z = z'
  | lf v, _, h, h', _ => by rw [show z = lf v from h, show z' = lf v from h']
  | nd v a b, hn, h, h', ht => by
    obtain ⟨hv, hn'⟩ := List.nodup_cons.1 hn
    obtain ⟨ha, hb, hab⟩ := List.nodup_append.1 hn'
    have out : ∀ {y : Sh}, (In y a ∨ In y b) → y.top ∈ a.all ++ b.all := fun {y} hy => by
      rcases hy with hy | hy
      · exact List.mem_append_left _ (in_all hy _ (top_mem y))
      · exact List.mem_append_right _ (in_all hy _ (top_mem y))
    rcases h with h | h | h <;> rcases h' with h' | h' | h'
    · rw [h, h']
    · subst h; exact absurd (by have := out (.inl h'); rw [← ht] at this; exact this) hv
    · subst h; exact absurd (by have := out (.inr h'); rw [← ht] at this; exact this) hv
    · subst h'; exact absurd (by have := out (.inl h); rw [ht] at this; exact this) hv
    · exact in_uniq ha h h' ht
    · exact absurd ht (hab _ (in_all h _ (top_mem z)) _ (in_all h' _ (top_mem z')))
    · subst h'; exact absurd (by have := out (.inr h); rw [ht] at this; exact this) hv
    · exact absurd ht.symm (hab _ (in_all h' _ (top_mem z')) _ (in_all h _ (top_mem z)))
    · exact in_uniq hb h h' ht
theorem child_ex {w : Nat} : ∀ {s : Sh}, w ∈ s.all → w = s.top ∨ ∃ v a b, In (nd v a b) s ∧ (w = a.top ∨ w = b.top)
  | lf v, h => .inl (List.mem_singleton.1 h)
  | nd v a b, h => by
    rcases List.mem_cons.1 h with h | h
    · exact .inl h
    · right
      rcases List.mem_append.1 h with h | h
      · rcases child_ex h with e | ⟨v', a', b', h1, h2⟩
        · exact ⟨v, a, b, .inl rfl, .inl e⟩
        · exact ⟨v', a', b', .inr (.inl h1), h2⟩
      · rcases child_ex h with e | ⟨v', a', b', h1, h2⟩
        · exact ⟨v, a, b, .inl rfl, .inr e⟩
        · exact ⟨v', a', b', .inr (.inr h1), h2⟩
end Sh
/-- In tree T the nodes have the parents that the shape says; f says their numbers. -/
def Par (T : List Nd) (f : Nat → Nat) : Sh → Int → Prop
  | .lf v, p => nP T (f v) = p
  | .nd v a b, p => nP T (f v) = p ∧ f v < f a.top ∧ f v < f b.top ∧ Par T f a (f v) ∧ Par T f b (f v)
theorem par_top {T : List Nd} {f : Nat → Nat} : ∀ {s : Sh} {p : Int}, Par T f s p → nP T (f s.top) = p
  | .lf _, _, h => h
  | .nd _ _ _, _, h => h.1
theorem par_in {T : List Nd} {f : Nat → Nat} {v : Nat} {a b : Sh} : ∀ {s : Sh} {p : Int}, Par T f s p → Sh.In (.nd v a b) s → nP T (f a.top) = f v ∧ nP T (f b.top) = f v ∧ f v < f a.top ∧ f v < f b.top
  | .lf _, _, _, h => by cases h
  | .nd u x y, _, h, hi => by
    obtain ⟨h1, h2, h3, h4, h5⟩ := h
    rcases hi with hi | hi | hi
    · cases hi; exact ⟨par_top h4, par_top h5, h2, h3⟩
    · exact par_in h4 hi
    · exact par_in h5 hi
/-- The numbers that the nodes get. -/
def ordL (L : List Nat) (s : Sh) : List Nat := s.pre ++ L
def rho (L : List Nat) (s : Sh) (v : Nat) : Nat := (ordL L s).idxOf v
theorem ordL_perm {L : List Nat} {s : Sh} (hL : L.Perm s.lvs) : (ordL L s).Perm s.all := (List.Perm.append_left _ hL).trans s.pre_all
theorem idx_at {l : List Nat} (hn : l.Nodup) {i : Nat} (hi : i < l.length) : l.idxOf l[i] = i := by
  have h1 : l.idxOf l[i] < l.length := List.idxOf_lt_length_of_mem (List.getElem_mem hi)
  have h2 : l[l.idxOf l[i]] = l[i] := List.getElem_idxOf h1
  rcases Nat.lt_trichotomy (l.idxOf l[i]) i with q | q | q
  · exact absurd h2 (List.pairwise_iff_getElem.1 hn _ _ h1 hi q)
  · exact q
  · exact absurd h2.symm (List.pairwise_iff_getElem.1 hn _ _ hi h1 q)
theorem numS_len (t : List Nd) (L : List Nat) (s : Sh) : (numS t L s).length = s.inn + L.length := by simp [numS, Sh.ni_len]
theorem numS_pre {t : List Nd} {L : List Nat} {s : Sh} {i : Nat} (hi : i < s.inn) : nP (numS t L s) i = ((s.ni (-1) 0)[i]'(by rw [Sh.ni_len]; exact hi)).1 ∧ nS (numS t L s) i = nS t ((s.ni (-1) 0)[i]'(by rw [Sh.ni_len]; exact hi)).2 := by
  have hl : i < (s.ni (-1) 0).length := by rw [Sh.ni_len]; exact hi
  unfold nP nS numS
  simp only [List.getD_eq_getElem?_getD]
  rw [List.getElem?_append_left (by rw [List.length_map]; exact hl), List.getElem?_map, List.getElem?_eq_getElem hl]
  exact ⟨rfl, rfl⟩
theorem numS_leaf {t : List Nd} {L : List Nat} {s : Sh} {j : Nat} (hj : j < L.length) : nP (numS t L s) (s.inn + j) = lkp (s.pl (-1) 0) L[j] ∧ nS (numS t L s) (s.inn + j) = nS t L[j] := by
  have hl : (List.map (fun x => (x.1, nS t x.2)) (s.ni (-1) 0)).length = s.inn := by rw [List.length_map, Sh.ni_len]
  unfold nP nS
  simp only [List.getD_eq_getElem?_getD]
  have e : (numS t L s)[s.inn + j]? = some (lkp (s.pl (-1) 0) L[j], nS t L[j]) := by
    unfold numS
    rw [List.getElem?_append_right (by rw [hl]; omega), hl, Nat.add_sub_cancel_left, List.getElem?_map, List.getElem?_eq_getElem hj]
    rfl
  rw [e]
  exact ⟨rfl, rfl⟩
theorem lkp_mem : ∀ {l : List (Nat × Int)} {x : Nat × Int}, (l.map (·.1)).Nodup → x ∈ l → lkp l x.1 = x.2
  | [], _, _, h => by cases h
  | a :: l, x, hn, h => by
    rw [List.map_cons] at hn
    obtain ⟨h1, h2⟩ := List.nodup_cons.1 hn
    unfold lkp
    rw [List.find?_cons]
    rcases List.mem_cons.1 h with e | h
    · rw [e, decide_eq_true rfl]; rfl
    · have hne : ¬ a.1 = x.1 := fun e => h1 (by rw [e]; exact List.mem_map.2 ⟨x, h, rfl⟩)
      rw [decide_eq_false hne]
      exact lkp_mem h2 h
/-- Part z of the shape, whose inner nodes come from place k on. -/
theorem par_part {T : List Nd} {f : Nat → Nat} {N : Nat} : ∀ (z : Sh) (p : Int) (k : Nat), k + z.inn ≤ N → (∀ i x, (z.ni p k)[i]? = some x → nP T (k + i) = x.1 ∧ f x.2 = k + i) →
    (∀ x, x ∈ z.pl p k → nP T (f x.1) = x.2 ∧ N ≤ f x.1) → Par T f z p ∧ k ≤ f z.top
  | .lf v, p, k, hN, _, h2 => ⟨(h2 (v, p) (List.mem_singleton.2 rfl)).1, Nat.le_trans (by have : k + 0 ≤ N := hN; omega) (h2 (v, p) (List.mem_singleton.2 rfl)).2⟩
  | .nd v a b, p, k, hN, h1, h2 => by
    have hN' : k + (a.inn + b.inn + 1) ≤ N := hN
    obtain ⟨h0a, h0b⟩ := h1 0 (p, v) rfl
    have e1 : nP T k = p := h0a
    have e2 : f v = k := h0b
    have ha := par_part a (k : Nat) (k + 1) (by omega) (fun i x hx => by
      have hl : i < (a.ni (k : Nat) (k + 1)).length := (List.getElem?_eq_some_iff.1 hx).1
      have h := h1 (i + 1) x (by
        show ((p, v) :: (a.ni (k : Nat) (k + 1) ++ b.ni (k : Nat) (k + 1 + a.inn)))[i + 1]? = _
        rw [List.getElem?_cons_succ, List.getElem?_append_left hl]; exact hx)
      rw [show k + 1 + i = k + (i + 1) by omega]; exact h) (fun x hx => h2 x (List.mem_append_left _ hx))
    have hb := par_part b (k : Nat) (k + 1 + a.inn) (by omega) (fun i x hx => by
      have h := h1 (a.inn + i + 1) x (by
        show ((p, v) :: (a.ni (k : Nat) (k + 1) ++ b.ni (k : Nat) (k + 1 + a.inn)))[a.inn + i + 1]? = _
        rw [List.getElem?_cons_succ, List.getElem?_append_right (by rw [Sh.ni_len]; omega), Sh.ni_len, Nat.add_sub_cancel_left]; exact hx)
      rw [show k + 1 + a.inn + i = k + (a.inn + i + 1) by omega]; exact h) (fun x hx => h2 x (List.mem_append_right _ hx))
    refine ⟨⟨by rw [e2]; exact e1, by rw [e2]; omega, by rw [e2]; omega, by rw [e2]; exact ha.1, by rw [e2]; exact hb.1⟩, ?_⟩
    show k ≤ f v
    omega
theorem rho_pre {L : List Nat} {s : Sh} (hn : s.all.Nodup) (hL : L.Perm s.lvs) {i : Nat} (hi : i < s.inn) : rho L s (s.pre[i]'(by rw [Sh.pre_len]; exact hi)) = i := by
  have hp := (ordL_perm hL).nodup_iff.2 hn
  have hl : i < s.pre.length := by rw [Sh.pre_len]; exact hi
  have h := idx_at hp (show i < (ordL L s).length by unfold ordL; rw [List.length_append]; omega)
  have e : (ordL L s)[i]'(by unfold ordL; rw [List.length_append]; omega) = s.pre[i] := List.getElem_append_left hl
  rw [e] at h; exact h
theorem rho_leaf {L : List Nat} {s : Sh} (hn : s.all.Nodup) (hL : L.Perm s.lvs) {j : Nat} (hj : j < L.length) : rho L s L[j] = s.inn + j := by
  have hp := (ordL_perm hL).nodup_iff.2 hn
  have h := idx_at hp (show s.inn + j < (ordL L s).length by unfold ordL; rw [List.length_append, Sh.pre_len]; omega)
  have e : (ordL L s)[s.inn + j]'(by unfold ordL; rw [List.length_append, Sh.pre_len]; omega) = L[j] := by
    unfold ordL
    rw [List.getElem_append_right (by rw [Sh.pre_len]; omega)]
    congr 1
    rw [Sh.pre_len]; omega
  rw [e] at h; exact h
theorem par_num {t : List Nd} {L : List Nat} {s : Sh} (hn : s.all.Nodup) (hL : L.Perm s.lvs) : Par (numS t L s) (rho L s) s (-1) := by
  refine (par_part (N := s.inn) s (-1) 0 (by omega) (fun i x hx => ?_) fun x hx => ?_).1
  · obtain ⟨hl, e⟩ := List.getElem?_eq_some_iff.1 hx
    have hi : i < s.inn := by rw [Sh.ni_len] at hl; exact hl
    have h1 := (numS_pre (t := t) (L := L) hi).1
    have h2 := rho_pre hn hL hi
    have h3 : s.pre[i]'(by rw [Sh.pre_len]; exact hi) = x.2 := by
      rw [← e]
      have : (s.pre)[i]? = ((s.ni (-1) 0).map (·.2))[i]? := by rw [Sh.ni_snd]
      rw [List.getElem?_map, List.getElem?_eq_getElem hl, List.getElem?_eq_getElem (by rw [Sh.pre_len]; exact hi)] at this
      exact Option.some.inj this
    rw [Nat.zero_add]
    rw [e] at h1
    rw [h3] at h2
    exact ⟨h1, h2⟩
  · have hm : x.1 ∈ L := hL.mem_iff.2 (by rw [← Sh.pl_fst s (-1) 0]; exact List.mem_map.2 ⟨x, hx, rfl⟩)
    obtain ⟨j, hj, e⟩ := List.mem_iff_getElem.1 hm
    rw [← e, rho_leaf hn hL hj]
    refine ⟨?_, by omega⟩
    rw [(numS_leaf hj).1, e]
    refine lkp_mem ?_ hx
    rw [Sh.pl_fst]
    have hp := s.pre_all.nodup_iff.2 hn
    exact (List.nodup_append.1 hp).2.1
/-- A node keeps its name. -/
theorem num_name {t : List Nd} {L : List Nat} {s : Sh} (hn : s.all.Nodup) (hL : L.Perm s.lvs) {v : Nat} (hv : v ∈ s.all) : rho L s v < (numS t L s).length ∧ nS (numS t L s) (rho L s v) = nS t v := by
  have hm : v ∈ ordL L s := (ordL_perm hL).mem_iff.2 hv
  rw [numS_len]
  rcases List.mem_append.1 hm with h | h
  · obtain ⟨i, hi, e⟩ := List.mem_iff_getElem.1 h
    have hi' : i < s.inn := by rw [Sh.pre_len] at hi; exact hi
    have hr := rho_pre hn hL hi'
    rw [e] at hr
    rw [hr]
    refine ⟨by omega, ?_⟩
    rw [(numS_pre hi').2]
    congr 1
    have h3 : (s.pre)[i]? = ((s.ni (-1) 0).map (·.2))[i]? := by rw [Sh.ni_snd]
    rw [List.getElem?_map, List.getElem?_eq_getElem (show i < (s.ni (-1) 0).length by rw [Sh.ni_len]; exact hi'), List.getElem?_eq_getElem hi, e] at h3
    exact (Option.some.inj h3).symm
  · obtain ⟨j, hj, e⟩ := List.mem_iff_getElem.1 h
    have hr := rho_leaf hn hL hj
    rw [e] at hr
    rw [hr]
    refine ⟨by omega, ?_⟩
    rw [(numS_leaf hj).2, e]
theorem rho_inj {L : List Nat} {s : Sh} (hL : L.Perm s.lvs) {u v : Nat} (hu : u ∈ s.all) (hv : v ∈ s.all) (h : rho L s u = rho L s v) : u = v := by
  have mu := (ordL_perm hL).mem_iff.2 hu
  have mv := (ordL_perm hL).mem_iff.2 hv
  have h1 := List.getElem_idxOf (List.idxOf_lt_length_of_mem mu)
  have h2 := List.getElem_idxOf (List.idxOf_lt_length_of_mem mv)
  have h' : (ordL L s).idxOf u = (ordL L s).idxOf v := h
  rw [← h1, ← h2]; congr 1
theorem rho_sur {L : List Nat} {s : Sh} (hn : s.all.Nodup) (hL : L.Perm s.lvs) {i : Nat} (hi : i < s.inn + L.length) : ∃ v, v ∈ s.all ∧ rho L s v = i := by
  have hl : i < (ordL L s).length := by unfold ordL; rw [List.length_append, Sh.pre_len]; exact hi
  exact ⟨(ordL L s)[i], (ordL_perm hL).mem_iff.1 (List.getElem_mem hl), idx_at ((ordL_perm hL).nodup_iff.2 hn) hl⟩
end Go.Proofs.YtjmnakkkimgifaaGreatDoor
namespace Go.Proofs.YtjmnakkkimgifaaGreatDoor
open Go Go.RowKit Go.Shelf
/-- The shape's children are K's. -/
def Sub (K : Nat → List Nat) : Sh → Prop
  | .lf v => K v = []
  | .nd v a b => K v = [a.top, b.top] ∧ Sub K a ∧ Sub K b
theorem fam_mem {t : List Nd} {n v u : Nat} : u ∈ famL t n v ↔ u < n ∧ 0 < u ∧ nP t u = (v : Int) := by
  unfold famL kidB
  rw [List.mem_filter, List.mem_range, Bool.and_eq_true, decide_eq_true_eq, decide_eq_true_eq]
theorem fam_pw (t : List Nd) (n v : Nat) : (famL t n v).Pairwise (· < ·) := List.Pairwise.filter _ List.pairwise_lt_range
theorem fam_two {t : List Nd} {n v x y : Nat} (hxy : x < y) (h : ∀ u, u ∈ famL t n v ↔ u = x ∨ u = y) : famL t n v = [x, y] := by
  refine sortE (R := (· < ·)) (fun a => Nat.lt_irrefl a) (fun a b h1 h2 => by omega) (fam_pw t n v) (by simp; exact hxy) fun u => ?_
  rw [h]; simp
theorem fam_none {t : List Nd} {n v : Nat} (h : ∀ u, u ∉ famL t n v) : famL t n v = [] := List.eq_nil_iff_forall_not_mem.2 h
/-- Each node has no child or two. -/
def BinT (t : List Nd) (n : Nat) : Prop := ∀ v, v < n → (famL t n v).length = 0 ∨ (famL t n v).length = 2
theorem len_two {α : Type} : ∀ {l : List α}, l.length = 2 → ∃ a b, l = [a, b]
  | [a, b], _ => ⟨a, b, rfl⟩
theorem shape_at {t : List Nd} {n : Nat} (hn : t.length = n) (hok : TreeOk t) (hb : BinT t n) : ∀ j v, n - v ≤ j → v < n → ∃ s : Sh, Sub (famL t n) s ∧ s.top = v ∧ (∀ u, u ∈ s.all ↔ u < n ∧ v ∈ pthF t n u) ∧ s.all.Nodup := by
  have hP := tok_par hn hok
  intro j
  induction j with
  | zero => intro v h1 h2; omega
  | succ j ih =>
    intro v h1 hv
    rcases hb v hv with h | h
    · have hk : famL t n v = [] := List.eq_nil_of_length_eq_zero h
      refine ⟨.lf v, hk, rfl, fun u => ?_, by simp [Sh.all]⟩
      have hl : leafB t v = true := by unfold leafB; rw [hn, hk]; rfl
      show u ∈ [v] ↔ _
      rw [List.mem_singleton]
      constructor
      · rintro rfl; exact ⟨hv, pth_self hP hv⟩
      · rintro ⟨hu, hm⟩; exact leaf_end hn hok hl u u (Nat.le_refl _) hu hm
    · obtain ⟨x, y, hk⟩ := len_two h
      have hx : x ∈ famL t n v := by rw [hk]; simp
      have hy : y ∈ famL t n v := by rw [hk]; simp
      have hxy : x < y := by have := fam_pw t n v; rw [hk] at this; simpa using this
      obtain ⟨x1, x2, x3⟩ := fam_mem.1 hx
      obtain ⟨y1, y2, y3⟩ := fam_mem.1 hy
      obtain ⟨px, _⟩ := hP x x2 x1
      have hvx : v < x := by have := (hP x x2 x1).2; omega
      have hvy : v < y := by have := (hP y y2 y1).2; omega
      obtain ⟨a, a1, a2, a3, a4⟩ := ih x (by omega) x1
      obtain ⟨b, b1, b2, b3, b4⟩ := ih y (by omega) y1
      have ex : pthF t n x = pthF t n v ++ [x] := by rw [pth_succ hP x2 x1, x3, Int.toNat_natCast]
      have ey : pthF t n y = pthF t n v ++ [y] := by rw [pth_succ hP y2 y1, y3, Int.toNat_natCast]
      refine ⟨.nd v a b, ⟨by rw [hk, a2, b2], a1, b1⟩, rfl, fun u => ?_, ?_⟩
      · show u ∈ v :: (a.all ++ b.all) ↔ _
        rw [List.mem_cons, List.mem_append, a3, b3]
        constructor
        · rintro (rfl | ⟨h2, h3⟩ | ⟨h2, h3⟩)
          · exact ⟨hv, pth_self hP hv⟩
          · refine ⟨h2, (pth_prefix hP u u (Nat.le_refl _) h2 h3).subset ?_⟩
            rw [ex]; exact List.mem_append_left _ (pth_self hP hv)
          · refine ⟨h2, (pth_prefix hP u u (Nat.le_refl _) h2 h3).subset ?_⟩
            rw [ey]; exact List.mem_append_left _ (pth_self hP hv)
        · rintro ⟨h2, h3⟩
          have key : ∀ m u, u ≤ m → u < n → v ∈ pthF t n u → u = v ∨ x ∈ pthF t n u ∨ y ∈ pthF t n u := by
            intro m
            induction m with
            | zero =>
              intro u hm hu hp
              obtain rfl : u = 0 := by omega
              rw [pth_zero, List.mem_singleton] at hp; exact .inl hp.symm
            | succ m ih2 =>
              intro u hm hu hp
              by_cases e : u = 0
              · subst e; rw [pth_zero, List.mem_singleton] at hp; exact .inl hp.symm
              · obtain ⟨p0, p1⟩ := hP u (by omega) hu
                have eu := pth_succ hP (show 0 < u by omega) hu
                rw [eu, List.mem_append] at hp
                rcases hp with hp | hp
                · rcases ih2 (nP t u).toNat (by omega) (by omega) hp with h5 | h5 | h5
                  · have hm2 : u ∈ famL t n v := fam_mem.2 ⟨hu, by omega, by omega⟩
                    rw [hk] at hm2
                    simp at hm2
                    rcases hm2 with rfl | rfl
                    · exact .inr (.inl (pth_self hP hu))
                    · exact .inr (.inr (pth_self hP hu))
                  · exact .inr (.inl (by rw [eu]; exact List.mem_append_left _ h5))
                  · exact .inr (.inr (by rw [eu]; exact List.mem_append_left _ h5))
                · rw [List.mem_singleton] at hp; exact .inl hp.symm
          rcases key u u (Nat.le_refl _) h2 h3 with h5 | h5 | h5
          · exact .inl h5
          · exact .inr (.inl ⟨h2, h5⟩)
          · exact .inr (.inr ⟨h2, h5⟩)
      · refine List.nodup_cons.2 ⟨fun hm => ?_, List.nodup_append.2 ⟨a4, b4, fun u hu w hw e => ?_⟩⟩
        · rcases List.mem_append.1 hm with hm | hm
          · have := pth_lt hP v v (Nat.le_refl _) hv x ((a3 v).1 hm).2; omega
          · have := pth_lt hP v v (Nat.le_refl _) hv y ((b3 v).1 hm).2; omega
        · subst e
          have h5 := (a3 u).1 hu
          have h6 := (b3 u).1 hw
          have h7 := pth_chain hP u u (Nat.le_refl _) h5.1 x y h5.2 h6.2 (by omega)
          rw [ey, List.mem_append] at h7
          rcases h7 with h7 | h7
          · have := pth_lt hP v v (Nat.le_refl _) hv x h7; omega
          · rw [List.mem_singleton] at h7; omega
/-- The shape of a binary tree. -/
theorem shape_of {t : List Nd} {n : Nat} (hn : t.length = n) (hok : TreeOk t) (hb : BinT t n) : ∃ s : Sh, Sub (famL t n) s ∧ s.top = 0 ∧ (∀ u, u ∈ s.all ↔ u < n) ∧ s.all.Nodup := by
  obtain ⟨s, h1, h2, h3, h4⟩ := shape_at hn hok hb n 0 (by omega) (by have := hok.1; omega)
  exact ⟨s, h1, h2, fun u => by rw [h3]; exact ⟨fun h => h.1, fun h => ⟨h, pth_root t n u⟩⟩, h4⟩
theorem sub_lvs {K : Nat → List Nat} : ∀ {s : Sh}, Sub K s → ∀ u, u ∈ s.lvs ↔ u ∈ s.all ∧ K u = []
  | .lf v, h, u => by
    show u ∈ [v] ↔ u ∈ [v] ∧ _
    rw [List.mem_singleton]
    exact ⟨fun e => ⟨e, by rw [e]; exact h⟩, fun h => h.1⟩
  | .nd v a b, h, u => by
    obtain ⟨h1, h2, h3⟩ := h
    show u ∈ a.lvs ++ b.lvs ↔ u ∈ v :: (a.all ++ b.all) ∧ _
    rw [List.mem_append, sub_lvs h2, sub_lvs h3, List.mem_cons, List.mem_append]
    constructor
    · rintro (⟨h4, h5⟩ | ⟨h4, h5⟩)
      · exact ⟨.inr (.inl h4), h5⟩
      · exact ⟨.inr (.inr h4), h5⟩
    · rintro ⟨rfl | h4 | h4, h5⟩
      · rw [h1] at h5; cases h5
      · exact .inl ⟨h4, h5⟩
      · exact .inr ⟨h4, h5⟩
theorem sub_in {K : Nat → List Nat} {z : Sh} : ∀ {s : Sh}, Sub K s → Sh.In z s → Sub K z
  | .lf v, h, hi => by rw [show z = .lf v from hi]; exact h
  | .nd v a b, h, hi => by
    rcases hi with hi | hi | hi
    · rw [hi]; exact h
    · exact sub_in h.2.1 hi
    · exact sub_in h.2.2 hi
/-- A numbered shape, with what it needs. -/
structure NumOk (t : List Nd) (L : List Nat) (s : Sh) : Prop where
  nd : s.all.Nodup
  perm : L.Perm s.lvs
  few : s.all.length ≤ 63
  name : ∀ v, v ∈ s.all → nmB (nS t v) = true
  inj : ∀ u v, u ∈ s.all → v ∈ s.all → nS t u = nS t v → u = v
theorem NumOk.len {t : List Nd} {L : List Nat} {s : Sh} (h : NumOk t L s) : (numS t L s).length = s.all.length := by
  rw [numS_len, h.perm.length_eq, Sh.lvs_inn, Sh.all_len]; omega
theorem NumOk.lt {t : List Nd} {L : List Nat} {s : Sh} (h : NumOk t L s) {v : Nat} (hv : v ∈ s.all) : rho L s v < s.all.length := by
  rw [← h.len]; exact (num_name (t := t) h.nd h.perm hv).1
theorem NumOk.sur {t : List Nd} {L : List Nat} {s : Sh} (h : NumOk t L s) {i : Nat} (hi : i < s.all.length) : ∃ v, v ∈ s.all ∧ rho L s v = i :=
  rho_sur h.nd h.perm (by rw [← numS_len t, h.len]; exact hi)
/-- The children of a node of the numbered tree. -/
theorem NumOk.kids {t : List Nd} {L : List Nat} {s : Sh} (h : NumOk t L s) {v : Nat} {a b : Sh} (hi : Sh.In (.nd v a b) s) (u : Nat) : u ∈ famL (numS t L s) s.all.length (rho L s v) ↔ u = rho L s a.top ∨ u = rho L s b.top := by
  have hp := par_num (t := t) h.nd h.perm
  obtain ⟨p1, p2, p3, p4⟩ := par_in hp hi
  have ha : a.top ∈ s.all := Sh.in_all hi _ (List.mem_cons_of_mem _ (List.mem_append_left _ a.top_mem))
  have hb : b.top ∈ s.all := Sh.in_all hi _ (List.mem_cons_of_mem _ (List.mem_append_right _ b.top_mem))
  have hv : v ∈ s.all := Sh.in_all hi _ List.mem_cons_self
  rw [fam_mem]
  constructor
  · rintro ⟨h1, h2, h3⟩
    obtain ⟨w, hw, rfl⟩ := h.sur h1
    rcases Sh.child_ex hw with e | ⟨v', a', b', hi', hc⟩
    · exfalso
      have := par_top hp
      rw [e] at h3; omega
    · obtain ⟨q1, q2, _, _⟩ := par_in hp hi'
      have hv' : v' ∈ s.all := Sh.in_all hi' _ List.mem_cons_self
      have e : v' = v := rho_inj h.perm hv' hv (by rcases hc with rfl | rfl <;> omega)
      have e2 : Sh.nd v' a' b' = Sh.nd v a b := Sh.in_uniq h.nd hi' hi e
      cases e2
      rcases hc with rfl | rfl
      · exact .inl rfl
      · exact .inr rfl
  · rintro (rfl | rfl)
    · exact ⟨h.lt ha, by omega, p1⟩
    · exact ⟨h.lt hb, by omega, p2⟩
theorem NumOk.nokid {t : List Nd} {L : List Nat} {s : Sh} (h : NumOk t L s) {v : Nat} (hv : v ∈ s.lvs) : famL (numS t L s) s.all.length (rho L s v) = [] := by
  refine fam_none fun u hu => ?_
  obtain ⟨h1, h2, h3⟩ := fam_mem.1 hu
  have hp := par_num (t := t) h.nd h.perm
  obtain ⟨w, hw, rfl⟩ := h.sur h1
  rcases Sh.child_ex hw with e | ⟨v', a', b', hi', hc⟩
  · have := par_top hp
    rw [e] at h3; omega
  · obtain ⟨q1, q2, _, _⟩ := par_in hp hi'
    have hv' : v' ∈ s.all := Sh.in_all hi' _ List.mem_cons_self
    have e : v' = v := rho_inj h.perm hv' (Sh.lvs_sub s v hv) (by rcases hc with rfl | rfl <;> omega)
    subst e
    -- a leaf that is an inner node too
    have key : ∀ (s : Sh), s.all.Nodup → Sh.In (.nd v' a' b') s → v' ∈ s.lvs → False := by
      intro s
      induction s with
      | lf u => intro _ hi _; cases hi
      | nd u x y ihx ihy =>
        intro hn hi hm
        obtain ⟨n1, n2⟩ := List.nodup_cons.1 hn
        obtain ⟨n3, n4, n5⟩ := List.nodup_append.1 n2
        rcases hi with hi | hi | hi
        · cases hi
          rcases List.mem_append.1 hm with hm | hm
          · exact n1 (List.mem_append_left _ (Sh.lvs_sub _ _ hm))
          · exact n1 (List.mem_append_right _ (Sh.lvs_sub _ _ hm))
        · rcases List.mem_append.1 hm with hm | hm
          · exact ihx n3 hi hm
          · exact n5 _ (Sh.in_all hi _ List.mem_cons_self) _ (Sh.lvs_sub _ _ hm) rfl
        · rcases List.mem_append.1 hm with hm | hm
          · exact n5 _ (Sh.lvs_sub _ _ hm) _ (Sh.in_all hi _ List.mem_cons_self) rfl
          · exact ihy n4 hi hm
    exact key s h.nd hi' hv
/-- The numbered tree has this shape. -/
theorem NumOk.shape {t : List Nd} {L : List Nat} {s : Sh} (h : NumOk t L s) : ∀ z : Sh, Sh.In z s → ∃ r, Sub (famL (numS t L s) s.all.length) r ∧ Sh.Sw (z.map (rho L s)) r
  | .lf v, hi => by
    have hv : v ∈ s.lvs := by
      have key : ∀ (s : Sh), Sh.In (.lf v) s → v ∈ s.lvs := by
        intro s
        induction s with
        | lf u => intro hi; cases hi; exact List.mem_singleton.2 rfl
        | nd u x y ihx ihy =>
          intro hi
          rcases hi with hi | hi | hi
          · cases hi
          · exact List.mem_append_left _ (ihx hi)
          · exact List.mem_append_right _ (ihy hi)
      exact key s hi
    exact ⟨.lf (rho L s v), h.nokid hv, .lf _⟩
  | .nd v a b, hi => by
    obtain ⟨ra, a1, a2⟩ := NumOk.shape h a (Sh.in_trans (show Sh.In a (.nd v a b) from .inr (.inl a.in_self)) hi)
    obtain ⟨rb, b1, b2⟩ := NumOk.shape h b (Sh.in_trans (show Sh.In b (.nd v a b) from .inr (.inr b.in_self)) hi)
    have ta : ra.top = rho L s a.top := by rw [← a2.top]; cases a <;> rfl
    have tb : rb.top = rho L s b.top := by rw [← b2.top]; cases b <;> rfl
    have hk := h.kids hi
    have ha : a.top ∈ s.all := Sh.in_all hi _ (List.mem_cons_of_mem _ (List.mem_append_left _ a.top_mem))
    have hb : b.top ∈ s.all := Sh.in_all hi _ (List.mem_cons_of_mem _ (List.mem_append_right _ b.top_mem))
    have hne : rho L s a.top ≠ rho L s b.top := fun e => by
      have e2 := rho_inj h.perm ha hb e
      have key : ∀ (s : Sh), s.all.Nodup → Sh.In (.nd v a b) s → a.top ≠ b.top := by
        intro s
        induction s with
        | lf u => intro _ hi; cases hi
        | nd u x y ihx ihy =>
          intro hn hi
          obtain ⟨n1, n2⟩ := List.nodup_cons.1 hn
          obtain ⟨n3, n4, n5⟩ := List.nodup_append.1 n2
          rcases hi with hi | hi | hi
          · cases hi; exact n5 _ a.top_mem _ b.top_mem
          · exact ihx n3 hi
          · exact ihy n4 hi
      exact key s h.nd hi e2
    rcases Nat.lt_or_ge (rho L s a.top) (rho L s b.top) with q | q
    · exact ⟨.nd (rho L s v) ra rb, ⟨by rw [fam_two q hk, ta, tb], a1, b1⟩, .nd _ a2 b2⟩
    · exact ⟨.nd (rho L s v) rb ra, ⟨by rw [fam_two (show rho L s b.top < rho L s a.top by omega) (fun u => by rw [hk]; exact Or.comm), ta, tb], b1, a1⟩, .sw _ a2 b2⟩
end Go.Proofs.YtjmnakkkimgifaaGreatDoor
namespace Go.Proofs.YtjmnakkkimgifaaGreatDoor
open Go Go.RowKit Go.Shelf
/-- The shape that children make. -/
def shF (K : Nat → List Nat) : Nat → Nat → Sh
  | 0, v => .lf v
  | f + 1, v => match K v with
    | [a, b] => .nd v (shF K f a) (shF K f b)
    | _ => .lf v
theorem shF_sub {K : Nat → List Nat} : ∀ (s : Sh), Sub K s → ∀ f, s.inn ≤ f → shF K f s.top = s
  | .lf v, h, f, _ => by
    cases f with
    | zero => rfl
    | succ f => show (match K v with | [a, b] => _ | _ => _) = _; rw [show K v = [] from h]; rfl
  | .nd v a b, h, f, hf => by
    have hf' : a.inn + b.inn + 1 ≤ f := hf
    cases f with
    | zero => omega
    | succ f =>
      show (match K v with | [a, b] => Sh.nd v (shF K f a) (shF K f b) | _ => Sh.lf v) = _
      rw [h.1]
      show Sh.nd v (shF K f a.top) (shF K f b.top) = _
      rw [shF_sub a h.2.1 f (by omega), shF_sub b h.2.2 f (by omega)]
/-- x and y change places. -/
def swp (x y v : Nat) : Nat := if v = x then y else if v = y then x else v
theorem swp_swp (x y v : Nat) : swp x y (swp x y v) = v := by
  unfold swp
  by_cases e1 : v = x
  · subst e1
    rw [if_pos rfl]
    by_cases e2 : y = v
    · rw [if_pos e2, e2]
    · rw [if_neg e2, if_pos rfl]
  · rw [if_neg e1]
    by_cases e2 : v = y
    · subst e2; rw [if_pos rfl, if_pos rfl]
    · rw [if_neg e2, if_neg e1, if_neg e2]
theorem swp_comm (x y v : Nat) : swp x y v = swp y x v := by
  unfold swp
  by_cases e1 : v = x
  · by_cases e2 : v = y
    · rw [if_pos e1, if_pos e2, ← e1, ← e2]
    · rw [if_pos e1, if_neg e2, if_pos e1]
  · rw [if_neg e1]
    by_cases e2 : v = y
    · rw [if_pos e2, if_pos e2]
    · rw [if_neg e2, if_neg e2, if_neg e1]
/-- The part X is put in the place of Y, and Y in that of X. -/
def rep (x y : Nat) (X Y : Sh) : Sh → Sh
  | .lf v => if v = x then Y else if v = y then X else .lf v
  | .nd v a b => if v = x then Y else if v = y then X else .nd v (rep x y X Y a) (rep x y X Y b)
theorem rep_x {x y : Nat} {X Y : Sh} {z : Sh} (h : z.top = x) : rep x y X Y z = Y := by
  cases z <;> exact if_pos h
theorem rep_y {x y : Nat} {X Y : Sh} {z : Sh} (h : z.top = y) (hne : z.top ≠ x) : rep x y X Y z = X := by
  cases z <;> exact (if_neg hne).trans (if_pos h)
theorem rep_lf {x y : Nat} {X Y : Sh} {v : Nat} (h1 : v ≠ x) (h2 : v ≠ y) : rep x y X Y (.lf v) = .lf v := (if_neg h1).trans (if_neg h2)
theorem rep_nd {x y : Nat} {X Y : Sh} {v : Nat} {a b : Sh} (h1 : v ≠ x) (h2 : v ≠ y) : rep x y X Y (.nd v a b) = .nd v (rep x y X Y a) (rep x y X Y b) := (if_neg h1).trans (if_neg h2)
theorem rep_top {x y : Nat} {X Y : Sh} (hX : X.top = x) (hY : Y.top = y) (z : Sh) : (rep x y X Y z).top = swp x y z.top := by
  unfold swp
  by_cases e1 : z.top = x
  · rw [rep_x e1, if_pos e1, hY]
  · rw [if_neg e1]
    by_cases e2 : z.top = y
    · rw [rep_y e2 e1, if_pos e2, hX]
    · rw [if_neg e2]
      cases z with
      | lf v => exact congrArg Sh.top (rep_lf (v := v) e1 e2)
      | nd v a b => exact (congrArg Sh.top (rep_nd (v := v) (a := a) (b := b) e1 e2)).trans rfl
theorem rep_sw {x y : Nat} {X Y X' Y' s s' : Sh} (hX : Sh.Sw X X') (hY : Sh.Sw Y Y') (h : Sh.Sw s s') : Sh.Sw (rep x y X Y s) (rep x y X' Y' s') := by
  induction h with
  | lf v =>
    by_cases e1 : v = x
    · rw [rep_x (z := .lf v) e1, rep_x (z := .lf v) e1]; exact hY
    · by_cases e2 : v = y
      · rw [rep_y (z := .lf v) e2 e1, rep_y (z := .lf v) e2 e1]; exact hX
      · rw [rep_lf e1 e2, rep_lf e1 e2]; exact .lf v
  | @nd v a b a' b' _ _ h1 h2 =>
    by_cases e1 : v = x
    · rw [rep_x (z := .nd v a b) e1, rep_x (z := .nd v a' b') e1]; exact hY
    · by_cases e2 : v = y
      · rw [rep_y (z := .nd v a b) e2 e1, rep_y (z := .nd v a' b') e2 e1]; exact hX
      · rw [rep_nd e1 e2, rep_nd e1 e2]; exact .nd v h1 h2
  | @sw v a b a' b' _ _ h1 h2 =>
    by_cases e1 : v = x
    · rw [rep_x (z := .nd v a b) e1, rep_x (z := .nd v b' a') e1]; exact hY
    · by_cases e2 : v = y
      · rw [rep_y (z := .nd v a b) e2 e1, rep_y (z := .nd v b' a') e2 e1]; exact hX
      · rw [rep_nd e1 e2, rep_nd e1 e2]; exact .sw v h1 h2
theorem map_top (f : Nat → Nat) (s : Sh) : (s.map f).top = f s.top := by cases s <;> rfl
theorem rep_map {f : Nat → Nat} {x y : Nat} {X Y : Sh} : ∀ {s : Sh}, (∀ u, u ∈ s.all → (f u = f x → u = x) ∧ (f u = f y → u = y)) → rep (f x) (f y) (X.map f) (Y.map f) (s.map f) = (rep x y X Y s).map f
  | .lf v, h => by
    obtain ⟨h1, h2⟩ := h v (List.mem_singleton.2 rfl)
    by_cases e1 : v = x
    · rw [rep_x (show ((Sh.lf v).map f).top = f x by rw [map_top]; show f v = f x; rw [e1]), rep_x (z := .lf v) e1]
    · by_cases e2 : v = y
      · rw [rep_y (show ((Sh.lf v).map f).top = f y by rw [map_top]; show f v = f y; rw [e2]) (by rw [map_top]; exact fun e => e1 (h1 e)), rep_y (z := .lf v) e2 e1]
      · rw [rep_lf e1 e2]; exact rep_lf (fun e => e1 (h1 e)) (fun e => e2 (h2 e))
  | .nd v a b, h => by
    obtain ⟨h1, h2⟩ := h v List.mem_cons_self
    have ha := rep_map (f := f) (x := x) (y := y) (X := X) (Y := Y) (s := a) fun u hu => h u (List.mem_cons_of_mem _ (List.mem_append_left _ hu))
    have hb := rep_map (f := f) (x := x) (y := y) (X := X) (Y := Y) (s := b) fun u hu => h u (List.mem_cons_of_mem _ (List.mem_append_right _ hu))
    by_cases e1 : v = x
    · rw [rep_x (show ((Sh.nd v a b).map f).top = f x by rw [map_top]; show f v = f x; rw [e1]), rep_x (z := .nd v a b) e1]
    · by_cases e2 : v = y
      · rw [rep_y (show ((Sh.nd v a b).map f).top = f y by rw [map_top]; show f v = f y; rw [e2]) (by rw [map_top]; exact fun e => e1 (h1 e)), rep_y (z := .nd v a b) e2 e1]
      · rw [rep_nd e1 e2]
        show rep (f x) (f y) (X.map f) (Y.map f) (.nd (f v) (a.map f) (b.map f)) = .nd (f v) ((rep x y X Y a).map f) ((rep x y X Y b).map f)
        rw [rep_nd (fun e => e1 (h1 e)) (fun e => e2 (h2 e)), ha, hb]
/-- Twice exchanged is as it was. -/
theorem rep_rep {x y : Nat} {X Y : Sh} (hX : X.top = x) (hY : Y.top = y) (hxy : x ≠ y) : ∀ {s : Sh}, (∀ z, Sh.In z s → (z.top = x → z = X) ∧ (z.top = y → z = Y)) → rep y x Y X (rep x y X Y s) = s
  | .lf v, h => by
    obtain ⟨h1, h2⟩ := h (.lf v) rfl
    by_cases e1 : v = x
    · rw [rep_x (z := .lf v) e1, rep_x hY]; exact (h1 e1).symm
    · by_cases e2 : v = y
      · rw [rep_y (z := .lf v) e2 e1, rep_y hX (by rw [hX]; exact hxy)]; exact (h2 e2).symm
      · rw [rep_lf e1 e2, rep_lf e2 e1]
  | .nd v a b, h => by
    obtain ⟨h1, h2⟩ := h (.nd v a b) (.inl rfl)
    by_cases e1 : v = x
    · rw [rep_x (z := .nd v a b) e1, rep_x hY]; exact (h1 e1).symm
    · by_cases e2 : v = y
      · rw [rep_y (z := .nd v a b) e2 e1, rep_y hX (by rw [hX]; exact hxy)]; exact (h2 e2).symm
      · rw [rep_nd e1 e2, rep_nd e2 e1, rep_rep hX hY hxy fun z hz => h z (.inr (.inl hz)), rep_rep hX hY hxy fun z hz => h z (.inr (.inr hz))]
/-- The nodes below the top. -/
def Sh.low : Sh → List Nat
  | .lf _ => []
  | .nd _ a b => a.all ++ b.all
theorem low_all : ∀ (s : Sh) (u : Nat), u ∈ s.all ↔ u = s.top ∨ u ∈ s.low
  | .lf v, u => by show u ∈ [v] ↔ u = v ∨ u ∈ []; simp
  | .nd v a b, u => by show u ∈ v :: (a.all ++ b.all) ↔ u = v ∨ u ∈ a.all ++ b.all; rw [List.mem_cons]
theorem low_nd (v : Nat) (a b : Sh) : (Sh.nd v a b).low = a.all ++ b.all := rfl
/-- Where neither lies below, nothing turns. -/
theorem sub_keep {K : Nat → List Nat} {x y : Nat} : ∀ {z : Sh}, Sub K z → x ∉ z.low → y ∉ z.low → Sub (fun v => (K v).map (swp x y)) z
  | .lf v, h, _, _ => by show (K v).map _ = []; rw [show K v = [] from h]; rfl
  | .nd v a b, h, hx, hy => by
    rw [low_nd, List.mem_append] at hx hy
    have fix : ∀ u, u ∈ a.all ∨ u ∈ b.all → swp x y u = u := fun u hu => by
      unfold swp
      rw [if_neg (fun e => hx (by rw [← e]; exact hu)), if_neg (fun e => hy (by rw [← e]; exact hu))]
    refine ⟨?_, sub_keep h.2.1 (fun hm => hx (.inl ((low_all a x).2 (.inr hm)))) (fun hm => hy (.inl ((low_all a y).2 (.inr hm)))), sub_keep h.2.2 (fun hm => hx (.inr ((low_all b x).2 (.inr hm)))) (fun hm => hy (.inr ((low_all b y).2 (.inr hm))))⟩
    show (K v).map (swp x y) = _
    rw [h.1]
    show [swp x y a.top, swp x y b.top] = _
    rw [fix _ (.inl a.top_mem), fix _ (.inr b.top_mem)]
/-- The exchanged shape has the exchanged children. -/
theorem sub_rep {K : Nat → List Nat} {x y : Nat} {X Y : Sh} (hX : X.top = x) (hY : Y.top = y) (sX : Sub K X) (sY : Sub K Y) (x1 : x ∉ X.low) (x2 : y ∉ X.low) (y1 : x ∉ Y.low) (y2 : y ∉ Y.low) : ∀ {z : Sh}, Sub K z → Sub (fun v => (K v).map (swp x y)) (rep x y X Y z)
  | .lf v, h => by
    by_cases e1 : v = x
    · rw [rep_x (z := .lf v) e1]; exact sub_keep sY y1 y2
    · by_cases e2 : v = y
      · rw [rep_y (z := .lf v) e2 e1]; exact sub_keep sX x1 x2
      · rw [rep_lf e1 e2]; show (K v).map _ = []; rw [show K v = [] from h]; rfl
  | .nd v a b, h => by
    by_cases e1 : v = x
    · rw [rep_x (z := .nd v a b) e1]; exact sub_keep sY y1 y2
    · by_cases e2 : v = y
      · rw [rep_y (z := .nd v a b) e2 e1]; exact sub_keep sX x1 x2
      · rw [rep_nd e1 e2]
        refine ⟨?_, sub_rep hX hY sX sY x1 x2 y1 y2 h.2.1, sub_rep hX hY sX sY x1 x2 y1 y2 h.2.2⟩
        show (K v).map (swp x y) = _
        rw [h.1, rep_top hX hY, rep_top hX hY]; rfl
/-- How often u stands in a shape. -/
theorem rep_count {x y : Nat} {X Y : Sh} (u : Nat) : ∀ {s : Sh}, (∀ z, Sh.In z s → (z.top = x → z = X) ∧ (z.top = y → z = Y)) → s.all.Nodup → x ∉ Y.all → y ∉ X.all →
    (rep x y X Y s).all.count u + (if x ∈ s.all then X.all.count u else 0) + (if y ∈ s.all then Y.all.count u else 0) = s.all.count u + (if x ∈ s.all then Y.all.count u else 0) + (if y ∈ s.all then X.all.count u else 0)
  | .lf v, h, _, hxY, hyX => by
    obtain ⟨h1, h2⟩ := h (.lf v) rfl
    by_cases e1 : v = x
    · have eX := h1 e1
      have hy : y ∉ (Sh.lf v).all := by rw [eX]; exact hyX
      rw [rep_x (z := .lf v) e1, ← eX]
      rw [if_neg hy, if_neg hy, if_pos (show x ∈ (Sh.lf v).all from List.mem_singleton.2 e1.symm), if_pos (show x ∈ (Sh.lf v).all from List.mem_singleton.2 e1.symm)]
      omega
    · have hx : x ∉ (Sh.lf v).all := fun hm => e1 (List.mem_singleton.1 hm).symm
      rw [if_neg hx, if_neg hx]
      by_cases e2 : v = y
      · have eY := h2 e2
        rw [rep_y (z := .lf v) e2 e1, ← eY]
        rw [if_pos (show y ∈ (Sh.lf v).all from List.mem_singleton.2 e2.symm), if_pos (show y ∈ (Sh.lf v).all from List.mem_singleton.2 e2.symm)]
        omega
      · have hy : y ∉ (Sh.lf v).all := fun hm => e2 (List.mem_singleton.1 hm).symm
        rw [rep_lf e1 e2, if_neg hy, if_neg hy]
  | .nd v a b, h, hn, hxY, hyX => by
    obtain ⟨h1, h2⟩ := h (.nd v a b) (.inl rfl)
    obtain ⟨n1, n2⟩ := List.nodup_cons.1 hn
    obtain ⟨n3, n4, n5⟩ := List.nodup_append.1 n2
    by_cases e1 : v = x
    · have eX := h1 e1
      have hy : y ∉ (Sh.nd v a b).all := by rw [eX]; exact hyX
      rw [rep_x (z := .nd v a b) e1, ← eX]
      rw [if_neg hy, if_neg hy, if_pos (show x ∈ (Sh.nd v a b).all from List.mem_cons.2 (.inl e1.symm)), if_pos (show x ∈ (Sh.nd v a b).all from List.mem_cons.2 (.inl e1.symm))]
      omega
    · by_cases e2 : v = y
      · have eY := h2 e2
        have hx : x ∉ (Sh.nd v a b).all := by rw [eY]; exact hxY
        rw [rep_y (z := .nd v a b) e2 e1, ← eY]
        rw [if_neg hx, if_neg hx, if_pos (show y ∈ (Sh.nd v a b).all from List.mem_cons.2 (.inl e2.symm)), if_pos (show y ∈ (Sh.nd v a b).all from List.mem_cons.2 (.inl e2.symm))]
        omega
      · have ca := rep_count (x := x) (y := y) (X := X) (Y := Y) u (s := a) (fun z hz => h z (.inr (.inl hz))) n3 hxY hyX
        have cb := rep_count (x := x) (y := y) (X := X) (Y := Y) u (s := b) (fun z hz => h z (.inr (.inr hz))) n4 hxY hyX
        rw [rep_nd e1 e2]
        show (v :: ((rep x y X Y a).all ++ (rep x y X Y b).all)).count u + _ + _ = (v :: (a.all ++ b.all)).count u + _ + _
        rw [List.count_cons, List.count_cons, List.count_append, List.count_append]
        have split2 : ∀ w, w ≠ v → ∀ c : Nat, (if w ∈ (Sh.nd v a b).all then c else 0) = (if w ∈ a.all then c else 0) + (if w ∈ b.all then c else 0) := fun w hw c => by
          have hm : w ∈ (Sh.nd v a b).all ↔ w ∈ a.all ∨ w ∈ b.all := by
            show w ∈ v :: (a.all ++ b.all) ↔ _
            rw [List.mem_cons, List.mem_append]
            exact ⟨fun h => h.resolve_left hw, .inr⟩
          by_cases qa : w ∈ a.all
          · have qb : w ∉ b.all := fun q => n5 w qa w q rfl
            rw [if_pos (hm.2 (.inl qa)), if_pos qa, if_neg qb]; rfl
          · by_cases qb : w ∈ b.all
            · rw [if_pos (hm.2 (.inr qb)), if_neg qa, if_pos qb]; omega
            · rw [if_neg (fun q => (hm.1 q).elim qa qb), if_neg qa, if_neg qb]
        rw [split2 x (fun e => e1 e.symm), split2 x (fun e => e1 e.symm), split2 y (fun e => e2 e.symm), split2 y (fun e => e2 e.symm)]
        omega
theorem rep_perm {x y : Nat} {X Y s : Sh} (h : ∀ z, Sh.In z s → (z.top = x → z = X) ∧ (z.top = y → z = Y)) (hn : s.all.Nodup) (hxY : x ∉ Y.all) (hyX : y ∉ X.all) (hx : x ∈ s.all) (hy : y ∈ s.all) : (rep x y X Y s).all.Perm s.all := by
  rw [List.perm_iff_count]
  intro u
  have := rep_count u h hn hxY hyX
  rw [if_pos hx, if_pos hx, if_pos hy, if_pos hy] at this
  omega
end Go.Proofs.YtjmnakkkimgifaaGreatDoor
namespace Go.Proofs.YtjmnakkkimgifaaGreatDoor
open Go
section
variable {P : Program} {ops : Array Oper} {md : Region.Mode} {C : World → Prop}

/-- Whatever order is picked for the first f operations; then L. -/
def anyLQ (P : Program) (md : Region.Mode) (ops : Array Oper) (C : World → Prop) (n : Nat) (L : Array Bool → Act → Prop) : Nat → Array Bool → Act → Prop
  | 0, listed, a => L listed a
  | f + 1, listed, a => Region.ready md ops listed ≠ [] ∧ ∀ i ∈ Region.ready md ops listed, i < n ∧ qOp P ops C i (anyLQ P md ops C n L f (listed.setIfInBounds i true)) a

theorem any_of_LQ {n g : Nat} {L : Array Bool → Act → Prop} {Q' : Exit → Act → World → Prop} (hL : ∀ listed a w, C w → L listed a → wpAny P md ops Q' g listed a w) :
    ∀ (f : Nat) (listed : Array Bool) (a : Act) (w : World), C w → anyLQ P md ops C n L f listed a → wpAny P md ops Q' (f + g) listed a w
  | 0, listed, a, w, hC, h => by rw [Nat.zero_add]; exact hL _ _ _ hC h
  | f + 1, listed, a, w, hC, h => by
    rw [show f + 1 + g = (f + g) + 1 by omega]
    exact ⟨fun h0 => absurd h0 h.1, fun i hi => wpOp_of_qOp hC (fun a' w' hw' h' => any_of_LQ hL f _ a' w' hw' h') (h.2 i hi).2⟩

theorem anyLQ_first {n i : Nat} {oi : Oper} {v : Value} {L : Array Bool → Act → Prop} (hi : ops[i]? = some oi) (hsel : ∀ (j : Nat) (o : Oper) cs b, ops[j]? = some o → o.op ≠ .select cs b)
    (hs : Region.sinkB md ops n = true) (hc : Region.chainB md ops n = true) (hn : n < ops.size) (hin : i < n)
    (hdone : ∀ listed a, L listed a → ∀ j ∈ Region.ready md ops listed, n ≤ j) :
    ∀ (f : Nat) (listed : Array Bool) (a : Act), HeadInv md ops n listed →
      (∀ j oj, ops[j]? = some oj → j ≠ i → listed.getD j true = false → (∀ e ∈ oj.after, Region.binds md e = true → e.on ≠ i) → oi.apart ops oj = true) →
      i ∈ Region.ready md ops listed → YieldsIn P ops C oi v a →
      anyLQ P md ops C n L f (listed.setIfInBounds i true) (a.put oi.dst v) → anyLQ P md ops C n L (f + 1) listed a := by
  intro f
  induction f with
  | zero =>
    intro listed a inv _ hr hy H
    have hun := (mem_ready.1 hr).1
    refine ⟨fun h => (by rw [h] at hr; cases hr), fun j hj => ?_⟩
    have hjn : j < n := by
      rcases Nat.lt_or_ge j n with h | h
      · exact h
      · exact absurd hj (tail_waits hs hc hn inv _ i rfl hin hun j h)
    refine ⟨hjn, ?_⟩
    by_cases hji : j = i
    · subst hji; exact hy.qOp hi H
    · have := hdone _ _ H j (ready_mono hj hji)
      omega
  | succ f ih =>
    intro listed a inv hfree hr hy H
    have hun := (mem_ready.1 hr).1
    refine ⟨fun h => (by rw [h] at hr; cases hr), fun j hj => ?_⟩
    have hjn : j < n := by
      rcases Nat.lt_or_ge j n with h | h
      · exact h
      · exact absurd hj (tail_waits hs hc hn inv _ i rfl hin hun j h)
    refine ⟨hjn, ?_⟩
    by_cases hji : j = i
    · subst hji; exact hy.qOp hi H
    · have h1 := (H.2 j (ready_mono hj hji)).2
      obtain ⟨hjun, oj, hoj, hall⟩ := mem_ready.1 hj
      have hnot : ∀ e ∈ oj.after, Region.binds md e = true → e.on ≠ i := fun e he hb heq => by
        have h1 := hall e he hb
        rw [heq, getD_both hun] at h1
        cases h1
      have h2 := qOp_put hoj (hfree j oj hoj hji hjun hnot) (fun cs b => hsel i oi cs b hi) (fun cs b => hsel j oj cs b hoj) hy h1
      have hfree' : ∀ k ok, ops[k]? = some ok → k ≠ i → (listed.setIfInBounds j true).getD k true = false →
          (∀ e ∈ ok.after, Region.binds md e = true → e.on ≠ i) → oi.apart ops ok = true := fun k ok hk hki hun hno => by
        refine hfree k ok hk hki ?_ hno
        by_cases hjk : j = k
        · subst hjk; exact hjun
        · rw [getD_set_ne true hjk] at hun; exact hun
      refine qOp_mono (fun a' h3 => ih (listed.setIfInBounds j true) a' (inv.set hj hjn) hfree' (ready_mono hr (Ne.symm hji)) h3.1 ?_) h2
      rw [Array.setIfInBounds_comm _ _ hji]
      exact h3.2

theorem anyLQ_lex {n g : Nat} {Lq : Act → Prop} (hsel : Region.noSelect ops = true) (hs : Region.sinkB md ops n = true) (hc : Region.chainB md ops n = true) (hn : n < ops.size) :
    ∀ (l : List Oper) (k : Nat) (listed : Array Bool) (a : Act), (∀ j, j < l.length → l[j]? = ops[k + j]?) → k + l.length = n → HeadInv md ops n listed →
    Region.lexHead md ops g l.length k listed = true → wpQuiet P ops C Lq l a →
    anyLQ P md ops C n (fun listed' a' => Region.seqB md ops g n listed' = true ∧ Lq a') l.length listed a
  | [], k, listed, a, _, hk, _, hB, h => by
    have : k = n := by simpa using hk
    subst this
    exact ⟨by simpa [Region.lexHead] using hB, h⟩
  | o :: l, k, listed, a, hl, hk, inv, hB, h => by
    have h0 : ops[k]? = some o := by simpa using (hl 0 (by simp)).symm
    simp only [List.length_cons, Region.lexHead, Bool.and_eq_true] at hB
    obtain ⟨⟨hr, hf⟩, hB'⟩ := hB
    have hkn : k < n := by simp only [List.length_cons] at hk; omega
    have hr' : k ∈ Region.ready md ops listed := by simpa using hr
    have hst : qOp P ops C k (wpQuiet P ops C Lq l) a := by unfold qOp; simp only [h0]; exact h
    obtain ⟨v, hy, hK⟩ := yieldsIn_of_qOp h0 hst
    exact anyLQ_first h0 (Region.noSelect_spec hsel) hs hc hn hkn (fun listed' a' hL => seqB_ready hL.1) l.length listed a inv (Region.free_spec h0 hf) hr' hy
      (anyLQ_lex hsel hs hc hn l (k + 1) _ _ (fun j hj => by have := hl (j + 1) (by simp; omega); simpa [Nat.add_assoc, Nat.add_comm 1 j] using this) (by simp only [List.length_cons] at hk; omega) (inv.set hr' hkn) hB' hK)

/-- ONE WALK OF THE TEXT's ORDER: the head quiet in the class C, then the forced tail from any world of the class. -/
theorem wp_quiet_tail {id : Nat} {Q : Exit → Act → World → Prop} {a : Act} {w : World} {l : List Oper} (n : Nat) (hm : P.follows .mixedOrders = true) (hB : Region.lexTailB .any l.toArray n = true) (hC : C { w with drawn := w.drawn + 1 })
    (h : wpQuiet P l.toArray C (fun a' => ∀ w', C w' → wpList P l.toArray Q (l.drop n) a' w') (l.take n) a) : (Code.region id l.toArray true).wp P Q a w := by
  simp only [Region.lexTailB, Bool.and_eq_true, decide_eq_true_eq] at hB
  obtain ⟨⟨⟨⟨hsel, hn⟩, hs⟩, hc⟩, hlex⟩ := hB
  have hn' : n < l.length := by simpa using hn
  have htl : (l.take n).length = n := by simp; omega
  have hdl : (l.drop n).length = l.toArray.size - n := by simp
  have inv0 : HeadInv .any l.toArray n (Array.replicate l.toArray.size false) :=
    ⟨by simp, fun j oj _ hl => (by rw [getD_replicate_false] at hl; cases hl), fun t _ ht => getD_in (by simpa using ht) (getD_replicate_false _ _)⟩
  have H := anyLQ_lex (md := .any) (C := C) (g := l.toArray.size - n) hsel hs hc hn (l.take n) 0 _ a (fun j hj => by
    have hj' : j < n := by rw [htl] at hj; exact hj
    simp [hj']) (by simpa using htl) inv0 (by rw [htl]; exact hlex) h
  refine wp_region_any hm ?_
  have := any_of_LQ (Q' := Q) (C := C) (g := l.toArray.size - n) (fun listed a' w' hw' hL => by
    have := wpAny_of_seq (md := .any) (Q' := Q) (l.drop n) n listed a' w' (fun j => by simp [List.getElem?_drop]) (by rw [hdl]; exact hL.1) (hL.2 w' hw')
    rwa [hdl] at this) _ _ _ _ hC H
  rw [htl, show n + (l.toArray.size - n) = l.toArray.size by omega] at this
  exact this

/-- .. at the class 'w after some draws'. -/
theorem wp_quiet_tail_lit {id : Nat} {Q : Exit → Act → World → Prop} {a : Act} {w : World} {l : List Oper} (n : Nat) (hm : P.follows .mixedOrders = true) (hB : Region.lexTailB .any l.toArray n = true)
    (h : wpQuiet P l.toArray (fun w' => ∃ m, w' = w.drewN m) (fun a' => ∀ w', (∃ m, w' = w.drewN m) → wpList P l.toArray Q (l.drop n) a' w') (l.take n) a) : (Code.region id l.toArray true).wp P Q a w :=
  wp_quiet_tail (C := fun w' => ∃ m, w' = w.drewN m) n hm hB ⟨1, rfl⟩ h
end

open Go.RowKit
/-- A world that keeps all that lay in W. -/
structure Wb (W : World) where
  w : World
  h : Below W.heap.size W w
instance (W : World) : Inhabited (Wb W) := ⟨⟨W, Below.refl _ _⟩⟩
section
variable {P : Program}
/-- The class of these worlds: a call that lays blocks of its own stays in it. -/
theorem wp_quiet_wb {id : Nat} {Q : Exit → Act → World → Prop} {a : Act} {w : World} {l : List Oper} (hm : P.follows .mixedOrders = true) (hB : Region.lexB .any l.toArray = true)
    (h : wpQuiet P l.toArray (fun w' => ∃ i : Wb w, w' = i.w) (fun a' => ∀ w', (∃ i : Wb w, w' = i.w) → Q .normal a' w') l a) : (Code.region id l.toArray true).wp P Q a w :=
  wp_region_quiet (C := fun w' => ∃ i : Wb w, w' = i.w) hm hB ⟨⟨{ w with drawn := w.drawn + 1 }, (Below.refl w.heap.size w).drew⟩, rfl⟩ (by simpa using h)
theorem wp_quiet_wb_tail {id : Nat} {Q : Exit → Act → World → Prop} {a : Act} {w : World} {l : List Oper} (n : Nat) (hm : P.follows .mixedOrders = true) (hB : Region.lexTailB .any l.toArray n = true)
    (h : wpQuiet P l.toArray (fun w' => ∃ i : Wb w, w' = i.w) (fun a' => ∀ w', (∃ i : Wb w, w' = i.w) → wpList P l.toArray Q (l.drop n) a' w') (l.take n) a) : (Code.region id l.toArray true).wp P Q a w :=
  wp_quiet_tail (C := fun w' => ∃ i : Wb w, w' = i.w) n hm hB ⟨⟨{ w with drawn := w.drawn + 1 }, (Below.refl w.heap.size w).drew⟩, rfl⟩ h
theorem quiet_of_wb {f : FuncId} {args : Array Value} {W : World} {i : Wb W} {v : Value} (h : Calls P f args i.w fun e w' => e = .returned v ∧ Below i.w.heap.size i.w w') :
    Calls P f args i.w fun e w'' => e = .returned v ∧ ∃ j : Wb W, w'' = j.w :=
  h.mono fun _ w' ⟨he, hb⟩ => ⟨he, ⟨w', i.h.trans (hb.mono i.h.size)⟩, rfl⟩
theorem quiet_of_wb_drew {f : FuncId} {args : Array Value} {W : World} {i : Wb W} {v : Value} (h : Calls P f args i.w fun e w' => e = .returned v ∧ ∃ n, w' = i.w.drewN n) :
    Calls P f args i.w fun e w'' => e = .returned v ∧ ∃ j : Wb W, w'' = j.w :=
  h.mono fun _ w' ⟨he, _, hb⟩ => ⟨he, ⟨w', hb ▸ ⟨i.h.os, i.h.tape, i.h.output, i.h.size, i.h.block⟩⟩, rfl⟩
theorem wb_cell {W : World} {b o : Nat} {v : Value} (h : W.cell? ⟨b, o, none⟩ = some v) (hb : b < W.heap.size) : ∀ i : Wb W, i.w.cell? ⟨b, o, none⟩ = some v := fun i => (i.h.cell (p := ⟨b, o, none⟩) hb).trans h
end
/-- Two cells below are kept by a call. -/
theorem hold2 {W W' : World} {b o o' : Nat} {u1 u2 : Value} (hb : Below W.heap.size W W') (h : b < W.heap.size) (h1 : W.cell? ⟨b, o, none⟩ = some u1) (h2 : W.cell? ⟨b, o', none⟩ = some u2) :
    W'.cell? ⟨b, o, none⟩ = some u1 ∧ W'.cell? ⟨b, o', none⟩ = some u2 ∧ W.heap.size ≤ W'.heap.size :=
  ⟨(hb.cell (p := ⟨b, o, none⟩) h).trans h1, (hb.cell (p := ⟨b, o', none⟩) h).trans h2, hb.size⟩
end Go.Proofs.YtjmnakkkimgifaaGreatDoor
namespace Go.Proofs.YtjmnakkkimgifaaGreatDoor
open Go
section
variable {P : Program} {ops : Array Oper} {md : Region.Mode} {S : World → Prop} {Q : Exit → Act → World → Prop}
/-- Which operations may come up, one after another. -/
inductive OT where
  | leaf : OT
  | one : Nat → OT → OT
  | two : Nat → OT → Nat → OT → OT
def OT.dep : OT → Nat → Bool
  | .leaf, f => f == 0
  | .one _ t, f => f != 0 && t.dep (f - 1)
  | .two _ t _ u, f => f != 0 && t.dep (f - 1) && u.dep (f - 1)
def midG (P : Program) (ops : Array Oper) (Q : Exit → Act → World → Prop) (S : World → Prop) (K : Act → World → Prop) : OT → Act → World → Prop
  | .leaf, a, w => K a w
  | .one k t, a, w => wpOp P ops Q k (fun a' w' => S w' ∧ midG P ops Q S K t a' w') a w
  | .two k t j u, a, w => wpOp P ops Q k (fun a' w' => S w' ∧ midG P ops Q S K t a' w') a w ∧ wpOp P ops Q j (fun a' w' => S w' ∧ midG P ops Q S K u a' w') a w
def seqG (md : Region.Mode) (ops : Array Oper) (n : Nat) : OT → Array Bool → Bool
  | .leaf, listed => Region.seqB md ops (ops.size - n) n listed
  | .one k t, listed => decide (Region.ready md ops listed = [k]) && decide (k < n) && seqG md ops n t (listed.setIfInBounds k true)
  | .two k t j u, listed => decide (Region.ready md ops listed = [k, j]) && decide (k < n) && decide (j < n) && seqG md ops n t (listed.setIfInBounds k true) && seqG md ops n u (listed.setIfInBounds j true)
def headG (md : Region.Mode) (ops : Array Oper) (n : Nat) (t : OT) : List Nat → Array Bool → Bool
  | [], listed => seqG md ops n t listed
  | k :: is, listed => (Region.ready md ops listed).contains k && Region.free md ops listed k && decide (k < n) && headG md ops n t is (listed.setIfInBounds k true)
def orderG (md : Region.Mode) (ops : Array Oper) (n : Nat) (is : List Nat) (t : OT) : Bool :=
  Region.noSelect ops && decide (is.length ≤ n) && t.dep (n - is.length) && decide (n < ops.size) && Region.sinkB md ops n && Region.chainB md ops n && headG md ops n t is (Array.replicate ops.size false)
theorem anyG_seq {n : Nat} {K : Act → World → Prop} : ∀ (t : OT) (f : Nat) (listed : Array Bool) (a : Act) (w : World), t.dep f = true → seqG md ops n t listed = true → midG P ops Q S K t a w → anyT P md ops Q S n K f listed a w
  | .leaf, f, listed, a, w, hd, hB, h => by
    obtain rfl : f = 0 := by simpa [OT.dep] using hd
    exact ⟨hB, h⟩
  | .one k t, f, listed, a, w, hd, hB, h => by
    simp only [OT.dep, Bool.and_eq_true, bne_iff_ne] at hd
    obtain ⟨g, rfl⟩ : ∃ g, f = g + 1 := ⟨f - 1, by omega⟩
    rw [seqG] at hB
    simp only [Bool.and_eq_true, decide_eq_true_eq] at hB
    obtain ⟨⟨h1, h2⟩, h3⟩ := hB
    refine ⟨fun h0 => (by rw [h1] at h0; cases h0), fun i hi => ?_⟩
    rw [h1] at hi
    obtain rfl : i = k := by simpa using hi
    exact ⟨h2, wpOp_mono (fun a' w' h' => ⟨h'.1, anyG_seq t g _ a' w' (by simpa using hd.2) h3 h'.2⟩) h⟩
  | .two k t j u, f, listed, a, w, hd, hB, h => by
    simp only [OT.dep, Bool.and_eq_true, bne_iff_ne] at hd
    obtain ⟨g, rfl⟩ : ∃ g, f = g + 1 := ⟨f - 1, by omega⟩
    rw [seqG] at hB
    simp only [Bool.and_eq_true, decide_eq_true_eq] at hB
    obtain ⟨⟨⟨⟨h1, h2⟩, h2'⟩, h3⟩, h4⟩ := hB
    refine ⟨fun h0 => (by rw [h1] at h0; cases h0), fun i hi => ?_⟩
    rw [h1] at hi
    have hi' : i = k ∨ i = j := by simpa using hi
    rcases hi' with rfl | rfl
    · exact ⟨h2, wpOp_mono (fun a' w' h' => ⟨h'.1, anyG_seq t g _ a' w' (by simpa using hd.1.2) h3 h'.2⟩) h.1⟩
    · exact ⟨h2', wpOp_mono (fun a' w' h' => ⟨h'.1, anyG_seq u g _ a' w' (by simpa using hd.2) h4 h'.2⟩) h.2⟩
theorem anyG_head {n : Nat} {K : Act → World → Prop} (hsel : Region.noSelect ops = true) (hs : Region.sinkB md ops n = true) (hc : Region.chainB md ops n = true) (hn : n < ops.size)
    (hQ : ∀ c a d v w, Q (.panic c) (Act.put a d v) w → Q (.panic c) a w) {t : OT} {f : Nat} (hd : t.dep f = true) :
    ∀ (is : List Nat) (listed : Array Bool) (a : Act) (w : World), HeadInv md ops n listed → headG md ops n t is listed = true → S w →
      headT P ops S (fun a' => midG P ops Q S K t a' w) is a → anyT P md ops Q S n K (is.length + f) listed a w
  | [], listed, a, w, _, hB, _, h => by
    rw [List.length_nil, Nat.zero_add]
    exact anyG_seq t f listed a w hd hB h
  | i :: is, listed, a, w, inv, hB, hS, h => by
    rw [headG] at hB
    simp only [Bool.and_eq_true, decide_eq_true_eq] at hB
    obtain ⟨⟨⟨h1, h2⟩, h3⟩, h4⟩ := hB
    obtain ⟨o, v, ho, hy, hk⟩ := h
    have hr : i ∈ Region.ready md ops listed := by simpa using h1
    have := anyT_first ho (Region.noSelect_spec hsel) hs hc hn h3 (fun c a w => hQ c a _ _ w) (is.length + f) listed a w inv (Region.free_spec ho h2) hr hy hS (anyG_head hsel hs hc hn hQ hd is _ _ w (inv.set hr h3) h4 hS hk)
    rw [List.length_cons, show is.length + 1 + f = is.length + f + 1 by omega]
    exact this
/-- Reads first, then a tree of operations that keep S, then the forced end. -/
theorem wp_region_tree {id : Nat} {a : Act} {w : World} {l : List Oper} (n : Nat) (is : List Nat) (t : OT) (hm : P.follows .mixedOrders = true) (hB : orderG .any l.toArray n is t = true)
    (hS : S w.drew)
    (h : headT P l.toArray S (fun a' => midG P l.toArray (NoPanic Q) S (wpList P l.toArray (NoPanic Q) (l.drop n)) t a' w.drew) is a) : (Code.region id l.toArray true).wp P Q a w := by
  simp only [orderG, Bool.and_eq_true, decide_eq_true_eq] at hB
  obtain ⟨⟨⟨⟨⟨⟨hsel, hlen⟩, hd⟩, hn⟩, hs⟩, hc⟩, hB⟩ := hB
  have inv0 : HeadInv .any l.toArray n (Array.replicate l.toArray.size false) :=
    ⟨by simp, fun j oj _ hl => (by rw [getD_replicate_false] at hl; cases hl), fun t _ ht => getD_in (by simpa using ht) (getD_replicate_false _ _)⟩
  refine wp_region_noPanic (wp_region_any hm ?_)
  have hdl : (l.drop n).length = l.toArray.size - n := by simp
  have := any_of_T (Q := NoPanic Q) (g := l.toArray.size - n) (fun listed a' w' h1 h2 => by
    have := wpAny_of_seq (md := .any) (Q' := NoPanic Q) (l.drop n) n listed a' w' (fun j => by simp [List.getElem?_drop]) (by rw [hdl]; exact h1) h2
    rwa [hdl] at this) _ _ _ _ (anyG_head (Q := NoPanic Q) hsel hs hc hn (fun _ _ _ _ _ h => h) hd is _ a w.drew inv0 hB hS h)
  rw [show is.length + (n - is.length) = n by omega, show n + (l.toArray.size - n) = l.toArray.size by omega] at this
  exact this
theorem midG_leaf {K : Act → World → Prop} {a : Act} {w : World} (h : K a w) : midG P ops Q S K .leaf a w := h
theorem midG_one {l : List Oper} {K : Act → World → Prop} {a : Act} {w : World} {k : Nat} {t : OT} {o : Oper} {r : List Oper} (ho : l.drop k = o :: r)
    (h : ∀ K' : Act → World → Prop, Shut (∀ a w, S w → (S w → midG P l.toArray Q S K t a w) → K' a w) → if Region.wanted o (yielded l.toArray a.tmps) = true then Oper.wp P o a w K' Q else K' (a.put o.dst undef) w) : midG P l.toArray Q S K (.one k t) a w :=
  wpOp_step (get_of_drop ho) (fun K' hK => h K' (fun a w hS hW => hK a w ⟨hS, hW hS⟩))
theorem midG_two {l : List Oper} {K : Act → World → Prop} {a : Act} {w : World} {k j : Nat} {t u : OT}
    (h1 : midG P l.toArray Q S K (.one k t) a w) (h2 : midG P l.toArray Q S K (.one j u) a w) : midG P l.toArray Q S K (.two k t j u) a w := ⟨h1, h2⟩
end
open Go.RowKit in
theorem rd_block {w w' : World} {a : Option Addr} {cs : List Value} (h : Rd w a cs) (hs : w.heap.size ≤ w'.heap.size) (hb : ∀ b off, a = some ⟨b, off, none⟩ → b < w.heap.size → w'.heap[b]? = w.heap[b]?) : Rd w' a cs := by
  intro h0
  obtain ⟨b, off, e, hlt, hc⟩ := h h0
  refine ⟨b, off, e, Nat.lt_of_lt_of_le hlt hs, fun i hi => ?_⟩
  rw [← hc i hi]
  simp only [World.cell?]
  rw [hb b off e hlt]
theorem own_ne {g X n c : Nat} (d : g ≠ X) : (Value.slice (some ⟨g, 0, none⟩) n c).ownBlock ≠ some X := fun e => d (Option.some.inj (show some g = some X from e))
end Go.Proofs.YtjmnakkkimgifaaGreatDoor
namespace Go.Proofs.YtjmnakkkimgifaaGreatDoor
open Go Go.RowKit Go.Shelf
theorem sumF_le {f : Nat → Nat} {i : Nat} : ∀ k, i < k → f i ≤ sumF f k := by
  intro k
  induction k with
  | zero => intro h; omega
  | succ k ih =>
    intro h
    show f i ≤ sumF f k + f k
    by_cases e : i = k
    · subst e; omega
    · have := ih (by omega); omega
theorem sumF_cnt {f : Nat → Nat} (h : ∀ i, f i ≤ 1) : ∀ k, sumF f k ≤ k := by
  intro k
  induction k with
  | zero => exact Nat.le_refl _
  | succ k ih => have := h k; show sumF f k + f k ≤ k + 1; omega
theorem up_le {t : List Nd} {n I x j v : Nat} {b : Bool} (hI : 1 ≤ I) (hn : t.length = n) (hP : ∀ v, 0 < v → v < n → 0 ≤ nP t v ∧ nP t v < v) (hj : j < n) (hv : v < n - j) : upC I t x j v b ≤ I + n := by
  cases hl : leafB t v with
  | true =>
    rw [upC_leaf hl j (by omega)]
    split <;> omega
  | false =>
    have h1 : upC I t x j v b ≤ opC t x b j v := (bound_C hI j (by omega)).1 v b hl
    have h2 : opC t x b j v ≤ n := by
      unfold opC
      refine Nat.le_trans (sumF_le (f := agg t (fun v => if offB t x v b then 1 else 0) j) (n - j) hv) ?_
      rw [agg_sum hn hP _ j hj]
      exact sumF_cnt (fun i => by split <;> omega) n
    omega
/-- The costs, a cell a node and kind. -/
def cC (t : List Nd) (x j i : Nat) : Nat := upC 1048576 t x j (i / 2) (i % 2 == 1)
/-- The costs when k leaves are done. -/
def c0 (t : List Nd) (x k i : Nat) : Nat := if (leafB t (i / 2) && decide ((lvsL t (i / 2)).length < k)) && (x.testBit (lvsL t (i / 2)).length != (i % 2 == 1)) then 1048576 else 0
theorem c0_zero (t : List Nd) (x i : Nat) : c0 t x 0 i = 0 := by unfold c0; simp
theorem lv_idx_lt {t : List Nd} {n v : Nat} (hl : leafB t v = true) (hv : v < n) : (lvsL t v).length < (lvsL t n).length := by
  have h := lvsL_mono t (show v + 1 ≤ n from hv)
  rw [lvsL_snoc, hl, List.length_append] at h
  simp at h; omega
theorem lv_idx_inj {t : List Nd} {u v : Nat} (hu : leafB t u = true) (hv : leafB t v = true) (h : (lvsL t u).length = (lvsL t v).length) : u = v := by
  rcases Nat.lt_trichotomy u v with q | q | q
  · have := lv_idx_lt hu q; omega
  · exact q
  · have := lv_idx_lt hv q; omega
theorem c0_all {t : List Nd} {n x i : Nat} (hi : i < 2 * n) : c0 t x (lvsL t n).length i = cC t x 0 i := by
  unfold c0 cC
  show _ = if offB t x (i / 2) (i % 2 == 1) then 1048576 else 0
  unfold offB
  cases hl : leafB t (i / 2) with
  | false => simp
  | true => rw [decide_eq_true (lv_idx_lt hl (by omega))]; simp
theorem c0_succ {t : List Nd} {n x k i : Nat} (hk : k < (lvsL t n).length) : c0 t x (k + 1) i = if i = 2 * vA (lvsL t n) k + (1 - (if x.testBit k then 1 else 0)) then 1048576 else c0 t x k i := by
  obtain ⟨h1, h2, h3⟩ := lvs_at t n k hk
  generalize vA (lvsL t n) k = v at *
  unfold c0
  by_cases e : i / 2 = v
  · rw [e, h2, h3, decide_eq_true (show k < k + 1 by omega), decide_eq_false (Nat.lt_irrefl k)]
    simp only [Bool.true_and, Bool.and_true, Bool.and_false, Bool.false_and]
    cases hb : x.testBit k with
    | true =>
      rcases Nat.mod_two_eq_zero_or_one i with q | q
      · rw [if_pos (show i = _ by simp; omega), q]; rfl
      · rw [if_neg (show ¬ i = _ by simp; omega), q]; rfl
    | false =>
      rcases Nat.mod_two_eq_zero_or_one i with q | q
      · rw [if_neg (show ¬ i = _ by simp; omega), q]; rfl
      · rw [if_pos (show i = _ by simp; omega), q]; rfl
  · rw [if_neg (show ¬ i = _ by split <;> omega)]
    cases hl : leafB t (i / 2) with
    | false => simp
    | true =>
      have : (lvsL t (i / 2)).length ≠ k := fun h => e (lv_idx_inj hl h2 (by rw [h, h3]))
      have e2 : decide ((lvsL t (i / 2)).length < k + 1) = decide ((lvsL t (i / 2)).length < k) := by rw [decide_eq_decide]; omega
      rw [e2]
theorem cC_succ (t : List Nd) (x j i : Nat) : cC t x (j + 1) i = cC t x j i + if nP t (t.length - 1 - j) = ((i / 2 : Nat) : Int) then min (cC t x j (2 * (t.length - 1 - j) + i % 2)) (cC t x j (2 * (t.length - 1 - j) + (1 - i % 2)) + 1) else 0 := by
  unfold cC
  show upC _ _ _ _ _ _ + _ = _
  have h1 : (2 * (t.length - 1 - j) + i % 2) / 2 = t.length - 1 - j := by omega
  have h2 : (2 * (t.length - 1 - j) + (1 - i % 2)) / 2 = t.length - 1 - j := by omega
  rw [h1, h2]
  rcases Nat.mod_two_eq_zero_or_one i with q | q
  · have h3 : (2 * (t.length - 1 - j) + i % 2) % 2 = 0 := by omega
    have h4 : (2 * (t.length - 1 - j) + (1 - i % 2)) % 2 = 1 := by omega
    rw [h3, h4, q]; rfl
  · have h3 : (2 * (t.length - 1 - j) + i % 2) % 2 = 1 := by omega
    have h4 : (2 * (t.length - 1 - j) + (1 - i % 2)) % 2 = 0 := by omega
    rw [h3, h4, q]; rfl
theorem cC_le {t : List Nd} {n x j i : Nat} (hn : t.length = n) (hP : ∀ v, 0 < v → v < n → 0 ≤ nP t v ∧ nP t v < v) (hj : j < n) (hi : i < 2 * (n - j)) : cC t x j i ≤ 1048576 + n := up_le (by omega) hn hP hj (by omega)
theorem cC_end {t : List Nd} {n x : Nat} (hn : t.length = n) (h1 : 1 ≤ n) : min (cC t x (n - 1) 0) (cC t x (n - 1) 1) = chg t x := by
  rw [← chgI_eq (I := 1048576) (by omega) (by omega) x]
  unfold chgI cC
  rw [hn]; rfl
/-- The costs while node p takes over what its child costs: kinds below q are done. -/
def cM (t : List Nd) (x j p q i : Nat) : Nat := if i / 2 = p ∧ i % 2 < q then cC t x (j + 1) i else cC t x j i
theorem cM_zero (t : List Nd) (x j p i : Nat) : cM t x j p 0 i = cC t x j i := if_neg (by omega)
theorem bit_and {x : Nat} (hx : x < 18446744073709551616) (k : Nat) : bits .and .u64 ((x : Int) / 2 ^ k) 1 = if x.testBit k then 1 else 0 := by
  have e : ((x : Int) / 2 ^ k) = ((x / 2 ^ k : Nat) : Int) := by simp
  have h2 : x / 2 ^ k < 18446744073709551616 := Nat.lt_of_le_of_lt (Nat.div_le_self _ _) hx
  have h3 := bits_and h2 (show 1 < 18446744073709551616 by omega)
  rw [Nat.and_one_is_mod] at h3
  rw [e]
  refine h3.trans ?_
  rw [Nat.testBit_eq_decide_div_mod_eq]
  rcases Nat.mod_two_eq_zero_or_one (x / 2 ^ k) with q | q <;> rw [q] <;> rfl
theorem info_P2 : (Tryz.prog.info? 93).map (fun i => (i.zero, i.size, i.bytes)) = some (some (.agg #[.int .i64 0, .int .i64 0]), 2, 16) := by kernel_rfl
theorem p2_made (n : Nat) : madeCells #[Value.int .i64 0, .int .i64 0] (n * 2) = ofF (n * 2) (fun _ => .int .i64 0) := by
  apply Array.ext
  · simp [madeCells, ofF]
  · intro i h1 h2
    have : i % 2 = 0 ∨ i % 2 = 1 := by omega
    rcases this with q | q <;> simp [madeCells, ofF, q]
set_option maxRecDepth 100000 in
set_option maxHeartbeats 4000000 in
theorem changes_any (x : Nat) (b : Option Addr) (n d : Nat) (t : List Nd) (v : Option Addr) (m c : Nat) (w : World) (hx : x < 18446744073709551616) (hn : t.length = n) (h1 : 1 ≤ n) (h63 : n ≤ 63) (hA : Rd w b (fl encNd t)) (hP : ∀ v, 0 < v → v < n → 0 ≤ nP t v ∧ nP t v < v) (hm : m = (lvsL t n).length) (hL : Rd w v (fl encI (iN (lvsL t n)))) :
    Calls Tryz.prog 33 #[.int .u64 x, .slice b n d, .slice v m c] w fun e w' => e = .returned (.int .i64 (chg t x)) ∧ Below w.heap.size w w' := by
  have HN := Lib.hid hn
  have HA := Lib.hid hA
  have HP := Lib.hid hP
  have HL := Lib.hid hL
  have HM := Lib.hid hm
  have hm64 : m ≤ 63 := by have := lvsL_le t n; omega
  obtain ⟨i0, hi0, hz0, hz1, hz2⟩ := info_parts info_P2
  have hmk := run_make (P := Tryz.prog) w 92 93 i0 _ Tryz.underlying92 hi0 hz0 .i64 .i64 (n : Int) (n : Int) (by omega) (by omega) (by rw [hz2]; omega) (by omega)
  simp only [hz1, Int.toNat_natCast] at hmk
  have hb0 := bl_alloc (Below.refl _ w) (.cells (madeCells #[.int .i64 0, .int .i64 0] (n * 2)) 93)
  have hG0 := Blk.new w (madeCells #[.int .i64 0, .int .i64 0] (n * 2)) 93
  rw [p2_made] at hb0 hG0
  have HB0 := Lib.hid hb0
  have HG0 := Lib.hid hG0
  clear hi0 hz0 hz1 hz2 hn hA hP hL hm hb0 hG0
  go_enter Tryz.func33, Tryz.ntmps33
  go_upto_region 2 with fail
  rw [p2_made]
  obtain ⟨g, hg⟩ : ∃ x, x = w.heap.size := ⟨_, rfl⟩
  obtain ⟨w1, hw1⟩ : ∃ x, x = w.alloc (.cells (ofF (n * 2) fun x => .int .i64 0) 93) := ⟨_, rfl⟩
  rw [← hw1] at HB0 HG0 ⊢
  rw [← hg] at HB0 HG0 ⊢
  have HG := Lib.hid hg
  have HS0 : Hid (Blk w1 g (ofF (n * 2) fun i => .int .i64 (c0 t x 0 i : Nat)) 93) := by
    show Blk _ _ _ _
    simp only [c0_zero]
    exact HG0.out
  clear hw1 hg hmk HG0
  go_wp2_with fail
  go_loopw [18] (fun y wr => ∃ k : Nat, k ≤ m ∧ y = .int .i64 k ∧ Hid (Blk wr g (ofF (n * 2) fun i => .int .i64 (c0 t x k i : Nat)) 93) ∧ Hid (Below g w wr)) (fun y _ => m - (intOf y).toNat)
  case atStart => exact ⟨0, by omega, rfl, HS0, HB0⟩
  case round =>
    clear HS0 HB0
    obtain ⟨k, hk, rfl, hS, hB⟩ := hrel
    by_cases hlt : k < m
    · obtain ⟨bl, ol, rfl, hbl, hcl⟩ := rdI HL.out (by rw [iN_len, ← HM.out]; omega)
      have G := hcl k (by rw [iN_len, ← HM.out]; exact hlt)
      rw [iN_get] at G
      rw [← HG.out] at hbl
      have G' := (hB.out.cell (p := ⟨bl, ol + k, none⟩) hbl).trans G
      obtain ⟨l1, l2, l3⟩ := lvs_at t n k (by rw [← HM.out]; exact hlt)
      have HSN : Hid (∀ i, c0 t x (k + 1) i = if i = 2 * vA (lvsL t n) k + (1 - (if x.testBit k then 1 else 0)) then 1048576 else c0 t x k i) := fun i => c0_succ (by rw [← HM.out]; exact hlt)
      clear hcl G l2 l3
      generalize vA (lvsL t n) k = u at *
      go_upto_region 5 with fail
      have hba := bit_and hx k
      obtain ⟨β, hβ, hβ1⟩ : ∃ β : Nat, β = 1 - (if x.testBit k then 1 else 0) ∧ β ≤ 1 := ⟨_, rfl, by omega⟩
      have hw1 : IntKind.u64.wrap (1 - bits .and .u64 ((x : Int) / 2 ^ k) 1) = (β : Int) := by
        rw [hba, hβ]
        cases x.testBit k <;> rfl
      have hi2 : u * 2 + β < n * 2 := by omega
      rw [← hβ] at HSN
      clear hba hβ
      have f4 : ∀ nq, (wr.drewN nq).frozen? ⟨g, u * 2 + β, none⟩ = false := fun nq => (hS.out.drewN nq).free _
      have c4 : ∀ nq, (wr.drewN nq).cell? ⟨g, u * 2 + β, none⟩ = some (.int .i64 (c0 t x k (u * 2 + β) : Nat)) := fun nq => (hS.out.drewN nq).getF _ hi2
      have F4 := Lib.hid f4
      have C4 := Lib.hid c4
      clear f4 c4
      refine wp_quiet_tail_lit 9 (by kernel_rfl) (by kernel_rfl) ?_
      simp only [List.take_succ_cons, List.take_zero, List.drop_succ_cons, List.drop_zero]
      repeat (go_big_quiet_step (fail))
      refine wpQuiet_nil ?_
      intro _ hw'
      obtain ⟨nq, hw''⟩ := hw'
      subst hw''
      try simp only [Act.put, List.setIfInBounds_toArray, List.set_cons_zero, List.set_cons_succ]
      have f4 := F4.out nq
      have c4 := C4.out nq
      clear F4 C4
      go_wp2_with fail
      have hfn : (fun i => if i = u * 2 + β then Value.int .i64 1048576 else Value.int .i64 (c0 t x k i : Nat)) = fun i => Value.int .i64 (c0 t x (k + 1) i : Nat) := by
        funext i
        rw [HSN.out]
        by_cases e : i = u * 2 + β
        · rw [if_pos e, if_pos (by omega)]; rfl
        · rw [if_neg e, if_neg (by omega)]
      have HS2 := Lib.hid ((hS.out.drewN nq).setF (u * 2 + β) (.int .i64 1048576))
      rw [hfn] at HS2
      have HB2 : Hid (Below g w ((wr.drewN nq).setCell ⟨g, u * 2 + β, none⟩ (.int .i64 1048576))) := by
        have h := bl_set (bl_drewN (by have h := hB.out; rw [HG.out] at h; exact h) nq) g (u * 2 + β) none (.int .i64 1048576) (by rw [← HG.out]; exact Nat.le_refl _)
        rw [← HG.out] at h; exact h
      clear hfn f4 c4
      go_roundw
      case rel => exact ⟨k + 1, by omega, by go_num, HS2, HB2⟩
      case measure => simp [intOf]; omega
    · obtain rfl : k = m := by omega
      have HS1 : Hid (Blk wr g (ofF (n * 2) fun i => .int .i64 (cC t x 0 i : Nat)) 93) := by
        have h := hS.out
        rw [HM.out] at h
        have e : ofF (n * 2) (fun i => Value.int .i64 (c0 t x (lvsL t n).length i : Nat)) = ofF (n * 2) (fun i => Value.int .i64 (cC t x 0 i : Nat)) := ofF_congr fun i hi => by rw [c0_all (by omega)]
        rw [e] at h; exact h
      clear hS
      go_wp2_with fail
      obtain ⟨wo, rfl⟩ : ∃ wo : World, wo = wr := ⟨_, rfl⟩
      go_loopw [10] (fun y wr => ∃ j : Nat, j ≤ n - 1 ∧ y = .int .i64 ((n - 1 - j : Nat) : Int) ∧ Hid (Blk wr g (ofF (n * 2) fun i => .int .i64 (cC t x j i : Nat)) 93) ∧ Hid (Below g w wr)) (fun y _ => (intOf y).toNat)
      case atStart => exact ⟨0, by omega, by go_num, HS1, hB⟩
      case round =>
        clear HS1 hB
        obtain ⟨j, hj, rfl, hS, hB⟩ := hrel
        by_cases hlt2 : 0 < n - 1 - j
        · obtain ⟨bb, ob, rfl, hbb, hcb⟩ := rdNd HA.out (by rw [HN.out]; omega)
          obtain ⟨G0, _⟩ := hcb (n - 1 - j) (by rw [HN.out]; omega)
          rw [← HG.out] at hbb
          have G0' := (hB.out.cell (p := ⟨bb, ob + (n - 1 - j) * 2, none⟩) hbb).trans G0
          obtain ⟨p0, p1⟩ := HP.out (n - 1 - j) hlt2 (by omega)
          have HSC : Hid (∀ i, cC t x (j + 1) i = cC t x j i + if nP t (n - 1 - j) = ((i / 2 : Nat) : Int) then min (cC t x j (2 * (n - 1 - j) + i % 2)) (cC t x j (2 * (n - 1 - j) + (1 - i % 2)) + 1) else 0) := fun i => by have h := cC_succ t x j i; rw [HN.out] at h; exact h
          have HLE : Hid (∀ i, i < 2 * (n - j) → cC t x j i ≤ 1048576 + n) := fun i hi => cC_le HN.out HP.out (by omega) hi
          obtain ⟨p, hp⟩ : ∃ p : Nat, nP t (n - 1 - j) = p := ⟨(nP t (n - 1 - j)).toNat, by omega⟩
          rw [hp] at G0' p1 HSC
          obtain ⟨v, hv⟩ : ∃ v, v = n - 1 - j := ⟨_, rfl⟩
          rw [← hv] at hlt2 G0' p1 HSC ⊢
          have HV := Lib.hid hv
          have hvn : v < n := by omega
          have hpv : p < v := by omega
          have dv : decide (0 < (v : Int)) = true := by simp; omega
          clear hcb G0 p0 hp hv p1
          go_wp2_with fail
          obtain ⟨wp, rfl⟩ : ∃ wp : World, wp = wr := ⟨_, rfl⟩
          have HM0 : Hid (Blk wp g (ofF (n * 2) fun i => .int .i64 (cM t x j p 0 i : Nat)) 93) := by
            show Blk _ _ _ _
            simp only [cM_zero]
            exact hS.out
          go_loopw [47] (fun y wr => ∃ q : Nat, q ≤ 2 ∧ y = .int .i64 q ∧ Hid (Blk wr g (ofF (n * 2) fun i => .int .i64 (cM t x j p q i : Nat)) 93) ∧ Hid (Below g w wr)) (fun y _ => 2 - (intOf y).toNat)
          case atStart => exact ⟨0, by omega, rfl, HM0, hB⟩
          case round =>
            clear HM0 hB hS
            obtain ⟨q, hq, rfl, hS, hB⟩ := hrel
            by_cases hlt3 : q < 2
            · have e1 : IntKind.i64.wrap (1 - (q : Int)) = ((1 - q : Nat) : Int) := wrap_nat _ _ (by omega) (by omega)
              have a1 : p * 2 + q < n * 2 := by omega
              have a2 : v * 2 + q < n * 2 := by omega
              have a3 : v * 2 + (1 - q) < n * 2 := by omega
              have l1 := HLE.out (2 * p + q) (by have := HV.out; omega)
              have l2 := HLE.out (2 * v + q) (by have := HV.out; omega)
              have l3 := HLE.out (2 * v + (1 - q)) (by have := HV.out; omega)
              have c1 : wr.cell? ⟨g, p * 2 + q, none⟩ = some (.int .i64 (cC t x j (2 * p + q) : Nat)) := by
                have h := hS.out.getF _ a1
                unfold cM at h
                rw [if_neg (by omega), show p * 2 + q = 2 * p + q by omega] at h
                rw [show p * 2 + q = 2 * p + q by omega]; exact h
              have c2 : wr.cell? ⟨g, v * 2 + q, none⟩ = some (.int .i64 (cC t x j (2 * v + q) : Nat)) := by
                have h := hS.out.getF _ a2
                unfold cM at h
                rw [if_neg (by omega), show v * 2 + q = 2 * v + q by omega] at h
                rw [show v * 2 + q = 2 * v + q by omega]; exact h
              have c3 : wr.cell? ⟨g, v * 2 + (1 - q), none⟩ = some (.int .i64 (cC t x j (2 * v + (1 - q)) : Nat)) := by
                have h := hS.out.getF _ a3
                unfold cM at h
                rw [if_neg (by omega), show v * 2 + (1 - q) = 2 * v + (1 - q) by omega] at h
                rw [show v * 2 + (1 - q) = 2 * v + (1 - q) by omega]; exact h
              have HNX : Hid (cC t x (j + 1) (2 * p + q) = cC t x j (2 * p + q) + min (cC t x j (2 * v + q)) (cC t x j (2 * v + (1 - q)) + 1)) := by
                show _ = _
                rw [HSC.out, if_pos (by omega), show (2 * p + q) % 2 = q by omega]
              generalize cC t x j (2 * p + q) = A at *
              generalize cC t x j (2 * v + q) = B at *
              generalize cC t x j (2 * v + (1 - q)) = C at *
              have f4 : ∀ nq, (wr.drewN nq).frozen? ⟨g, p * 2 + q, none⟩ = false := fun nq => (hS.out.drewN nq).free _
              have c4 : ∀ nq, (wr.drewN nq).cell? ⟨g, p * 2 + q, none⟩ = some (.int .i64 A) := fun nq => c1
              have F4 := Lib.hid f4
              have C4 := Lib.hid c4
              clear f4 c4
              go_upto_region 14 with fail
              refine wp_quiet_tail_lit 22 (by kernel_rfl) (by kernel_rfl) ?_
              simp only [List.take_succ_cons, List.take_zero, List.drop_succ_cons, List.drop_zero]
              repeat (go_big_quiet_step (fail))
              refine wpQuiet_nil ?_
              intro _ hw'
              obtain ⟨nq, hw''⟩ := hw'
              subst hw''
              try simp only [Act.put, List.setIfInBounds_toArray, List.set_cons_zero, List.set_cons_succ]
              have f4 := F4.out nq
              have c4 := C4.out nq
              have hmn : ((A : Int) + if (C : Int) + 1 < (B : Int) then (C : Int) + 1 else (B : Int)) = ((A + min B (C + 1) : Nat) : Int) := by
                by_cases e : C + 1 < B
                · rw [if_pos (by omega), Nat.min_eq_right (by omega)]; omega
                · rw [if_neg (by omega), Nat.min_eq_left (by omega)]; omega
              have hmm : ((A : Int) + min (B : Int) ((C : Int) + 1)) = ((A + min B (C + 1) : Nat) : Int) := by omega
              first
                | rw [hmn]
                | rw [hmm]
              clear F4 C4 hmn hmm c1 c2 c3
              go_wp2_with fail
              have hfn : (fun i => if i = p * 2 + q then Value.int .i64 ((A + min B (C + 1) : Nat) : Int) else Value.int .i64 (cM t x j p q i : Nat)) = fun i => Value.int .i64 (cM t x j p (q + 1) i : Nat) := by
                funext i
                by_cases e : i = p * 2 + q
                · rw [if_pos e, e]
                  unfold cM
                  rw [if_pos (by omega), show p * 2 + q = 2 * p + q by omega, HNX.out]
                · rw [if_neg e]
                  unfold cM
                  by_cases e2 : i / 2 = p ∧ i % 2 < q
                  · rw [if_pos e2, if_pos (by omega)]
                  · rw [if_neg e2, if_neg (by omega)]
              have HS2 := Lib.hid ((hS.out.drewN nq).setF (p * 2 + q) (.int .i64 ((A + min B (C + 1) : Nat) : Int)))
              rw [hfn] at HS2
              have HB2 : Hid (Below g w ((wr.drewN nq).setCell ⟨g, p * 2 + q, none⟩ (.int .i64 ((A + min B (C + 1) : Nat) : Int)))) := by
                have h := bl_set (bl_drewN (by have h := hB.out; rw [HG.out] at h; exact h) nq) g (p * 2 + q) none (.int .i64 ((A + min B (C + 1) : Nat) : Int)) (by rw [← HG.out]; exact Nat.le_refl _)
                rw [← HG.out] at h; exact h
              clear hfn f4 c4
              go_roundw
              case rel => exact ⟨q + 1, by omega, by go_num, HS2, HB2⟩
              case measure => simp [intOf]; omega
            · obtain rfl : q = 2 := by omega
              have HS2 : Hid (Blk wr g (ofF (n * 2) fun i => .int .i64 (cC t x (j + 1) i : Nat)) 93) := by
                have hfn : (fun i => Value.int .i64 (cM t x j p 2 i : Nat)) = fun i => Value.int .i64 (cC t x (j + 1) i : Nat) := by
                  funext i
                  unfold cM
                  by_cases e : i / 2 = p
                  · rw [if_pos (by omega)]
                  · rw [if_neg (by omega), HSC.out, if_neg (by omega)]; rfl
                have h := hS.out
                rw [hfn] at h; exact h
              have HVV := HV.out
              go_wp2_with fail
              go_roundw
              case rel => exact ⟨j + 1, by omega, by go_num, HS2, hB⟩
              case measure => simp [intOf]; omega
        · obtain rfl : j = n - 1 := by omega
          have c1 : wr.cell? ⟨g, 0, none⟩ = some (.int .i64 (cC t x (n - 1) 0 : Nat)) := hS.out.getF 0 (by omega)
          have c2 : wr.cell? ⟨g, 1, none⟩ = some (.int .i64 (cC t x (n - 1) 1 : Nat)) := hS.out.getF 1 (by omega)
          have HE : Hid (min (cC t x (n - 1) 0) (cC t x (n - 1) 1) = chg t x) := cC_end HN.out h1
          generalize cC t x (n - 1) 0 = A at *
          generalize cC t x (n - 1) 1 = B at *
          go_upto_region 16 with fail
          refine wp_quiet_tail_lit 9 (by kernel_rfl) (by kernel_rfl) ?_
          simp only [List.take_succ_cons, List.take_zero, List.drop_succ_cons, List.drop_zero]
          repeat (go_big_quiet_step (fail))
          refine wpQuiet_nil ?_
          intro _ hw'
          obtain ⟨nq, hw''⟩ := hw'
          subst hw''
          try simp only [Act.put, List.setIfInBounds_toArray, List.set_cons_zero, List.set_cons_succ]
          go_wp2_with fail
          all_goals
            go_ret
            exact ⟨ret_i (by rw [← HE.out]; omega), by have h := hB.out; rw [HG.out] at h; exact bl_drewN h nq⟩
end Go.Proofs.YtjmnakkkimgifaaGreatDoor
namespace Go.Proofs.YtjmnakkkimgifaaGreatDoor
open Go Go.RowKit Go.Shelf
/-- Block g holds n rows; row i reads as the list K i. -/
structure SubR (w : World) (g n : Nat) (K : Nat → List Nat) (rs : Nat → Rw) : Prop where
  lt : g < w.heap.size
  cell : ∀ i, i < n → w.cell? ⟨g, i, none⟩ = some (slR (rs i))
  len : ∀ i, i < n → (rs i).2.1 = (K i).length
  row : ∀ i, i < n → Rd w (rs i).1 (fl encI (iN (K i)))
theorem SubR.bl {w w' : World} {g n : Nat} {K : Nat → List Nat} {rs : Nat → Rw} (h : SubR w g n K rs) (hb : Below w.heap.size w w') : SubR w' g n K rs :=
  ⟨Nat.lt_of_lt_of_le h.lt hb.size, fun i hi => (hb.cell (p := ⟨g, i, none⟩) h.lt).trans (h.cell i hi), h.len, fun i hi => (h.row i hi).bl hb⟩
theorem SubR.drewN {w : World} {g n : Nat} {K : Nat → List Nat} {rs : Nat → Rw} (h : SubR w g n K rs) (k : Nat) : SubR (w.drewN k) g n K rs := h.bl (bl_drewN (Below.refl _ _) k)
theorem FamW.subR {w : World} {base g n : Nat} {K : Nat → List Nat} {rs : Nat → Rw} (h : FamW w base g n K rs) : SubR w g n K rs :=
  ⟨(h.rows.lt g rfl).2, fun i hi => h.cell hi, h.len, fun i hi => by
    have h1 := h.row i hi
    unfold slR at h1
    rw [h.len i hi] at h1
    exact rd_of_owns h1⟩
set_option maxRecDepth 100000 in
set_option maxHeartbeats 4000000 in
theorem least_any (XS XE g n c : Nat) (K : Nat → List Nat) (rs : Nat → Rw) (_hn : n ≤ 65) : ∀ (z : Sh), Sub K z → (∀ u, u ∈ z.all → u < n) → ∀ w : World, Blk w XS #[.slice (some ⟨g, 0, none⟩) n c] 68 → Blk w XE #[.func (.func 89) #[] #[.pointer (some ⟨XS, 0, none⟩), .pointer (some ⟨XE, 0, none⟩)]] 122 → SubR w g n K rs →
    Calls Tryz.prog 89 #[.int .i64 (z.top : Nat), .pointer (some ⟨XS, 0, none⟩), .pointer (some ⟨XE, 0, none⟩)] w fun e w' => e = .returned (.int .i64 (z.least : Nat)) ∧ ∃ k, w' = w.drewN k := by
  intro z
  induction z with
  | lf v =>
    intro hK hlt w hXS hXE hR
    have hv : v < n := hlt v (by simp [Sh.all])
    have hKv : K v = [] := hK
    have e1 : w.cell? ⟨XS, 0, none⟩ = some (.slice (some ⟨g, 0, none⟩) n c) := hXS.cell 0
    have e2 := hR.cell v hv
    have e3 := hR.len v hv
    rw [hKv] at e3
    obtain ⟨⟨A, m, cp⟩, hx⟩ : ∃ x, x = rs v := ⟨_, rfl⟩
    rw [← hx] at e2 e3
    have e4 : w.cell? ⟨g, v, none⟩ = some (.slice A 0 cp) := by rw [e2]; show some (Value.slice A m cp) = _; rw [show m = 0 from e3]
    clear hK hlt hXS hXE hR hKv e2 e3 hx
    show Calls Tryz.prog 89 #[.int .i64 (v : Nat), _, _] w fun e w' => e = .returned (.int .i64 (v : Nat)) ∧ _
    go_enter Tryz.func89, Tryz.ntmps89
    go_wp2_with fail
    go_ret
    exact ⟨rfl, 0, rfl⟩
  | nd v a b iha ihb =>
    intro hK hlt w hXS hXE hR
    obtain ⟨hKv, hKa, hKb⟩ := hK
    have hv : v < n := hlt v (by simp [Sh.all])
    have HIA := Lib.hid (iha hKa (fun u hu => hlt u (by simp [Sh.all, hu])))
    have HIB := Lib.hid (ihb hKb (fun u hu => hlt u (by simp [Sh.all, hu])))
    have hat := hlt a.top (by simp [Sh.all, Sh.top_mem])
    have hbt := hlt b.top (by simp [Sh.all, Sh.top_mem])
    have e1 : w.cell? ⟨XS, 0, none⟩ = some (.slice (some ⟨g, 0, none⟩) n c) := hXS.cell 0
    have e0 : w.cell? ⟨XE, 0, none⟩ = some (.func (.func 89) #[] #[.pointer (some ⟨XS, 0, none⟩), .pointer (some ⟨XE, 0, none⟩)]) := hXE.cell 0
    have e2 := hR.cell v hv
    have e3 := hR.len v hv
    have hrow := hR.row v hv
    rw [hKv] at e3 hrow
    obtain ⟨⟨A, m, cp⟩, hx⟩ : ∃ x, x = rs v := ⟨_, rfl⟩
    rw [← hx] at e2 e3 hrow
    have e4 : w.cell? ⟨g, v, none⟩ = some (.slice A 2 cp) := by rw [e2]; show some (Value.slice A m cp) = _; rw [show m = 2 from e3]
    obtain ⟨bA, oA, hA, _, hc⟩ := rdI hrow (by rw [iN_len]; simp)
    obtain rfl : A = some ⟨bA, oA, none⟩ := hA
    have c0 : w.cell? ⟨bA, oA, none⟩ = some (.int .i64 (a.top : Nat)) := by have h := hc 0 (by rw [iN_len]; simp); rw [iN_get] at h; exact h
    have c1 : w.cell? ⟨bA, oA + 1, none⟩ = some (.int .i64 (b.top : Nat)) := by have h := hc 1 (by rw [iN_len]; simp); rw [iN_get] at h; exact h
    have HIA2 : Hid (∀ k, Calls Tryz.prog 89 #[.int .i64 (a.top : Nat), .pointer (some ⟨XS, 0, none⟩), .pointer (some ⟨XE, 0, none⟩)] (w.drewN k) fun e w' => e = .returned (.int .i64 (a.least : Nat)) ∧ ∃ j, w' = w.drewN j) := fun k => (HIA.out (w.drewN k) (hXS.drewN k) (hXE.drewN k) (hR.drewN k)).mono fun e w' h => ⟨h.1, by obtain ⟨j, hj⟩ := h.2; exact ⟨k + j, by rw [hj, drewN_add]⟩⟩
    have HIB2 : Hid (∀ k, Calls Tryz.prog 89 #[.int .i64 (b.top : Nat), .pointer (some ⟨XS, 0, none⟩), .pointer (some ⟨XE, 0, none⟩)] (w.drewN k) fun e w' => e = .returned (.int .i64 (b.least : Nat)) ∧ ∃ j, w' = w.drewN j) := fun k => (HIB.out (w.drewN k) (hXS.drewN k) (hXE.drewN k) (hR.drewN k)).mono fun e w' h => ⟨h.1, by obtain ⟨j, hj⟩ := h.2; exact ⟨k + j, by rw [hj, drewN_add]⟩⟩
    show Calls Tryz.prog 89 #[.int .i64 (v : Nat), _, _] w fun e w' => e = .returned (.int .i64 ((min a.least b.least : Nat) : Int)) ∧ _
    obtain ⟨ta, hta⟩ : ∃ x, x = a.top := ⟨_, rfl⟩
    obtain ⟨tb, htb⟩ : ∃ x, x = b.top := ⟨_, rfl⟩
    obtain ⟨la, hla⟩ : ∃ x, x = a.least := ⟨_, rfl⟩
    obtain ⟨lb, hlb⟩ : ∃ x, x = b.least := ⟨_, rfl⟩
    rw [← hta] at c0 HIA2
    rw [← htb] at c1 HIB2
    rw [← hla] at HIA2 ⊢
    rw [← hlb] at HIB2 ⊢
    clear hKv hKa hKb hlt hXS hXE hR e2 e3 hx hrow hc hta htb hla hlb iha ihb HIA HIB hat hbt
    go_enter Tryz.func89, Tryz.ntmps89
    go_upto_region 3 with fail
    refine wp_region_quiet_lit (by kernel_rfl) (by kernel_rfl) ?_
    repeat (go_big_quiet_step (fail))
    go_big_quiet_step ((exact HIA2.out _))
    repeat (go_big_quiet_step (fail))
    go_big_quiet_step ((exact HIB2.out _))
    repeat (go_big_quiet_step (fail))
    refine wpQuiet_nil ?_
    intro _ hw'
    obtain ⟨nq, hw''⟩ := hw'
    subst hw''
    try simp only [Act.put, List.setIfInBounds_toArray, List.set_cons_zero, List.set_cons_succ]
    go_wp2_with fail
    all_goals
      go_ret
      exact ⟨ret_i (by omega), nq, rfl⟩
end Go.Proofs.YtjmnakkkimgifaaGreatDoor
namespace Go.Proofs.YtjmnakkkimgifaaGreatDoor
open Go Go.RowKit Go.Shelf
/-- What numbering writes: part z, whose parent is p, from place k on. -/
def mtF (t : List Nd) (L : List Nat) (B : Nat) : Sh → Int → Nat → (Nat → Nd) → Nat → Nd
  | .lf v, p, _, o => fun i => if i = B + L.idxOf v then (p, nS t v) else o i
  | .nd v a b, p, k, o => mtF t L B b k (k + 1 + a.inn) (mtF t L B a k (k + 1) (fun i => if i = k then (p, nS t v) else o i))
theorem mtF_out {t : List Nd} {L : List Nat} {B i : Nat} : ∀ (z : Sh) (p : Int) (k : Nat) (o : Nat → Nd), ¬ (k ≤ i ∧ i < k + z.inn) → (∀ v, v ∈ z.lvs → i ≠ B + L.idxOf v) → mtF t L B z p k o i = o i := by
  intro z
  induction z with
  | lf v => intro p k o _ h; exact if_neg (h v (by simp [Sh.lvs]))
  | nd v a b iha ihb =>
    intro p k o h1 h2
    have e : (Sh.nd v a b).inn = a.inn + b.inn + 1 := rfl
    rw [e] at h1
    show mtF t L B b k (k + 1 + a.inn) _ i = _
    rw [ihb _ _ _ (by omega) (fun u hu => h2 u (by simp [Sh.lvs, hu])), iha _ _ _ (by omega) (fun u hu => h2 u (by simp [Sh.lvs, hu]))]
    exact if_neg (by omega)
theorem mtF_inn {t : List Nd} {L : List Nat} {B : Nat} : ∀ (z : Sh) (p : Int) (k j : Nat) (o : Nat → Nd) (hj : j < z.inn), k + z.inn ≤ B → mtF t L B z p k o (k + j) = (((z.ni p k)[j]'(by rw [Sh.ni_len]; exact hj)).1, nS t ((z.ni p k)[j]'(by rw [Sh.ni_len]; exact hj)).2) := by
  intro z
  induction z with
  | lf v => intro p k j o hj; exact absurd hj (Nat.not_lt_zero _)
  | nd v a b iha ihb =>
    intro p k j o hj hB
    have e : (Sh.nd v a b).inn = a.inn + b.inn + 1 := rfl
    rw [e] at hB
    have hj' : j < a.inn + b.inn + 1 := hj
    have hlv : ∀ (z' : Sh) (u : Nat), u ∈ z'.lvs → k + j ≠ B + L.idxOf u := fun z' u _ => by omega
    show mtF t L B b k (k + 1 + a.inn) (mtF t L B a k (k + 1) _) (k + j) = ((((p, v) :: (a.ni k (k + 1) ++ b.ni k (k + 1 + a.inn)))[j]'(by simp [Sh.ni_len]; omega)).1, nS t (((p, v) :: (a.ni k (k + 1) ++ b.ni k (k + 1 + a.inn)))[j]'(by simp [Sh.ni_len]; omega)).2)
    rcases j with _ | j
    · rw [mtF_out b _ _ _ (by omega) (hlv b), mtF_out a _ _ _ (by omega) (hlv a)]
      exact if_pos rfl
    · by_cases q : j < a.inn
      · rw [mtF_out b _ _ _ (by omega) (hlv b), show k + (j + 1) = (k + 1) + j by omega, iha _ _ j _ q (by omega)]
        simp only [List.getElem_cons_succ]
        rw [List.getElem_append_left (by rw [Sh.ni_len]; exact q)]
      · have h := ihb k (k + 1 + a.inn) (j - a.inn) (mtF t L B a k (k + 1) (fun i => if i = k then (p, nS t v) else o i)) (by omega) (by omega)
        rw [show k + 1 + a.inn + (j - a.inn) = k + (j + 1) by omega] at h
        rw [h]
        simp only [List.getElem_cons_succ]
        rw [List.getElem_append_right (by rw [Sh.ni_len]; omega)]
        simp only [Sh.ni_len]
theorem lkp_append_left {l m : List (Nat × Int)} {v : Nat} (h : v ∈ l.map (·.1)) : lkp (l ++ m) v = lkp l v := by
  unfold lkp
  rw [List.find?_append]
  cases hf : l.find? (fun x => decide (x.1 = v)) with
  | none =>
    obtain ⟨x, hx, e⟩ := List.mem_map.1 h
    have := List.find?_eq_none.1 hf x hx
    simp [e] at this
  | some x => rfl
theorem lkp_append_right {l m : List (Nat × Int)} {v : Nat} (h : v ∉ l.map (·.1)) : lkp (l ++ m) v = lkp m v := by
  unfold lkp
  rw [List.find?_append]
  have : l.find? (fun x => decide (x.1 = v)) = none := List.find?_eq_none.2 fun x hx e => h (List.mem_map.2 ⟨x, hx, by simpa using e⟩)
  rw [this]; rfl
theorem mtF_leaf {t : List Nd} {L : List Nat} {B v : Nat} (hv : v ∈ L) : ∀ (z : Sh) (p : Int) (k : Nat) (o : Nat → Nd), k + z.inn ≤ B → z.lvs.Nodup → v ∈ z.lvs → mtF t L B z p k o (B + L.idxOf v) = (lkp (z.pl p k) v, nS t v) := by
  intro z
  induction z with
  | lf u =>
    intro p k o _ _ h
    have : v = u := by simpa [Sh.lvs] using h
    subst this
    show (if _ then _ else _) = _
    rw [if_pos rfl]
    simp [Sh.pl, lkp]
  | nd u a b iha ihb =>
    intro p k o hB hn h
    have e : (Sh.nd u a b).inn = a.inn + b.inn + 1 := rfl
    rw [e] at hB
    have hn' : (a.lvs ++ b.lvs).Nodup := hn
    obtain ⟨na, nb, nd⟩ := List.nodup_append.1 hn'
    have h' : v ∈ a.lvs ∨ v ∈ b.lvs := by have := (List.mem_append.1 (show v ∈ a.lvs ++ b.lvs from h)); exact this
    show mtF t L B b k (k + 1 + a.inn) (mtF t L B a k (k + 1) _) (B + L.idxOf v) = (lkp (a.pl k (k + 1) ++ b.pl k (k + 1 + a.inn)) v, nS t v)
    by_cases q : v ∈ b.lvs
    · rw [ihb _ _ _ (by omega) nb q, lkp_append_right]
      rw [Sh.pl_fst]
      intro ha
      exact nd v ha v q rfl
    · have ha := h'.resolve_right q
      rw [mtF_out b _ _ _ (by omega) (fun w hw e2 => q ?_), iha _ _ _ (by omega) na ha, lkp_append_left (by rw [Sh.pl_fst]; exact ha)]
      have e3 : L.idxOf v = L.idxOf w := by omega
      have h1 := List.idxOf_lt_length_of_mem hv
      have h2 : L.idxOf w < L.length := by omega
      have g1 := List.getElem_idxOf h1
      have g2 := List.getElem_idxOf h2
      have : v = w := by rw [← g1, ← g2]; congr 1
      rw [this]; exact hw
/-- All of it: the numbered tree. -/
theorem mtF_all {t : List Nd} {L : List Nat} {s : Sh} {o : Nat → Nd} (hn : s.lvs.Nodup) (hL : L.Perm s.lvs) {i : Nat} (hi : i < s.inn + L.length) : mtF t L s.inn s (-1) 0 o i = (numS t L s).getD i (0, ByteArray.empty) := by
  have hd : ∀ (T : List Nd) (j : Nat), T.getD j (0, ByteArray.empty) = (nP T j, nS T j) := fun T j => rfl
  rw [hd]
  by_cases q : i < s.inn
  · have h := mtF_inn (t := t) (L := L) (B := s.inn) s (-1) 0 i o q (by omega)
    rw [Nat.zero_add] at h
    obtain ⟨h1, h2⟩ := numS_pre (t := t) (L := L) (s := s) q
    rw [h, h1, h2]
  · obtain ⟨j, rfl⟩ : ∃ j, i = s.inn + j := ⟨i - s.inn, by omega⟩
    have hj : j < L.length := by omega
    have hnd : L.Nodup := hL.nodup_iff.2 hn
    obtain ⟨h1, h2⟩ := numS_leaf (t := t) (s := s) hj
    have h := mtF_leaf (t := t) (B := s.inn) (List.getElem_mem hj) s (-1) 0 o (by omega) hn (hL.mem_iff.1 (List.getElem_mem hj))
    rw [idx_at hnd hj] at h
    rw [h, h1, h2]
/-- A row of nodes, cell by cell. -/
def outC (o : Nat → Nd) (i : Nat) : Value := if i % 2 = 0 then .int .i64 (o (i / 2)).1 else .string (o (i / 2)).2
theorem outC_fl (T : List Nd) : (ofF (T.length * 2) (outC fun j => T.getD j (0, ByteArray.empty))).toList = fl encNd T := by
  apply List.ext_getElem?
  intro i
  by_cases hi : i < T.length * 2
  · have e := fl_getElem? encNd_len T (i / 2) (i % 2) (by omega)
    rw [show i / 2 * 2 + i % 2 = i by omega] at e
    rw [e, Array.getElem?_toList, ofF_get _ _ _ hi, List.getElem?_eq_getElem (show i / 2 < T.length by omega)]
    unfold outC
    dsimp only
    rw [List.getD_eq_getElem?_getD, List.getElem?_eq_getElem (show i / 2 < T.length by omega)]
    rcases Nat.mod_two_eq_zero_or_one i with q | q <;> rw [q] <;> rfl
  · rw [List.getElem?_eq_none (by rw [Array.length_toList, ofF_size]; omega), List.getElem?_eq_none (by rw [fl_length encNd_len]; omega)]
theorem outC_put (o : Nat → Nd) (k : Nat) (x : Nd) : (fun i => if i = k * 2 + 1 then Value.string x.2 else (fun i => if i = k * 2 then Value.int .i64 x.1 else outC o i) i) = outC fun i => if i = k then x else o i := by
  funext i
  unfold outC
  dsimp only
  by_cases e1 : i = k * 2 + 1
  · rw [if_pos e1, if_neg (by omega), if_pos (show i / 2 = k by omega)]
  · rw [if_neg e1]
    by_cases e2 : i = k * 2
    · rw [if_pos e2, if_pos (by omega), if_pos (show i / 2 = k by omega)]
    · rw [if_neg e2, if_neg (show ¬ i / 2 = k by omega)]
/-- The place of a leaf among the leaves. -/
theorem count_idx {L : List Nat} {v : Nat} (hp : L.Pairwise (· < ·)) (hv : v ∈ L) : (iN L).countP (fun y => decide (y < (v : Int))) = L.idxOf v := by
  induction L with
  | nil => cases hv
  | cons x L ih =>
    obtain ⟨h1, h2⟩ := List.pairwise_cons.1 hp
    have hc : iN (x :: L) = (x : Int) :: iN L := rfl
    rw [hc, List.countP_cons, List.idxOf_cons]
    by_cases e : x = v
    · subst e
      have h0 : (iN L).countP (fun y => decide (y < (x : Int))) = 0 := by
        rw [List.countP_eq_zero]
        intro y hy
        obtain ⟨u, hu, rfl⟩ := List.mem_map.1 hy
        have := h1 u hu
        simp; omega
      rw [h0]; simp
    · have hv2 : v ∈ L := by
        rcases List.mem_cons.1 hv with h | h
        · exact absurd h.symm e
        · exact h
      have := h1 v hv2
      rw [ih h2 hv2, if_pos (by simp; omega)]
      have e2 : (x == v) = false := by simpa using e
      rw [e2]; rfl
end Go.Proofs.YtjmnakkkimgifaaGreatDoor
namespace Go.Proofs.YtjmnakkkimgifaaGreatDoor
open Go Go.RowKit Go.Shelf
/-- What lies before numbering begins. -/
structure MtG (W1 : World) (XN XS XL g n ca c cl m : Nat) (a AL : Option Addr) (t : List Nd) (K : Nat → List Nat) (rs : Nat → Rw) (L : List Nat) : Prop where
  bn : Blk W1 XN #[.slice a n ca] 25
  bs : Blk W1 XS #[.slice (some ⟨g, 0, none⟩) n c] 68
  bl : Blk W1 XL #[.slice AL m cl] 29
  rn : Rd W1 a (fl encNd t)
  sub : SubR W1 g n K rs
  rl : Rd W1 AL (fl encI (iN L))
  tn : t.length = n
  lm : L.length = m
  pw : L.Pairwise (· < ·)
  n65 : n ≤ 65
  mn : m ≤ n
/-- What lies while nodes are met: k inner ones are numbered, the row holds o. -/
structure MtW (W1 : World) (XN XS XL n : Nat) (w : World) (k : Nat) (o : Nat → Nd) : Prop where
  bel : Below W1.heap.size W1 w
  be : Blk w W1.heap.size #[.func (.func 89) #[] #[.pointer (some ⟨XS, 0, none⟩), .pointer (some ⟨W1.heap.size, 0, none⟩)]] 122
  bg : Blk w (W1.heap.size + 1) (ofF (n * 2) (outC o)) 46
  bo : Blk w (W1.heap.size + 2) #[.slice (some ⟨W1.heap.size + 1, 0, none⟩) n n] 25
  bx : Blk w (W1.heap.size + 3) #[.int .i64 k] 3
  bm : Blk w (W1.heap.size + 4) #[.func (.func 90) #[] #[.pointer (some ⟨XN, 0, none⟩), .pointer (some ⟨XS, 0, none⟩), .pointer (some ⟨XL, 0, none⟩), .pointer (some ⟨W1.heap.size + 2, 0, none⟩), .pointer (some ⟨W1.heap.size + 3, 0, none⟩), .pointer (some ⟨W1.heap.size, 0, none⟩), .pointer (some ⟨W1.heap.size + 4, 0, none⟩)]] 123
theorem MtW.bl {W1 : World} {XN XS XL n : Nat} {w w' : World} {k : Nat} {o : Nat → Nd} (h : MtW W1 XN XS XL n w k o) (hb : Below w.heap.size w w') : MtW W1 XN XS XL n w' k o :=
  ⟨bl_trans h.bel hb, h.be.below hb, h.bg.below hb, h.bo.below hb, h.bx.below hb, h.bm.below hb⟩
/-- A node is written. -/
theorem MtW.put {W1 : World} {XN XS XL n : Nat} {w : World} {k : Nat} {o : Nat → Nd} (h : MtW W1 XN XS XL n w k o) (i : Nat) (x : Nd) :
    MtW W1 XN XS XL n ((w.setCell ⟨W1.heap.size + 1, i * 2, none⟩ (.int .i64 x.1)).setCell ⟨W1.heap.size + 1, i * 2 + 1, none⟩ (.string x.2)) k (fun j => if j = i then x else o j) := by
  have hg := (h.bg.setF (i * 2) (.int .i64 x.1)).setF (i * 2 + 1) (.string x.2)
  refine ⟨bl_set (bl_set h.bel _ _ _ _ (by omega)) _ _ _ _ (by omega), (h.be.other (by omega) _ _).other (by omega) _ _, ?_, (h.bo.other (by omega) _ _).other (by omega) _ _, (h.bx.other (by omega) _ _).other (by omega) _ _, (h.bm.other (by omega) _ _).other (by omega) _ _⟩
  rw [← outC_put o i x]
  exact hg
theorem MtW.next {W1 : World} {XN XS XL n : Nat} {w : World} {k : Nat} {o : Nat → Nd} (h : MtW W1 XN XS XL n w k o) (j : Nat) : MtW W1 XN XS XL n (w.setCell ⟨W1.heap.size + 3, 0, none⟩ (.int .i64 j)) j o :=
  ⟨bl_set h.bel _ _ _ _ (by omega), h.be.other (by omega) _ _, h.bg.other (by omega) _ _, h.bo.other (by omega) _ _, h.bx.set 0 _, h.bm.other (by omega) _ _⟩
set_option maxRecDepth 100000 in
set_option maxHeartbeats 4000000 in
theorem meet_any (W1 : World) (XN XS XL g n ca c cl m : Nat) (a AL : Option Addr) (t : List Nd) (K : Nat → List Nat) (rs : Nat → Rw) (L : List Nat) (hG : MtG W1 XN XS XL g n ca c cl m a AL t K rs L) :
    ∀ (z : Sh), Sub K z → (∀ u, u ∈ z.all → u < n) → (∀ u, u ∈ z.lvs → u ∈ L) → ∀ (w : World) (p : Int) (k : Nat) (o : Nat → Nd), MtW W1 XN XS XL n w k o → k + z.inn ≤ n - m →
    Calls Tryz.prog 90 #[.int .i64 (z.top : Nat), .int .i64 p, .pointer (some ⟨XN, 0, none⟩), .pointer (some ⟨XS, 0, none⟩), .pointer (some ⟨XL, 0, none⟩), .pointer (some ⟨W1.heap.size + 2, 0, none⟩), .pointer (some ⟨W1.heap.size + 3, 0, none⟩), .pointer (some ⟨W1.heap.size, 0, none⟩), .pointer (some ⟨W1.heap.size + 4, 0, none⟩)] w
      fun e w' => e = .returned (.tuple #[]) ∧ MtW W1 XN XS XL n w' (k + z.inn) (mtF t L (n - m) z.srt p k o) := by
  have n65 := hG.n65
  have mn := hG.mn
  intro z
  induction z with
  | lf v =>
    intro hK hlt hlv w p k o hM hk
    have hv : v < n := hlt v (by simp [Sh.all])
    have hvL : v ∈ L := hlv v (by simp [Sh.lvs])
    have hKv : K v = [] := hK
    obtain ⟨bA, oA, hA, hbA, hc⟩ := rdNd (hG.rn.bl hM.bel) (by rw [hG.tn]; omega)
    obtain ⟨_, e5⟩ := hc v (by rw [hG.tn]; exact hv)
    have e6 : w.cell? ⟨XN, 0, none⟩ = some (.slice a n ca) := (hG.bn.below hM.bel).cell 0
    rw [hA] at e6
    have hm0 : 0 < m := by rw [← hG.lm]; exact List.length_pos_of_mem hvL
    have hidx := List.idxOf_lt_length_of_mem hvL
    rw [hG.lm] at hidx
    have hkx : (iN L).take m = iN L := List.take_of_length_le (by rw [iN_len, hG.lm]; exact Nat.le_refl _)
    have hpw : ((iN L).take m).Pairwise (· ≤ ·) := by
      rw [hkx]
      exact List.Pairwise.map _ (fun x y (h : x < y) => by omega) hG.pw
    have hcnt := count_idx hG.pw hvL
    obtain ⟨w1, hw1⟩ : ∃ x, x = w.alloc (.cells #[.int .i64 p, .string (nS t v)] 46) := ⟨_, rfl⟩
    have hb1 : Below w.heap.size w w1 := by rw [hw1]; exact bl_alloc (Below.refl _ _) _
    have hX := Blk.new w #[.int .i64 p, .string (nS t v)] 46
    rw [← hw1] at hX
    have hM1 := hM.bl hb1
    have HX := Lib.hid hX
    have HM1 := Lib.hid hM1
    have HW1 := Lib.hid hw1
    obtain ⟨X, hXe⟩ : ∃ x, x = w.heap.size := ⟨_, rfl⟩
    rw [← hXe] at HX
    have HXE := Lib.hid hXe
    have hXb : Hid (W1.heap.size + 5 ≤ X) := by show _ ≤ _; rw [hXe]; exact hM.bm.lt
    -- what is read behind it
    have hS := hG.sub.bl hM1.bel
    have f1 : w1.cell? ⟨XS, 0, none⟩ = some (.slice (some ⟨g, 0, none⟩) n c) := (hG.bs.below hM1.bel).cell 0
    have f2 := hS.cell v hv
    have f3 := hS.len v hv
    rw [hKv] at f3
    obtain ⟨⟨A, m', cp⟩, hx⟩ : ∃ x, x = rs v := ⟨_, rfl⟩
    rw [← hx] at f2 f3
    have f4 : w1.cell? ⟨g, v, none⟩ = some (.slice A 0 cp) := by rw [f2]; show some (Value.slice A m' cp) = _; rw [show m' = 0 from f3]
    have f6 : w1.cell? ⟨XN, 0, none⟩ = some (.slice (some ⟨bA, oA, none⟩) n ca) := by rw [← hA]; exact (hG.bn.below hM1.bel).cell 0
    obtain ⟨bL, oL, hAL, hbL, hcL⟩ := rdI (hG.rl.bl hM1.bel) (by rw [iN_len, hG.lm]; exact hm0)
    have f7 : w1.cell? ⟨XL, 0, none⟩ = some (.slice (some ⟨bL, oL, none⟩) m cl) := by rw [← hAL]; exact (hG.bl.below hM1.bel).cell 0
    have HBS : Hid (Calls Tryz.prog 91 #[.slice (some ⟨bL, oL, none⟩) m cl, .int .i64 (v : Int)] w1 fun e w' => (∃ β, e = .returned (.tuple #[.int .i64 (L.idxOf v : Nat), .bool β])) ∧ ∃ q, w' = w1.drewN q) := by
      refine (Tryz.slices_BinarySearch_int bL oL m cl (iN L) (v : Int) w1 (by rw [iN_len, hG.lm]; exact Nat.le_refl _) (by omega) (fun j hj => by have h := hcL j hj; rw [h]; rfl) hpw).mono ?_
      rintro e w' ⟨h1, h2⟩
      rw [hkx, hcnt] at h1
      exact ⟨⟨(iN L).contains (v : Int), h1⟩, h2⟩
    have HG := Lib.hid hG
    have HM := Lib.hid hM
    clear hG hlt hlv hM hM1 hS f2 f3 hx hcL hc hpw hkx hcnt hw1 hb1 hX hKv hXe hK
    show Calls Tryz.prog 90 #[.int .i64 (v : Nat), _, _, _, _, _, _, _, _] w fun e w' => e = .returned (.tuple #[]) ∧ MtW W1 XN XS XL n w' (k + 0) (mtF t L (n - m) (.lf v) p k o)
    go_enter Tryz.func90, Tryz.ntmps90
    go_upto_region 1 with fail
    rw [← HW1.out, ← HXE.out]
    obtain ⟨s, hs⟩ : ∃ s, s = nS t v := ⟨_, rfl⟩
    rw [← hs] at HX ⊢
    obtain ⟨ix, hix⟩ : ∃ i, i = L.idxOf v := ⟨_, rfl⟩
    rw [← hix] at HBS hidx
    have HS := Lib.hid hs
    have HIX := Lib.hid hix
    clear e5 e6 hs hix
    go_wp2_with fail
    refine HBS.out.mono ?_
    rintro e w2 ⟨⟨β, rfl⟩, q, rfl⟩
    obtain ⟨w2, hw2⟩ : ∃ x, x = w1.drewN q := ⟨_, rfl⟩
    rw [← hw2]
    have hb2 : Below w1.heap.size w1 w2 := by rw [hw2]; exact bl_drewN (Below.refl _ _) q
    have hM2 := HM1.out.bl hb2
    have HX2 := Lib.hid (HX.out.below hb2)
    have HM2 := Lib.hid hM2
    have g6 : w2.cell? ⟨XN, 0, none⟩ = some (.slice (some ⟨bA, oA, none⟩) n ca) := (HG.out.bn.below hM2.bel).cell 0 |>.trans (by rw [hA]; rfl)
    have g7 : w2.cell? ⟨XL, 0, none⟩ = some (.slice (some ⟨bL, oL, none⟩) m cl) := (HG.out.bl.below hM2.bel).cell 0 |>.trans (by rw [hAL]; rfl)
    have g8 : w2.cell? ⟨W1.heap.size + 2, 0, none⟩ = some (.slice (some ⟨W1.heap.size + 1, 0, none⟩) n n) := hM2.bo.cell 0
    have g9 : w2.cell? ⟨X, 0, none⟩ = some (.int .i64 p) := HX2.out.cell 0
    have g10 : w2.cell? ⟨X, 1, none⟩ = some (.string s) := HX2.out.cell 1
    obtain ⟨y0, c0⟩ : ∃ y, w2.cell? ⟨W1.heap.size + 1, (n - m + ix) * 2, none⟩ = some y := ⟨_, hM2.bg.getF _ (by omega)⟩
    obtain ⟨y1, c1⟩ : ∃ y, w2.cell? ⟨W1.heap.size + 1, (n - m + ix) * 2 + 1, none⟩ = some y := ⟨_, hM2.bg.getF _ (by omega)⟩
    have z0 : w2.frozen? ⟨W1.heap.size + 1, (n - m + ix) * 2, none⟩ = false := hM2.bg.free _
    have z1 : w2.frozen? ⟨W1.heap.size + 1, (n - m + ix) * 2 + 1, none⟩ = false := hM2.bg.free _
    have a1 : IntKind.i64.wrap ((n : Int) - (m : Int)) = ((n - m : Nat) : Int) := wrap_nat _ _ (by omega) (by omega)
    have a2 : IntKind.i64.wrap (((n - m : Nat) : Int) + (ix : Int)) = ((n - m + ix : Nat) : Int) := wrap_nat _ _ (by omega) (by omega)
    have a3 : n - m + ix < n := by omega
    obtain ⟨at_, hat⟩ : ∃ x, x = n - m + ix := ⟨_, rfl⟩
    rw [← hat] at c0 c1 z0 z1 a2 a3
    have HAT := Lib.hid hat
    clear hM2 hb2 hw2 f1 f4 f6 f7 hat
    go_wp2_with fail
    refine bodyPost_ret (v := .tuple #[]) (by simp [results, Tryz.results90, go_sem]) rfl ⟨rfl, ?_⟩
    show MtW W1 XN XS XL n _ k (fun i => if i = n - m + L.idxOf v then (p, nS t v) else o i)
    rw [← HIX.out, ← HAT.out, ← HS.out]
    exact HM2.out.put at_ (p, s)
  | nd v x y ihx ihy =>
    intro hK hlt hlv w p k o hM hk
    obtain ⟨hKv, hKx, hKy⟩ := hK
    have hv : v < n := hlt v (by simp [Sh.all])
    have hinn : (Sh.nd v x y).inn = x.inn + y.inn + 1 := rfl
    rw [hinn] at hk
    have ltx : ∀ u, u ∈ x.all → u < n := fun u hu => hlt u (by simp [Sh.all, hu])
    have lty : ∀ u, u ∈ y.all → u < n := fun u hu => hlt u (by simp [Sh.all, hu])
    have HIX := Lib.hid (ihx hKx ltx (fun u hu => hlv u (by simp [Sh.lvs, hu])))
    have HIY := Lib.hid (ihy hKy lty (fun u hu => hlv u (by simp [Sh.lvs, hu])))
    have HLX := Lib.hid (least_any XS W1.heap.size g n c K rs n65 x hKx ltx)
    have HLY := Lib.hid (least_any XS W1.heap.size g n c K rs n65 y hKy lty)
    obtain ⟨bA, oA, hA, hbA, hc⟩ := rdNd (hG.rn.bl hM.bel) (by rw [hG.tn]; omega)
    obtain ⟨_, e5⟩ := hc v (by rw [hG.tn]; exact hv)
    have e6 : w.cell? ⟨XN, 0, none⟩ = some (.slice a n ca) := (hG.bn.below hM.bel).cell 0
    rw [hA] at e6
    obtain ⟨w1, hw1⟩ : ∃ x, x = w.alloc (.cells #[.int .i64 p, .string (nS t v)] 46) := ⟨_, rfl⟩
    have hb1 : Below w.heap.size w w1 := by rw [hw1]; exact bl_alloc (Below.refl _ _) _
    have hX := Blk.new w #[.int .i64 p, .string (nS t v)] 46
    rw [← hw1] at hX
    have hM1 := hM.bl hb1
    have HX := Lib.hid hX
    have HM1 := Lib.hid hM1
    have HW1 := Lib.hid hw1
    obtain ⟨X, hXe⟩ : ∃ x, x = w.heap.size := ⟨_, rfl⟩
    rw [← hXe] at HX
    have HXE := Lib.hid hXe
    have hXb : W1.heap.size + 5 ≤ X := by rw [hXe]; exact hM.bm.lt
    have f2 := hG.sub.cell v hv
    have f3 := hG.sub.len v hv
    have frow := hG.sub.row v hv
    rw [hKv] at f3 frow
    obtain ⟨⟨A, m', cp⟩, hx⟩ : ∃ x, x = rs v := ⟨_, rfl⟩
    rw [← hx] at f2 f3 frow
    have f4 : W1.cell? ⟨g, v, none⟩ = some (.slice A 2 cp) := by rw [f2]; show some (Value.slice A m' cp) = _; rw [show m' = 2 from f3]
    obtain ⟨bR, oR, hR, hbR, hcR⟩ := rdI frow (by rw [iN_len]; simp)
    obtain rfl : A = some ⟨bR, oR, none⟩ := hR
    have f5 : W1.cell? ⟨bR, oR, none⟩ = some (.int .i64 (x.top : Nat)) := by have h := hcR 0 (by rw [iN_len]; simp); rw [iN_get] at h; exact h
    have f6 : W1.cell? ⟨bR, oR + 1, none⟩ = some (.int .i64 (y.top : Nat)) := by have h := hcR 1 (by rw [iN_len]; simp); rw [iN_get] at h; exact h
    have hgl := hG.sub.lt
    have HFF : Hid (∀ w', Below W1.heap.size W1 w' → w'.cell? ⟨XS, 0, none⟩ = some (.slice (some ⟨g, 0, none⟩) n c) ∧ w'.cell? ⟨g, v, none⟩ = some (.slice (some ⟨bR, oR, none⟩) 2 cp) ∧ w'.cell? ⟨bR, oR, none⟩ = some (.int .i64 (x.top : Nat)) ∧ w'.cell? ⟨bR, oR + 1, none⟩ = some (.int .i64 (y.top : Nat))) := fun w' hb =>
      ⟨(hG.bs.below hb).cell 0, (hb.cell (p := ⟨g, v, none⟩) hgl).trans f4, (hb.cell (p := ⟨bR, oR, none⟩) hbR).trans f5, (hb.cell (p := ⟨bR, oR + 1, none⟩) hbR).trans f6⟩
    clear f4 f5 f6 hgl
    obtain ⟨f1, f4, f5, f6⟩ := HFF.out w1 hM1.bel
    -- the node is written, the counter goes on
    obtain ⟨s, hs⟩ : ∃ s, s = nS t v := ⟨_, rfl⟩
    obtain ⟨w2, hw2⟩ : ∃ x, x = ((w1.setCell ⟨W1.heap.size + 1, k * 2, none⟩ (.int .i64 p)).setCell ⟨W1.heap.size + 1, k * 2 + 1, none⟩ (.string s)).setCell ⟨W1.heap.size + 3, 0, none⟩ (.int .i64 ((k + 1 : Nat) : Int)) := ⟨_, rfl⟩
    have hM2 := (hM1.put k (p, s)).next (k + 1)
    rw [← hw2] at hM2
    have b0 : w1.cell? ⟨W1.heap.size + 3, 0, none⟩ = some (.int .i64 k) := hM1.bx.cell 0
    have b1 : w1.frozen? ⟨W1.heap.size + 3, 0, none⟩ = false := hM1.bx.free 0
    have g8 : w1.cell? ⟨W1.heap.size + 2, 0, none⟩ = some (.slice (some ⟨W1.heap.size + 1, 0, none⟩) n n) := hM1.bo.cell 0
    have g9 : w1.cell? ⟨X, 0, none⟩ = some (.int .i64 p) := HX.out.cell 0
    have g10 : w1.cell? ⟨X, 1, none⟩ = some (.string s) := by rw [hs]; exact HX.out.cell 1
    obtain ⟨y0, c0⟩ : ∃ y, w1.cell? ⟨W1.heap.size + 1, k * 2, none⟩ = some y := ⟨_, hM1.bg.getF _ (by omega)⟩
    obtain ⟨y1, c1⟩ : ∃ y, w1.cell? ⟨W1.heap.size + 1, k * 2 + 1, none⟩ = some y := ⟨_, hM1.bg.getF _ (by omega)⟩
    have z0 : w1.frozen? ⟨W1.heap.size + 1, k * 2, none⟩ = false := hM1.bg.free _
    have z1 : w1.frozen? ⟨W1.heap.size + 1, k * 2 + 1, none⟩ = false := hM1.bg.free _
    have HG := Lib.hid hG
    have HM2 := Lib.hid hM2
    have HW2 := Lib.hid hw2
    have HS := Lib.hid hs
    have HK := Lib.hid hKv
    rw [← hs] at e5 HX HW1
    clear hG hlt hlv hM hM1 f2 f3 frow hx hcR hc hw1 hb1 hX hKv hXe hKx hKy ltx lty hM2 hw2 hs ihx ihy hinn
    show Calls Tryz.prog 90 #[.int .i64 (v : Nat), _, _, _, _, _, _, _, _] w fun e w' => e = .returned (.tuple #[]) ∧ MtW W1 XN XS XL n w' (k + (x.inn + y.inn + 1)) (mtF t L (n - m) (Sh.nd v x y).srt p k o)
    go_enter Tryz.func90, Tryz.ntmps90
    go_upto_region 1 with fail
    rw [← HW1.out, ← HXE.out]
    clear e5 e6
    go_upto_region 7 with fail
    have e9 : ((k : Int) + 1) = ((k + 1 : Nat) : Int) := by omega
    rw [e9, ← HW2.out]
    obtain ⟨h1, h2, h3, h4⟩ := HFF.out w2 HM2.out.bel
    clear f1 f4 f5 f6 b0 b1 g8 g9 g10 y0 c0 y1 c1 z0 z1 e9
    refine wp_quiet_tail_lit 13 (by kernel_rfl) (by kernel_rfl) ?_
    simp only [List.take_succ_cons, List.take_zero, List.drop_succ_cons, List.drop_zero]
    repeat (go_big_quiet_step (fail))
    refine wpQuiet_nil ?_
    intro _ hw'
    obtain ⟨nq, hw''⟩ := hw'
    subst hw''
    try simp only [Act.put, List.setIfInBounds_toArray, List.set_cons_zero, List.set_cons_succ]
    go_upto_region 8 with fail
    obtain ⟨w3, hw3⟩ : ∃ x, x = w2.drewN nq := ⟨_, rfl⟩
    have hb3 : Below w2.heap.size w2 w3 := by rw [hw3]; exact bl_drewN (Below.refl _ _) nq
    have hM3 := HM2.out.bl hb3
    rw [← hw3]
    clear hw3 hb3 h1 h2 h3 h4
    have h1 : w3.cell? ⟨W1.heap.size, 0, none⟩ = some (.func (.func 89) #[] #[.pointer (some ⟨XS, 0, none⟩), .pointer (some ⟨W1.heap.size, 0, none⟩)]) := hM3.be.cell 0
    have HCX : Hid (∀ j, Calls Tryz.prog 89 #[.int .i64 (x.top : Nat), .pointer (some ⟨XS, 0, none⟩), .pointer (some ⟨W1.heap.size, 0, none⟩)] (w3.drewN j) fun e w' => e = .returned (.int .i64 (x.least : Nat)) ∧ ∃ i, w' = w3.drewN i) := fun j =>
      (HLX.out (w3.drewN j) ((HG.out.bs.below hM3.bel).drewN j) (hM3.be.drewN j) ((HG.out.sub.bl hM3.bel).drewN j)).mono fun e w' h => ⟨h.1, by obtain ⟨i, hi⟩ := h.2; exact ⟨j + i, by rw [hi, drewN_add]⟩⟩
    have HCY : Hid (∀ j, Calls Tryz.prog 89 #[.int .i64 (y.top : Nat), .pointer (some ⟨XS, 0, none⟩), .pointer (some ⟨W1.heap.size, 0, none⟩)] (w3.drewN j) fun e w' => e = .returned (.int .i64 (y.least : Nat)) ∧ ∃ i, w' = w3.drewN i) := fun j =>
      (HLY.out (w3.drewN j) ((HG.out.bs.below hM3.bel).drewN j) (hM3.be.drewN j) ((HG.out.sub.bl hM3.bel).drewN j)).mono fun e w' h => ⟨h.1, by obtain ⟨i, hi⟩ := h.2; exact ⟨j + i, by rw [hi, drewN_add]⟩⟩
    have HM3 := Lib.hid hM3
    clear hM3 HLX HLY HM2
    have HPX : Hid (x.srt.inn = x.inn) := Sh.srt_inn x
    have HPY : Hid (y.srt.inn = y.inn) := Sh.srt_inn y
    by_cases hlt : y.least < x.least
    all_goals
      obtain ⟨lx, hlx⟩ : ∃ l, l = x.least := ⟨_, rfl⟩
      obtain ⟨ly, hly⟩ : ∃ l, l = y.least := ⟨_, rfl⟩
      have HSR := Lib.hid (Sh.srt_nd v x y)
      rw [← hlx] at HCX hlt HSR
      rw [← hly] at HCY hlt HSR
      clear hlx hly
    · have d1 : decide ((ly : Int) < (lx : Int)) = true := by simp; omega
      have d2 : decide (ly < lx) = true := by simp; omega
      have HF : Hid ((Sh.nd v x y).srt = .nd v y.srt x.srt) := by show _ = _; rw [HSR.out, if_pos hlt]
      clear hlt HSR
      refine wp_region_quiet_lit (by kernel_rfl) (by kernel_rfl) ?_
      repeat (go_big_quiet_step (fail))
      go_big_quiet_step ((exact HCX.out _))
      repeat (go_big_quiet_step (fail))
      go_big_quiet_step ((exact HCY.out _))
      repeat (go_big_quiet_step (fail))
      refine wpQuiet_nil ?_
      intro _ hw'
      obtain ⟨nq2, hw''⟩ := hw'
      subst hw''
      try simp only [Act.put, List.setIfInBounds_toArray, List.set_cons_zero, List.set_cons_succ]
      have HM4 := Lib.hid (HM3.out.bl (bl_drewN (Below.refl _ _) nq2))
      obtain ⟨w4, hw4⟩ : ∃ x, x = w3.drewN nq2 := ⟨_, rfl⟩
      rw [← hw4] at HM4 ⊢
      clear hw4 h1
      have k1 : w4.cell? ⟨W1.heap.size + 4, 0, none⟩ = some (.func (.func 90) #[] #[.pointer (some ⟨XN, 0, none⟩), .pointer (some ⟨XS, 0, none⟩), .pointer (some ⟨XL, 0, none⟩), .pointer (some ⟨W1.heap.size + 2, 0, none⟩), .pointer (some ⟨W1.heap.size + 3, 0, none⟩), .pointer (some ⟨W1.heap.size, 0, none⟩), .pointer (some ⟨W1.heap.size + 4, 0, none⟩)]) := HM4.out.bm.cell 0
      have HC := Lib.hid (HIY.out w4 (k : Int) (k + 1) _ HM4.out (by omega))
      go_wp2_with fail
      refine HC.out.mono ?_
      rintro e w5 ⟨rfl, hM5⟩
      have HC2 := Lib.hid (HIX.out w5 (k : Int) (k + 1 + y.inn) _ hM5 (by omega))
      have k2 : w5.cell? ⟨W1.heap.size + 4, 0, none⟩ = some (.func (.func 90) #[] #[.pointer (some ⟨XN, 0, none⟩), .pointer (some ⟨XS, 0, none⟩), .pointer (some ⟨XL, 0, none⟩), .pointer (some ⟨W1.heap.size + 2, 0, none⟩), .pointer (some ⟨W1.heap.size + 3, 0, none⟩), .pointer (some ⟨W1.heap.size, 0, none⟩), .pointer (some ⟨W1.heap.size + 4, 0, none⟩)]) := hM5.bm.cell 0
      clear hM5 k1 HC
      go_wp2_with fail
      refine HC2.out.mono ?_
      rintro e w6 ⟨rfl, hM6⟩
      have HM6 := Lib.hid hM6
      clear hM6 k2 HC2
      go_wp2_with fail
      go_end0
      refine ⟨rfl, ?_⟩
      rw [HF.out]
      show MtW W1 XN XS XL n w6 (k + (x.inn + y.inn + 1)) (mtF t L (n - m) x.srt k (k + 1 + y.srt.inn) (mtF t L (n - m) y.srt k (k + 1) (fun i => if i = k then (p, nS t v) else o i)))
      rw [HPY.out, ← HS.out, show k + (x.inn + y.inn + 1) = k + 1 + y.inn + x.inn by omega]
      exact HM6.out
    · have d1 : decide ((ly : Int) < (lx : Int)) = false := by simp; omega
      have d2 : decide (ly < lx) = false := by simp; omega
      have HF : Hid ((Sh.nd v x y).srt = .nd v x.srt y.srt) := by show _ = _; rw [HSR.out, if_neg hlt]
      clear hlt HSR
      refine wp_region_quiet_lit (by kernel_rfl) (by kernel_rfl) ?_
      repeat (go_big_quiet_step (fail))
      go_big_quiet_step ((exact HCX.out _))
      repeat (go_big_quiet_step (fail))
      go_big_quiet_step ((exact HCY.out _))
      repeat (go_big_quiet_step (fail))
      refine wpQuiet_nil ?_
      intro _ hw'
      obtain ⟨nq2, hw''⟩ := hw'
      subst hw''
      try simp only [Act.put, List.setIfInBounds_toArray, List.set_cons_zero, List.set_cons_succ]
      have HM4 := Lib.hid (HM3.out.bl (bl_drewN (Below.refl _ _) nq2))
      obtain ⟨w4, hw4⟩ : ∃ x, x = w3.drewN nq2 := ⟨_, rfl⟩
      rw [← hw4] at HM4 ⊢
      clear hw4 h1
      have k1 : w4.cell? ⟨W1.heap.size + 4, 0, none⟩ = some (.func (.func 90) #[] #[.pointer (some ⟨XN, 0, none⟩), .pointer (some ⟨XS, 0, none⟩), .pointer (some ⟨XL, 0, none⟩), .pointer (some ⟨W1.heap.size + 2, 0, none⟩), .pointer (some ⟨W1.heap.size + 3, 0, none⟩), .pointer (some ⟨W1.heap.size, 0, none⟩), .pointer (some ⟨W1.heap.size + 4, 0, none⟩)]) := HM4.out.bm.cell 0
      have HC := Lib.hid (HIX.out w4 (k : Int) (k + 1) _ HM4.out (by omega))
      go_wp2_with fail
      refine HC.out.mono ?_
      rintro e w5 ⟨rfl, hM5⟩
      have HC2 := Lib.hid (HIY.out w5 (k : Int) (k + 1 + x.inn) _ hM5 (by omega))
      have k2 : w5.cell? ⟨W1.heap.size + 4, 0, none⟩ = some (.func (.func 90) #[] #[.pointer (some ⟨XN, 0, none⟩), .pointer (some ⟨XS, 0, none⟩), .pointer (some ⟨XL, 0, none⟩), .pointer (some ⟨W1.heap.size + 2, 0, none⟩), .pointer (some ⟨W1.heap.size + 3, 0, none⟩), .pointer (some ⟨W1.heap.size, 0, none⟩), .pointer (some ⟨W1.heap.size + 4, 0, none⟩)]) := hM5.bm.cell 0
      clear hM5 k1 HC
      go_wp2_with fail
      refine HC2.out.mono ?_
      rintro e w6 ⟨rfl, hM6⟩
      have HM6 := Lib.hid hM6
      clear hM6 k2 HC2
      go_wp2_with fail
      go_end0
      refine ⟨rfl, ?_⟩
      rw [HF.out]
      show MtW W1 XN XS XL n w6 (k + (x.inn + y.inn + 1)) (mtF t L (n - m) y.srt k (k + 1 + x.srt.inn) (mtF t L (n - m) x.srt k (k + 1) (fun i => if i = k then (p, nS t v) else o i)))
      rw [HPX.out, ← HS.out, show k + (x.inn + y.inn + 1) = k + 1 + x.inn + y.inn by omega]
      exact HM6.out
end Go.Proofs.YtjmnakkkimgifaaGreatDoor
namespace Go.Proofs.YtjmnakkkimgifaaGreatDoor
open Go Go.RowKit Go.Shelf
/-- The leaves: the nodes without children. -/
def lvK (K : Nat → List Nat) (k : Nat) : List Nat := (List.range k).filter fun v => (K v).isEmpty
theorem lvK_snoc (K : Nat → List Nat) (k : Nat) : lvK K (k + 1) = lvK K k ++ (if (K k).isEmpty then [k] else []) := by
  unfold lvK
  rw [List.range_succ, List.filter_append]
  congr 1
  by_cases q : (K k).isEmpty <;> simp [q]
theorem lvK_le (K : Nat → List Nat) (k : Nat) : (lvK K k).length ≤ k := by
  have := List.length_filter_le (fun v => (K v).isEmpty) (List.range k)
  simpa [lvK] using this
theorem lvK_pw (K : Nat → List Nat) (k : Nat) : (lvK K k).Pairwise (· < ·) := List.Pairwise.filter _ List.pairwise_lt_range
theorem Sh.lvs_sublist : ∀ s : Sh, s.lvs.Sublist s.all
  | .lf _ => List.Sublist.refl _
  | .nd v a b => ((lvs_sublist a).append (lvs_sublist b)).cons v
theorem lvK_perm {K : Nat → List Nat} {n : Nat} {s : Sh} (hK : Sub K s) (hp : s.all.Perm (List.range n)) (hn : s.all.Nodup) : (lvK K n).Perm s.lvs := by
  refine (List.perm_ext_iff_of_nodup ((lvK_pw K n).imp (fun h => Nat.ne_of_lt h)) ?_).2 fun u => ?_
  · exact (Sh.lvs_sublist s).nodup hn
  · unfold lvK
    rw [List.mem_filter, List.isEmpty_iff, sub_lvs hK u, hp.mem_iff]
theorem nds_made (n : Nat) : madeCells #[Value.int .i64 0, Value.string ByteArray.empty] (n * 2) = ofF (n * 2) (outC fun _ => (0, ByteArray.empty)) := by
  apply Array.ext
  · simp [madeCells, ofF]
  · intro i h1 h2
    have : i % 2 = 0 ∨ i % 2 = 1 := by omega
    rcases this with q | q <;> simp [madeCells, ofF, outC, q]
set_option maxRecDepth 100000 in
set_option maxHeartbeats 4000000 in
theorem numbered_any (a : Option Addr) (n ca g c : Nat) (t : List Nd) (K : Nat → List Nat) (rs : Nat → Rw) (s : Sh) (w : World) (tn : t.length = n) (n65 : n ≤ 65) (hA : Rd w a (fl encNd t)) (hS : SubR w g n K rs) (hK : Sub K s) (h0 : s.top = 0) (hp : s.all.Perm (List.range n)) :
    Calls Tryz.prog 70 #[.slice a n ca, .slice (some ⟨g, 0, none⟩) n c] w fun e w' => ∃ g', e = .returned (.slice (some ⟨g', 0, none⟩) n n) ∧ w'.ownsRow w.heap.size 46 2 (.slice (some ⟨g', 0, none⟩) n n) n (fl encNd (numL t (lvK K n) s)) ∧ Below w.heap.size w w' := by
  have HLK := Lib.hid (lvK_snoc K)
  have HLE := Lib.hid (lvK_le K)
  have HT := Lib.hid tn
  have hb3 : Below w.heap.size w (((w.alloc (.cells #[.slice a n ca] 25)).alloc (.cells #[.slice (some ⟨g, 0, none⟩) n c] 68)).alloc (.cells #[.slice none 0 0] 29)) := bl_alloc (bl_alloc (bl_alloc (Below.refl _ _) _) _) _
  have q1 := ((Blk.new w #[.slice a n ca] 25).alloc (.cells #[.slice (some ⟨g, 0, none⟩) n c] 68)).alloc (.cells #[.slice none 0 0] 29)
  have q2 := (Blk.new2 w (.cells #[.slice a n ca] 25) #[.slice (some ⟨g, 0, none⟩) n c] 68).alloc (.cells #[.slice none 0 0] 29)
  have q3 := Blk.new ((w.alloc (.cells #[.slice a n ca] 25)).alloc (.cells #[.slice (some ⟨g, 0, none⟩) n c] 68)) #[.slice none 0 0] 29
  have hz3 : (((w.alloc (.cells #[.slice a n ca] 25)).alloc (.cells #[.slice (some ⟨g, 0, none⟩) n c] 68)).alloc (.cells #[.slice none 0 0] 29)).heap.size = w.heap.size + 3 := by simp
  rw [show ((w.alloc (.cells #[.slice a n ca] 25)).alloc (.cells #[.slice (some ⟨g, 0, none⟩) n c] 68)).heap.size = w.heap.size + 2 by simp] at q3
  have HA := Lib.hid hA
  have HS := Lib.hid hS
  have HK := Lib.hid hK
  have H0 := Lib.hid h0
  have HP := Lib.hid hp
  clear tn hA hS hK h0 hp
  go_enter Tryz.func70, Tryz.ntmps70
  go_upto_region 2 with fail
  obtain ⟨X, hX⟩ : ∃ x, x = w.heap.size := ⟨_, rfl⟩
  obtain ⟨w3, hw3⟩ : ∃ x, x = (((w.alloc (.cells #[.slice a n ca] 25)).alloc (.cells #[.slice (some ⟨g, 0, none⟩) n c] 68)).alloc (.cells #[.slice none 0 0] 29)) := ⟨_, rfl⟩
  rw [← hw3] at hb3 q1 q2 q3 hz3 ⊢
  rw [← hX] at q1 q2 q3 hz3 ⊢
  have HX := Lib.hid hX
  have HB3 : Hid (Below X w w3) := by rw [hX]; exact hb3
  have Q1 := Lib.hid q1
  have Q2 := Lib.hid q2
  have Q3 := Lib.hid q3
  have HZ3 := Lib.hid hz3
  clear hw3 hX hb3 q3 hz3
  have e1 : w3.cell? ⟨X, 0, none⟩ = some (.slice a n ca) := q1.cell 0
  clear q1 q2
  go_wp2_with fail
  clear e1
  have Q3' : Hid (Blk w3 (X + 1 + 1) #[.slice none 0 0] 29) := Q3.out
  go_loopw [13] (fun x wr => ∃ k : Nat, k ≤ n ∧ x = .int .i64 k ∧ Hid (Blk wr X #[.slice a n ca] 25) ∧ Hid (Blk wr (X + 1) #[.slice (some ⟨g, 0, none⟩) n c] 68) ∧ (∃ v, Hid (Blk wr (X + 1 + 1) #[v] 29) ∧ Hid (wr.ownsRow (X + 3) 3 1 v (lvK K k).length (fl encI (iN (lvK K k)))) ∧ X + 3 ≤ wr.heap.size) ∧ Hid (Below X w wr)) (fun x _ => n - (intOf x).toNat)
  case atStart => exact ⟨0, by omega, rfl, Q1, Q2, ⟨_, Q3', World.ownsRow_nil _ _ _ _, by rw [HZ3.out]; exact Nat.le_refl _⟩, HB3⟩
  case round =>
    clear Q1 Q2 Q3 Q3'
    obtain ⟨k, hk, rfl, hq1, hq2, ⟨v, hq3, how, hsz⟩, hbl⟩ := hrel
    have HBL : Hid (Below w.heap.size w wr) := by have h := hbl.out; rw [HX.out] at h; exact h
    by_cases hlt : k < n
    · have hS1 := HS.out.bl HBL.out
      have e1 : wr.cell? ⟨X + 1, 0, none⟩ = some (.slice (some ⟨g, 0, none⟩) n c) := hq2.out.cell 0
      have f2 := hS1.cell k hlt
      have f3 := hS1.len k hlt
      obtain ⟨⟨A, m, cp⟩, hx⟩ : ∃ x, x = rs k := ⟨_, rfl⟩
      rw [← hx] at f2 f3
      have f4 : wr.cell? ⟨g, k, none⟩ = some (.slice A m cp) := f2
      have f5 : m = (K k).length := f3
      have hsn := Lib.hid (HLK.out k)
      have hie : (K k).isEmpty = decide (m = 0) := by rw [f5]; cases K k <;> rfl
      have HIE := Lib.hid hie
      obtain ⟨Av, cv, rfl, hAv⟩ := owns_slice how.out
      have e2 : wr.cell? ⟨X + 1 + 1, 0, none⟩ = some (.slice Av (lvK K k).length cv) := hq3.out.cell 0
      have hl63 := HLE.out k
      obtain ⟨q, hq⟩ : ∃ q, q = (lvK K k).length := ⟨_, rfl⟩
      rw [← hq] at how hl63 e2 hq3
      have HQ := Lib.hid hq
      have hne : (Value.slice Av q cv).ownBlock ≠ some (X + 1 + 1) := fun e => by have := (how.out.lt _ e).1; omega
      have HNE := Lib.hid hne
      clear hS1 f2 f3 f5 hx hie hq hne hAv
      by_cases h0 : m = 0
      · have hs : Hid (lvK K (k + 1) = lvK K k ++ [k]) := by show _ = _; rw [hsn.out, HIE.out, decide_eq_true h0]; rfl
        subst h0
        go_wp2_with (at_builtin; refine push_I rfl (.tmp 22) (.tmp 24) rfl (X + 3) (.slice Av q cv) (iN (lvK K k)) q (by rw [iN_len]; exact HQ.out) rfl (how.out.alloc _) _ _ (k : Int) rfl (Blk.new _ _ _) (by omega) (by rw [World.size_alloc]; omega) ?_; intro g2 cap w8 h81 h82 h83 h84; rw [← iN_snoc, ← hs.out] at h81; have H81 := Lib.hid h81; have H82 := Lib.hid h82; have q8 := Lib.hid ((hq3.out.alloc (.cells #[.int .i64 k] 3)).grown h82 (Ne.symm HNE.out)); have c8 : w8.cell? ⟨X + 1 + 1, 0, none⟩ = some (.slice Av q cv) := q8.out.cell 0; have z8 : w8.frozen? ⟨X + 1 + 1, 0, none⟩ = false := q8.out.free 0; clear h81 h82 h83)
        have hrel : X + 3 ≤ w8.heap.size := by have := H82.out.size; rw [World.size_alloc] at this; omega
        have hr1 := ((hq1.out.alloc (.cells #[.int .i64 k] 3)).grown H82.out (fun e => by have := (how.out.lt X e.symm).1; omega)).other (show X ≠ X + 1 + 1 by omega) 0 (.slice (some ⟨g2, 0, none⟩) (q + 1) cap)
        have hr2 := ((hq2.out.alloc (.cells #[.int .i64 k] 3)).grown H82.out (fun e => by have := (how.out.lt (X + 1) e.symm).1; omega)).other (show X + 1 ≠ X + 1 + 1 by omega) 0 (.slice (some ⟨g2, 0, none⟩) (q + 1) cap)
        have hr3 := q8.out.set 0 (.slice (some ⟨g2, 0, none⟩) (q + 1) cap)
        have hlen : q + 1 = (lvK K (k + 1)).length := by rw [hs.out, List.length_append, ← HQ.out]; rfl
        have hr4 : (w8.setCell ⟨X + 1 + 1, 0, none⟩ (.slice (some ⟨g2, 0, none⟩) (q + 1) cap)).ownsRow (X + 3) 3 1 (.slice (some ⟨g2, 0, none⟩) (q + 1) cap) (lvK K (k + 1)).length (fl encI (iN (lvK K (k + 1)))) := by
          rw [← hlen]
          exact ownsRow_setCell_other (a := ⟨X + 1 + 1, 0, none⟩) H81.out (fun e => by have : X + 3 ≤ X + 1 + 1 := (H81.out.lt _ e).1; omega) _
        have hr5 : Below X w (w8.setCell ⟨X + 1 + 1, 0, none⟩ (.slice (some ⟨g2, 0, none⟩) (q + 1) cap)) := by
          have h := bl_set (bl_grown (bl_alloc HBL.out (.cells #[.int .i64 k] 3)) H82.out (fun r e => by have := (how.out.lt r e).1; have := HX.out; omega)) (X + 1 + 1) 0 none (.slice (some ⟨g2, 0, none⟩) (q + 1) cap) (by have := HX.out; omega)
          rw [← HX.out] at h; exact h
        have HR1 := Lib.hid hr1
        have HR2 := Lib.hid hr2
        have HR3 := Lib.hid hr3
        have HR4 := Lib.hid hr4
        have HR5 := Lib.hid hr5
        have HSZ : X + 3 ≤ (w8.setCell ⟨X + 1 + 1, 0, none⟩ (.slice (some ⟨g2, 0, none⟩) (q + 1) cap)).heap.size := by simp [World.setCell]; exact hrel
        clear hr1 hr2 hr3 hr4 hr5 hlen hrel c8 z8 e1 e2 f4
        go_roundw
        case rel => exact ⟨k + 1, by omega, by go_num, HR1, HR2, ⟨_, HR3, HR4, HSZ⟩, HR5⟩
        case measure => simp [intOf]; omega
      · have hs : Hid (lvK K (k + 1) = lvK K k) := by show _ = _; rw [hsn.out, HIE.out, decide_eq_false h0]; simp
        have t1 : ((m : Int) == 0) = false := by simp; omega
        have t2 : decide ((m : Int) = 0) = false := by simp; omega
        have t3 : decide (m = 0) = false := by simp; omega
        have t4 : (m == 0) = false := by simp; omega
        clear h0 hsn
        go_wp2_with fail
        go_roundw
        case rel => exact ⟨k + 1, by omega, by go_num, hq1, hq2, ⟨_, hq3, by rw [hs.out, ← HQ.out]; exact how, hsz⟩, hbl⟩
        case measure => simp [intOf]; omega
    · obtain rfl : k = n := by omega
      obtain ⟨Av, cv, rfl, hAv⟩ := owns_slice how.out
      go_upto_region 10 with fail
      obtain ⟨b1, hb1⟩ : ∃ x, x = wr.heap.size := ⟨_, rfl⟩
      rw [← hb1]
      have hE := Blk.new wr #[.func (.func 89) #[] #[.pointer (some ⟨X + 1, 0, none⟩), .pointer (some ⟨b1, 0, none⟩)]] 122
      have hl4 := bl_alloc (Below.refl _ wr) (.cells #[.func (.func 89) #[] #[.pointer (some ⟨X + 1, 0, none⟩), .pointer (some ⟨b1, 0, none⟩)]] 122)
      have hz4 : (wr.alloc (.cells #[.func (.func 89) #[] #[.pointer (some ⟨X + 1, 0, none⟩), .pointer (some ⟨b1, 0, none⟩)]] 122)).heap.size = b1 + 1 := by rw [hb1]; simp
      obtain ⟨w4, hw4⟩ : ∃ x, x = wr.alloc (.cells #[.func (.func 89) #[] #[.pointer (some ⟨X + 1, 0, none⟩), .pointer (some ⟨b1, 0, none⟩)]] 122) := ⟨_, rfl⟩
      rw [← hw4] at hE hl4 hz4 ⊢
      rw [← hb1] at hE
      have e1 : w4.cell? ⟨X, 0, none⟩ = some (.slice a k ca) := (hq1.out.below hl4).cell 0
      obtain ⟨i0, hi0, hz0, hz1, hz2⟩ := info_parts info_Nd
      have hmk := run_make (P := Tryz.prog) w4 25 46 i0 _ Tryz.underlying25 hi0 hz0 .i64 .i64 (k : Int) (k : Int) (by omega) (by omega) (by rw [hz2]; omega) (by omega)
      simp only [hz1, Int.toNat_natCast] at hmk
      have HE := Lib.hid hE
      have HL4 := Lib.hid hl4
      have HZ4 := Lib.hid hz4
      have HB1 := Lib.hid hb1
      clear hi0 hz0 hz1 hz2 hw4 hb1 hE hl4
      go_upto_region 14 with fail
      rw [nds_made]
      simp only [show b1 + 1 + 1 = b1 + 2 from rfl, show b1 + 2 + 1 = b1 + 3 from rfl, show b1 + 3 + 1 = b1 + 4 from rfl]
      have z1 : (w4.alloc (.cells (ofF (k * 2) (outC fun _ => (0, ByteArray.empty))) 46)).heap.size = b1 + 2 := by rw [World.size_alloc, HZ4.out]
      have z2 : ((w4.alloc (.cells (ofF (k * 2) (outC fun _ => (0, ByteArray.empty))) 46)).alloc (.cells #[.slice (some ⟨b1 + 1, 0, none⟩) k k] 25)).heap.size = b1 + 3 := by rw [World.size_alloc, z1]
      have z3 : (((w4.alloc (.cells (ofF (k * 2) (outC fun _ => (0, ByteArray.empty))) 46)).alloc (.cells #[.slice (some ⟨b1 + 1, 0, none⟩) k k] 25)).alloc (.cells #[.int .i64 0] 3)).heap.size = b1 + 4 := by rw [World.size_alloc, z2]
      have B1 := (((Blk.new w4 (ofF (k * 2) (outC fun _ => (0, ByteArray.empty))) 46).alloc (.cells #[.slice (some ⟨b1 + 1, 0, none⟩) k k] 25)).alloc (.cells #[.int .i64 0] 3)).alloc (.cells #[.func (.func 90) #[] #[.pointer (some ⟨X, 0, none⟩), .pointer (some ⟨X + 1, 0, none⟩), .pointer (some ⟨X + 1 + 1, 0, none⟩), .pointer (some ⟨b1 + 2, 0, none⟩), .pointer (some ⟨b1 + 3, 0, none⟩), .pointer (some ⟨b1, 0, none⟩), .pointer (some ⟨b1 + 4, 0, none⟩)]] 123)
      have B2 := ((Blk.new (w4.alloc (.cells (ofF (k * 2) (outC fun _ => (0, ByteArray.empty))) 46)) #[.slice (some ⟨b1 + 1, 0, none⟩) k k] 25).alloc (.cells #[.int .i64 0] 3)).alloc (.cells #[.func (.func 90) #[] #[.pointer (some ⟨X, 0, none⟩), .pointer (some ⟨X + 1, 0, none⟩), .pointer (some ⟨X + 1 + 1, 0, none⟩), .pointer (some ⟨b1 + 2, 0, none⟩), .pointer (some ⟨b1 + 3, 0, none⟩), .pointer (some ⟨b1, 0, none⟩), .pointer (some ⟨b1 + 4, 0, none⟩)]] 123)
      have B3 := (Blk.new ((w4.alloc (.cells (ofF (k * 2) (outC fun _ => (0, ByteArray.empty))) 46)).alloc (.cells #[.slice (some ⟨b1 + 1, 0, none⟩) k k] 25)) #[.int .i64 0] 3).alloc (.cells #[.func (.func 90) #[] #[.pointer (some ⟨X, 0, none⟩), .pointer (some ⟨X + 1, 0, none⟩), .pointer (some ⟨X + 1 + 1, 0, none⟩), .pointer (some ⟨b1 + 2, 0, none⟩), .pointer (some ⟨b1 + 3, 0, none⟩), .pointer (some ⟨b1, 0, none⟩), .pointer (some ⟨b1 + 4, 0, none⟩)]] 123)
      have B4 := Blk.new (((w4.alloc (.cells (ofF (k * 2) (outC fun _ => (0, ByteArray.empty))) 46)).alloc (.cells #[.slice (some ⟨b1 + 1, 0, none⟩) k k] 25)).alloc (.cells #[.int .i64 0] 3)) #[.func (.func 90) #[] #[.pointer (some ⟨X, 0, none⟩), .pointer (some ⟨X + 1, 0, none⟩), .pointer (some ⟨X + 1 + 1, 0, none⟩), .pointer (some ⟨b1 + 2, 0, none⟩), .pointer (some ⟨b1 + 3, 0, none⟩), .pointer (some ⟨b1, 0, none⟩), .pointer (some ⟨b1 + 4, 0, none⟩)]] 123
      have B0 := (((HE.out.alloc (.cells (ofF (k * 2) (outC fun _ => (0, ByteArray.empty))) 46)).alloc (.cells #[.slice (some ⟨b1 + 1, 0, none⟩) k k] 25)).alloc (.cells #[.int .i64 0] 3)).alloc (.cells #[.func (.func 90) #[] #[.pointer (some ⟨X, 0, none⟩), .pointer (some ⟨X + 1, 0, none⟩), .pointer (some ⟨X + 1 + 1, 0, none⟩), .pointer (some ⟨b1 + 2, 0, none⟩), .pointer (some ⟨b1 + 3, 0, none⟩), .pointer (some ⟨b1, 0, none⟩), .pointer (some ⟨b1 + 4, 0, none⟩)]] 123)
      have hl5 : Below wr.heap.size wr ((((w4.alloc (.cells (ofF (k * 2) (outC fun _ => (0, ByteArray.empty))) 46)).alloc (.cells #[.slice (some ⟨b1 + 1, 0, none⟩) k k] 25)).alloc (.cells #[.int .i64 0] 3)).alloc (.cells #[.func (.func 90) #[] #[.pointer (some ⟨X, 0, none⟩), .pointer (some ⟨X + 1, 0, none⟩), .pointer (some ⟨X + 1 + 1, 0, none⟩), .pointer (some ⟨b1 + 2, 0, none⟩), .pointer (some ⟨b1 + 3, 0, none⟩), .pointer (some ⟨b1, 0, none⟩), .pointer (some ⟨b1 + 4, 0, none⟩)]] 123)) := bl_alloc (bl_alloc (bl_alloc (bl_alloc HL4.out _) _) _) _
      rw [HZ4.out] at B1
      rw [z1] at B2
      rw [z2] at B3
      rw [z3] at B4
      obtain ⟨w5, hw5⟩ : ∃ x, x = (((w4.alloc (.cells (ofF (k * 2) (outC fun _ => (0, ByteArray.empty))) 46)).alloc (.cells #[.slice (some ⟨b1 + 1, 0, none⟩) k k] 25)).alloc (.cells #[.int .i64 0] 3)).alloc (.cells #[.func (.func 90) #[] #[.pointer (some ⟨X, 0, none⟩), .pointer (some ⟨X + 1, 0, none⟩), .pointer (some ⟨X + 1 + 1, 0, none⟩), .pointer (some ⟨b1 + 2, 0, none⟩), .pointer (some ⟨b1 + 3, 0, none⟩), .pointer (some ⟨b1, 0, none⟩), .pointer (some ⟨b1 + 4, 0, none⟩)]] 123) := ⟨_, rfl⟩
      rw [← hw5] at B0 B1 B2 B3 B4 hl5 ⊢
      clear z1 z2 z3 hw5 e1 hmk
      rw [HB1.out] at B0 B1 B2 B3 B4 ⊢
      have hM : MtW wr X (X + 1) (X + 1 + 1) k w5 0 (fun _ => (0, ByteArray.empty)) := ⟨hl5, B0, B1, B2, B3, B4⟩
      obtain ⟨m, hm⟩ : ∃ m, m = (lvK K k).length := ⟨_, rfl⟩
      rw [← hm] at how hq3
      have hG : MtG wr X (X + 1) (X + 1 + 1) g k ca c cv m a Av t K rs (lvK K k) := ⟨hq1.out, hq2.out, hq3.out, HA.out.bl HBL.out, HS.out.bl HBL.out, rd_of_owns how.out, HT.out, hm.symm, lvK_pw K k, n65, by rw [hm]; exact lvK_le K k⟩
      have hnd : s.all.Nodup := HP.out.nodup_iff.2 List.nodup_range
      have hLp := lvK_perm HK.out HP.out hnd
      have hlen : k = 2 * s.inn + 1 := by rw [← Sh.all_len, HP.out.length_eq, List.length_range]
      have hml : m = s.inn + 1 := by rw [hm, hLp.length_eq, Sh.lvs_inn]
      have hlt9 : ∀ u, u ∈ s.all → u < k := fun u hu => List.mem_range.1 (HP.out.mem_iff.1 hu)
      have h9 := meet_any wr X (X + 1) (X + 1 + 1) g k ca c cv m a Av t K rs (lvK K k) hG s HK.out hlt9 (fun u hu => hLp.mem_iff.2 hu) w5 (-1) 0 _ hM (by omega)
      rw [H0.out] at h9
      have hki : k - m = s.inn := by omega
      rw [hki] at h9
      have HC : Hid (Calls Tryz.prog 90 #[.int .i64 0, .int .i64 (-1), .pointer (some ⟨X, 0, none⟩), .pointer (some ⟨X + 1, 0, none⟩), .pointer (some ⟨X + 1 + 1, 0, none⟩), .pointer (some ⟨wr.heap.size + 2, 0, none⟩), .pointer (some ⟨wr.heap.size + 3, 0, none⟩), .pointer (some ⟨wr.heap.size, 0, none⟩), .pointer (some ⟨wr.heap.size + 4, 0, none⟩)] w5 fun e w' => e = .returned (.tuple #[]) ∧ MtW wr X (X + 1) (X + 1 + 1) k w' (0 + s.inn) (mtF t (lvK K k) s.inn s.srt (-1) 0 (fun _ => (0, ByteArray.empty)))) := h9
      have e4 : w5.cell? ⟨wr.heap.size + 4, 0, none⟩ = some (.func (.func 90) #[] #[.pointer (some ⟨X, 0, none⟩), .pointer (some ⟨X + 1, 0, none⟩), .pointer (some ⟨X + 1 + 1, 0, none⟩), .pointer (some ⟨wr.heap.size + 2, 0, none⟩), .pointer (some ⟨wr.heap.size + 3, 0, none⟩), .pointer (some ⟨wr.heap.size, 0, none⟩), .pointer (some ⟨wr.heap.size + 4, 0, none⟩)]) := B4.cell 0
      have HND := Lib.hid hnd
      have HLP := Lib.hid hLp
      have HML := Lib.hid hml
      have HLEN := Lib.hid hlen
      have HM := Lib.hid hm
      clear h9 hM hG B0 B1 B2 B3 B4 hl5 hnd hLp hlen hml hki hlt9 hm
      go_wp2_with fail
      refine HC.out.mono ?_
      rintro e w6 ⟨rfl, hM6⟩
      have e5 : w6.cell? ⟨wr.heap.size + 2, 0, none⟩ = some (.slice (some ⟨wr.heap.size + 1, 0, none⟩) k k) := hM6.bo.cell 0
      have HM6 := Lib.hid hM6
      clear hM6 HC e4
      go_wp2_with fail
      go_ret
      refine ⟨wr.heap.size + 1, rfl, ?_, bl_trans HBL.out HM6.out.bel⟩
      have hsl : s.srt.lvs.Nodup := (Sh.srt_lvs s).nodup_iff.2 ((Sh.lvs_sublist s).nodup HND.out)
      have hsp : (lvK K k).Perm s.srt.lvs := HLP.out.trans (Sh.srt_lvs s).symm
      have hnl : (numL t (lvK K k) s).length = k := by
        unfold numL
        rw [numS_len, Sh.srt_inn, ← HM.out, HML.out, HLEN.out]; omega
      have hbg := HM6.out.bg
      have e9 : ofF (k * 2) (outC (mtF t (lvK K k) s.inn s.srt (-1) 0 (fun _ => (0, ByteArray.empty)))) = ofF (k * 2) (outC fun j => (numL t (lvK K k) s).getD j (0, ByteArray.empty)) := ofF_congr fun i hi => by
        have h := mtF_all (t := t) (L := lvK K k) (s := s.srt) (o := fun _ => (0, ByteArray.empty)) hsl hsp (i := i / 2) (by rw [Sh.srt_inn, ← HM.out, HML.out]; have := HLEN.out; omega)
        rw [Sh.srt_inn] at h
        unfold outC
        rw [h]; rfl
      rw [e9] at hbg
      refine ⟨by rw [fl_length encNd_len, hnl], .inr ⟨wr.heap.size + 1, k, _, rfl, ?_, hbg, Nat.le_refl _, by unfold maxLen; omega, by rw [ofF_size], ?_⟩⟩
      · have := HBL.out.size; omega
      · have h := outC_fl (numL t (lvK K k) s)
        rw [hnl] at h
        rw [h, List.take_of_length_le (by rw [fl_length encNd_len, hnl]; exact Nat.le_refl _)]
end Go.Proofs.YtjmnakkkimgifaaGreatDoor
namespace Go.Proofs.YtjmnakkkimgifaaGreatDoor
open Go Go.RowKit Go.Shelf
def subB (K : Nat → List Nat) : Sh → Bool
  | .lf v => (K v).isEmpty
  | .nd v a b => decide (K v = [a.top, b.top]) && subB K a && subB K b
theorem subB_iff {K : Nat → List Nat} : ∀ {s : Sh}, subB K s = true → Sub K s := by
  intro s
  induction s with
  | lf v => intro h; exact List.isEmpty_iff.1 h
  | nd v a b iha ihb =>
    intro h
    simp only [subB, Bool.and_eq_true, decide_eq_true_eq] at h
    exact ⟨h.1.1, iha h.1.2, ihb h.2⟩
/-- The children when leaf n + 1 has become the sister of node v of a tree of n nodes. -/
def kG (t : List Nd) (n v : Nat) : Nat → List Nat := fun r =>
  if nP t v < 0 then (if r = 0 then [n, n + 1] else if r = n then famL t n 0 else if r = n + 1 then [] else famL t n r)
  else if r = n then [v, n + 1] else if r = n + 1 then [] else if r = (nP t v).toNat then (famL t n r).set ((famL t n r).idxOf v) n else famL t n r
def sG (t : List Nd) (n v : Nat) : Sh := shF (kG t n v) (n + 2) 0
def nG (t : List Nd) : List Nd := t ++ [(0, ByteArray.empty), (0, ByteArray.empty)]
/-- The tree with one leaf more. -/
def grownL (t : List Nd) (v : Nat) : List Nd := numL (nG t) (lvK (kG t t.length v) (t.length + 2)) (sG t t.length v)
/-- A tree without names. -/
def mkN (ps : List Int) : List Nd := ps.map fun p => (p, ByteArray.empty)
/-- What is needed of a tree that grows. -/
def okG (t : List Nd) (v : Nat) : Bool := subB (kG t t.length v) (sG t t.length v) && decide ((sG t t.length v).top = 0) && (sG t t.length v).all.isPerm (List.range (t.length + 2)) && decide ((sG t t.length v).inn + (lvK (kG t t.length v) (t.length + 2)).length = t.length + 2)
def okP (t : List Nd) : Bool := decide (nP t 0 = -1) && (List.range t.length).all fun v => decide (v = 0) || (decide (0 ≤ nP t v) && decide (nP t v < (v : Int)))
def okS (A B : List (List Int)) (n : Nat) : Bool := (A.all fun ps => decide (ps.length = n) && okP (mkN ps) && (List.range n).all (okG (mkN ps))) && decide ((A.flatMap fun ps => (List.range ps.length).map fun v => (grownL (mkN ps) v).map (·.1)) = B)
def trP1 : List (List Int) := [[-1]]
def trP2 : List (List Int) := [[-1, 0, 0]]
def trP3 : List (List Int) := [[-1, 0, 1, 1, 0], [-1, 0, 1, 0, 1], [-1, 0, 0, 1, 1]]
def trP4 : List (List Int) := [[-1, 0, 1, 2, 2, 1, 0], [-1, 0, 1, 2, 2, 0, 1], [-1, 0, 1, 2, 1, 0, 2], [-1, 0, 1, 1, 2, 0, 2], [-1, 0, 0, 1, 1, 2, 2], [-1, 0, 1, 2, 1, 2, 0], [-1, 0, 1, 2, 0, 2, 1], [-1, 0, 1, 2, 0, 1, 2], [-1, 0, 0, 1, 2, 1, 2], [-1, 0, 1, 1, 0, 2, 2], [-1, 0, 1, 1, 2, 2, 0], [-1, 0, 1, 0, 2, 2, 1], [-1, 0, 0, 1, 2, 2, 1], [-1, 0, 1, 0, 2, 1, 2], [-1, 0, 1, 0, 1, 2, 2]]
def trP5 : List (List Int) := [[-1, 0, 1, 2, 3, 3, 2, 1, 0], [-1, 0, 1, 2, 3, 3, 2, 0, 1], [-1, 0, 1, 2, 3, 3, 1, 0, 2], [-1, 0, 1, 2, 3, 2, 1, 0, 3], [-1, 0, 1, 2, 2, 3, 1, 0, 3], [-1, 0, 1, 1, 2, 2, 3, 0, 3], [-1, 0, 1, 0, 2, 2, 1, 3, 3], [-1, 0, 1, 2, 3, 3, 1, 2, 0], [-1, 0, 1, 2, 3, 3, 0, 2, 1], [-1, 0, 1, 2, 3, 3, 0, 1, 2], [-1, 0, 1, 2, 3, 2, 0, 1, 3], [-1, 0, 1, 2, 2, 3, 0, 1, 3], [-1, 0, 1, 0, 2, 2, 3, 1, 3], [-1, 0, 1, 1, 2, 2, 0, 3, 3], [-1, 0, 1, 2, 3, 2, 1, 3, 0], [-1, 0, 1, 2, 3, 2, 0, 3, 1], [-1, 0, 1, 2, 3, 1, 0, 3, 2], [-1, 0, 1, 2, 3, 1, 0, 2, 3], [-1, 0, 1, 1, 2, 3, 0, 2, 3], [-1, 0, 1, 0, 2, 1, 3, 2, 3], [-1, 0, 1, 2, 2, 1, 0, 3, 3], [-1, 0, 1, 2, 2, 3, 1, 3, 0], [-1, 0, 1, 2, 2, 3, 0, 3, 1], [-1, 0, 1, 2, 1, 3, 0, 3, 2], [-1, 0, 1, 1, 2, 3, 0, 3, 2], [-1, 0, 1, 2, 1, 3, 0, 2, 3], [-1, 0, 1, 0, 1, 2, 3, 2, 3], [-1, 0, 1, 2, 1, 2, 0, 3, 3], [-1, 0, 1, 1, 2, 2, 3, 3, 0], [-1, 0, 1, 0, 2, 2, 3, 3, 1], [-1, 0, 0, 2, 1, 1, 3, 3, 2], [-1, 0, 1, 0, 2, 1, 3, 3, 2], [-1, 0, 1, 0, 1, 2, 3, 3, 2], [-1, 0, 0, 2, 1, 1, 3, 2, 3], [-1, 0, 0, 2, 1, 1, 2, 3, 3], [-1, 0, 1, 2, 3, 2, 3, 1, 0], [-1, 0, 1, 2, 3, 2, 3, 0, 1], [-1, 0, 1, 2, 3, 1, 3, 0, 2], [-1, 0, 1, 2, 3, 1, 2, 0, 3], [-1, 0, 1, 1, 2, 3, 2, 0, 3], [-1, 0, 1, 2, 2, 1, 3, 0, 3], [-1, 0, 1, 0, 2, 1, 2, 3, 3], [-1, 0, 1, 2, 3, 1, 3, 2, 0], [-1, 0, 1, 2, 3, 0, 3, 2, 1], [-1, 0, 1, 2, 3, 0, 3, 1, 2], [-1, 0, 1, 2, 3, 0, 2, 1, 3], [-1, 0, 1, 0, 2, 3, 2, 1, 3], [-1, 0, 1, 2, 2, 0, 3, 1, 3], [-1, 0, 1, 1, 2, 0, 2, 3, 3], [-1, 0, 1, 2, 3, 1, 2, 3, 0], [-1, 0, 1, 2, 3, 0, 2, 3, 1], [-1, 0, 1, 2, 3, 0, 1, 3, 2], [-1, 0, 1, 2, 3, 0, 1, 2, 3], [-1, 0, 1, 0, 2, 3, 1, 2, 3], [-1, 0, 1, 1, 2, 0, 3, 2, 3], [-1, 0, 1, 2, 2, 0, 1, 3, 3], [-1, 0, 1, 1, 2, 3, 2, 3, 0], [-1, 0, 1, 0, 2, 3, 2, 3, 1], [-1, 0, 0, 2, 1, 3, 1, 3, 2], [-1, 0, 1, 0, 2, 3, 1, 3, 2], [-1, 0, 0, 2, 1, 3, 1, 2, 3], [-1, 0, 1, 0, 1, 3, 2, 3, 2], [-1, 0, 0, 2, 1, 2, 1, 3, 3], [-1, 0, 1, 2, 2, 1, 3, 3, 0], [-1, 0, 1, 2, 2, 0, 3, 3, 1], [-1, 0, 1, 2, 1, 0, 3, 3, 2], [-1, 0, 1, 1, 2, 0, 3, 3, 2], [-1, 0, 1, 0, 1, 3, 2, 2, 3], [-1, 0, 1, 2, 1, 0, 3, 2, 3], [-1, 0, 1, 2, 1, 0, 2, 3, 3], [-1, 0, 1, 2, 2, 3, 3, 1, 0], [-1, 0, 1, 2, 2, 3, 3, 0, 1], [-1, 0, 1, 2, 1, 3, 3, 0, 2], [-1, 0, 1, 1, 2, 3, 3, 0, 2], [-1, 0, 1, 2, 1, 3, 2, 0, 3], [-1, 0, 1, 2, 1, 2, 3, 0, 3], [-1, 0, 1, 0, 1, 2, 2, 3, 3], [-1, 0, 1, 2, 1, 3, 3, 2, 0], [-1, 0, 1, 2, 0, 3, 3, 2, 1], [-1, 0, 1, 2, 0, 3, 3, 1, 2], [-1, 0, 0, 2, 1, 3, 3, 2, 1], [-1, 0, 1, 2, 0, 3, 2, 1, 3], [-1, 0, 1, 2, 0, 2, 3, 1, 3], [-1, 0, 1, 1, 0, 2, 2, 3, 3], [-1, 0, 1, 1, 2, 3, 3, 2, 0], [-1, 0, 1, 0, 2, 3, 3, 2, 1], [-1, 0, 0, 2, 1, 3, 3, 1, 2], [-1, 0, 1, 0, 2, 3, 3, 1, 2], [-1, 0, 0, 2, 1, 3, 2, 1, 3], [-1, 0, 0, 2, 1, 2, 3, 1, 3], [-1, 0, 1, 0, 1, 3, 3, 2, 2], [-1, 0, 1, 2, 1, 3, 2, 3, 0], [-1, 0, 1, 2, 0, 3, 2, 3, 1], [-1, 0, 1, 2, 0, 3, 1, 3, 2], [-1, 0, 0, 2, 1, 3, 2, 3, 1], [-1, 0, 1, 2, 0, 3, 1, 2, 3], [-1, 0, 1, 1, 0, 2, 3, 2, 3], [-1, 0, 1, 2, 0, 2, 1, 3, 3], [-1, 0, 1, 2, 1, 2, 3, 3, 0], [-1, 0, 1, 2, 0, 2, 3, 3, 1], [-1, 0, 1, 2, 0, 1, 3, 3, 2], [-1, 0, 0, 2, 1, 2, 3, 3, 1], [-1, 0, 1, 1, 0, 2, 3, 3, 2], [-1, 0, 1, 2, 0, 1, 3, 2, 3], [-1, 0, 1, 2, 0, 1, 2, 3, 3]]
def soP1 : List (List Int) := [[-1]]
def soP2 : List (List Int) := [[-1, 0, 0]]
def soP3 : List (List Int) := [[-1, 0, 0, 1, 1], [-1, 0, 1, 0, 1], [-1, 0, 1, 1, 0]]
def soP4 : List (List Int) := [[-1, 0, 0, 1, 1, 2, 2], [-1, 0, 0, 1, 2, 1, 2], [-1, 0, 0, 1, 2, 2, 1], [-1, 0, 1, 0, 1, 2, 2], [-1, 0, 1, 0, 2, 1, 2], [-1, 0, 1, 0, 2, 2, 1], [-1, 0, 1, 1, 0, 2, 2], [-1, 0, 1, 1, 2, 0, 2], [-1, 0, 1, 1, 2, 2, 0], [-1, 0, 1, 2, 0, 1, 2], [-1, 0, 1, 2, 0, 2, 1], [-1, 0, 1, 2, 1, 0, 2], [-1, 0, 1, 2, 1, 2, 0], [-1, 0, 1, 2, 2, 0, 1], [-1, 0, 1, 2, 2, 1, 0]]
def soP5 : List (List Int) := [[-1, 0, 0, 2, 1, 1, 2, 3, 3], [-1, 0, 0, 2, 1, 1, 3, 2, 3], [-1, 0, 0, 2, 1, 1, 3, 3, 2], [-1, 0, 0, 2, 1, 2, 1, 3, 3], [-1, 0, 0, 2, 1, 2, 3, 1, 3], [-1, 0, 0, 2, 1, 2, 3, 3, 1], [-1, 0, 0, 2, 1, 3, 1, 2, 3], [-1, 0, 0, 2, 1, 3, 1, 3, 2], [-1, 0, 0, 2, 1, 3, 2, 1, 3], [-1, 0, 0, 2, 1, 3, 2, 3, 1], [-1, 0, 0, 2, 1, 3, 3, 1, 2], [-1, 0, 0, 2, 1, 3, 3, 2, 1], [-1, 0, 1, 0, 1, 2, 2, 3, 3], [-1, 0, 1, 0, 1, 2, 3, 2, 3], [-1, 0, 1, 0, 1, 2, 3, 3, 2], [-1, 0, 1, 0, 1, 3, 2, 2, 3], [-1, 0, 1, 0, 1, 3, 2, 3, 2], [-1, 0, 1, 0, 1, 3, 3, 2, 2], [-1, 0, 1, 0, 2, 1, 2, 3, 3], [-1, 0, 1, 0, 2, 1, 3, 2, 3], [-1, 0, 1, 0, 2, 1, 3, 3, 2], [-1, 0, 1, 0, 2, 2, 1, 3, 3], [-1, 0, 1, 0, 2, 2, 3, 1, 3], [-1, 0, 1, 0, 2, 2, 3, 3, 1], [-1, 0, 1, 0, 2, 3, 1, 2, 3], [-1, 0, 1, 0, 2, 3, 1, 3, 2], [-1, 0, 1, 0, 2, 3, 2, 1, 3], [-1, 0, 1, 0, 2, 3, 2, 3, 1], [-1, 0, 1, 0, 2, 3, 3, 1, 2], [-1, 0, 1, 0, 2, 3, 3, 2, 1], [-1, 0, 1, 1, 0, 2, 2, 3, 3], [-1, 0, 1, 1, 0, 2, 3, 2, 3], [-1, 0, 1, 1, 0, 2, 3, 3, 2], [-1, 0, 1, 1, 2, 0, 2, 3, 3], [-1, 0, 1, 1, 2, 0, 3, 2, 3], [-1, 0, 1, 1, 2, 0, 3, 3, 2], [-1, 0, 1, 1, 2, 2, 0, 3, 3], [-1, 0, 1, 1, 2, 2, 3, 0, 3], [-1, 0, 1, 1, 2, 2, 3, 3, 0], [-1, 0, 1, 1, 2, 3, 0, 2, 3], [-1, 0, 1, 1, 2, 3, 0, 3, 2], [-1, 0, 1, 1, 2, 3, 2, 0, 3], [-1, 0, 1, 1, 2, 3, 2, 3, 0], [-1, 0, 1, 1, 2, 3, 3, 0, 2], [-1, 0, 1, 1, 2, 3, 3, 2, 0], [-1, 0, 1, 2, 0, 1, 2, 3, 3], [-1, 0, 1, 2, 0, 1, 3, 2, 3], [-1, 0, 1, 2, 0, 1, 3, 3, 2], [-1, 0, 1, 2, 0, 2, 1, 3, 3], [-1, 0, 1, 2, 0, 2, 3, 1, 3], [-1, 0, 1, 2, 0, 2, 3, 3, 1], [-1, 0, 1, 2, 0, 3, 1, 2, 3], [-1, 0, 1, 2, 0, 3, 1, 3, 2], [-1, 0, 1, 2, 0, 3, 2, 1, 3], [-1, 0, 1, 2, 0, 3, 2, 3, 1], [-1, 0, 1, 2, 0, 3, 3, 1, 2], [-1, 0, 1, 2, 0, 3, 3, 2, 1], [-1, 0, 1, 2, 1, 0, 2, 3, 3], [-1, 0, 1, 2, 1, 0, 3, 2, 3], [-1, 0, 1, 2, 1, 0, 3, 3, 2], [-1, 0, 1, 2, 1, 2, 0, 3, 3], [-1, 0, 1, 2, 1, 2, 3, 0, 3], [-1, 0, 1, 2, 1, 2, 3, 3, 0], [-1, 0, 1, 2, 1, 3, 0, 2, 3], [-1, 0, 1, 2, 1, 3, 0, 3, 2], [-1, 0, 1, 2, 1, 3, 2, 0, 3], [-1, 0, 1, 2, 1, 3, 2, 3, 0], [-1, 0, 1, 2, 1, 3, 3, 0, 2], [-1, 0, 1, 2, 1, 3, 3, 2, 0], [-1, 0, 1, 2, 2, 0, 1, 3, 3], [-1, 0, 1, 2, 2, 0, 3, 1, 3], [-1, 0, 1, 2, 2, 0, 3, 3, 1], [-1, 0, 1, 2, 2, 1, 0, 3, 3], [-1, 0, 1, 2, 2, 1, 3, 0, 3], [-1, 0, 1, 2, 2, 1, 3, 3, 0], [-1, 0, 1, 2, 2, 3, 0, 1, 3], [-1, 0, 1, 2, 2, 3, 0, 3, 1], [-1, 0, 1, 2, 2, 3, 1, 0, 3], [-1, 0, 1, 2, 2, 3, 1, 3, 0], [-1, 0, 1, 2, 2, 3, 3, 0, 1], [-1, 0, 1, 2, 2, 3, 3, 1, 0], [-1, 0, 1, 2, 3, 0, 1, 2, 3], [-1, 0, 1, 2, 3, 0, 1, 3, 2], [-1, 0, 1, 2, 3, 0, 2, 1, 3], [-1, 0, 1, 2, 3, 0, 2, 3, 1], [-1, 0, 1, 2, 3, 0, 3, 1, 2], [-1, 0, 1, 2, 3, 0, 3, 2, 1], [-1, 0, 1, 2, 3, 1, 0, 2, 3], [-1, 0, 1, 2, 3, 1, 0, 3, 2], [-1, 0, 1, 2, 3, 1, 2, 0, 3], [-1, 0, 1, 2, 3, 1, 2, 3, 0], [-1, 0, 1, 2, 3, 1, 3, 0, 2], [-1, 0, 1, 2, 3, 1, 3, 2, 0], [-1, 0, 1, 2, 3, 2, 0, 1, 3], [-1, 0, 1, 2, 3, 2, 0, 3, 1], [-1, 0, 1, 2, 3, 2, 1, 0, 3], [-1, 0, 1, 2, 3, 2, 1, 3, 0], [-1, 0, 1, 2, 3, 2, 3, 0, 1], [-1, 0, 1, 2, 3, 2, 3, 1, 0], [-1, 0, 1, 2, 3, 3, 0, 1, 2], [-1, 0, 1, 2, 3, 3, 0, 2, 1], [-1, 0, 1, 2, 3, 3, 1, 0, 2], [-1, 0, 1, 2, 3, 3, 1, 2, 0], [-1, 0, 1, 2, 3, 3, 2, 0, 1], [-1, 0, 1, 2, 3, 3, 2, 1, 0]]
set_option maxRecDepth 100000 in
theorem trP_ok1 : okS trP1 trP2 1 = true := by decide +kernel
set_option maxRecDepth 100000 in
theorem trP_ok2 : okS trP2 trP3 3 = true := by decide +kernel
set_option maxRecDepth 100000 in
theorem trP_ok3 : okS trP3 trP4 5 = true := by decide +kernel
set_option maxRecDepth 100000 in
theorem trP_ok4 : okS trP4 trP5 7 = true := by decide +kernel
/-- The trees in the order in which they grow, and in order. -/
def trP : Nat → List (List Int)
  | 0 => trP1 | 1 => trP2 | 2 => trP3 | 3 => trP4 | 4 => trP5 | _ => []
def soP : Nat → List (List Int)
  | 1 => soP1 | 2 => soP2 | 3 => soP3 | 4 => soP4 | 5 => soP5 | _ => []
theorem trP_ok (k : Nat) (h : k < 4) : okS (trP k) (trP (k + 1)) (2 * k + 1) = true := by
  match k, h with
  | 0, _ => exact trP_ok1
  | 1, _ => exact trP_ok2
  | 2, _ => exact trP_ok3
  | 3, _ => exact trP_ok4
def lexB : List Int → List Int → Bool
  | a :: l, b :: m => decide (a < b) || (decide (a = b) && lexB l m)
  | _, _ => false
set_option maxRecDepth 100000 in
theorem soP_perm (k : Nat) (h : k < 5) : (soP (k + 1)).isPerm (trP k) = true := by
  match k, h with
  | 0, _ => decide +kernel
  | 1, _ => decide +kernel
  | 2, _ => decide +kernel
  | 3, _ => decide +kernel
  | 4, _ => decide +kernel
def ascB (l : List (List Int)) : Bool := (List.range (l.length - 1)).all fun i => lexB (l.getD i []) (l.getD (i + 1) [])
set_option maxRecDepth 100000 in
theorem soP_asc (k : Nat) (h : k < 5) : (ascB (soP (k + 1)) && (soP (k + 1)).all fun ps => decide (ps.length = 2 * k + 1)) = true := by
  match k, h with
  | 0, _ => decide +kernel
  | 1, _ => decide +kernel
  | 2, _ => decide +kernel
  | 3, _ => decide +kernel
  | 4, _ => decide +kernel
/-- The document's: all lists of parents that go on with ps, in order; kept are those that are numbered. -/
def shD (t : List Nd) : Sh := shF (famL t t.length) t.length 0
def canB (t : List Nd) : Bool := decide ((numL t (lvK (famL t t.length) t.length) (shD t)).map (·.1) = t.map (·.1)) && decide ((shD t).srt.pre = List.range (shD t).inn)
def twoB (t : List Nd) : Bool := (List.range t.length).all fun v => decide ((famL t t.length v).length = 0) || decide ((famL t t.length v).length = 2)
def rtr (n : Nat) : Nat → List Int → List (List Int)
  | 0, ps => if twoB (mkN ps) && canB (mkN ps) then [ps] else []
  | f + 1, ps => (List.range (min (n - 1) ps.length)).flatMap fun p : Nat => rtr n f (ps ++ [(p : Int)])
set_option maxRecDepth 100000 in
theorem rtr_so (k : Nat) (h : k < 4) : rtr (k + 2) (2 * (k + 2) - 2) [-1] = soP (k + 2) := by
  match k, h with
  | 0, _ => decide +kernel
  | 1, _ => decide +kernel
  | 2, _ => decide +kernel
  | 3, _ => decide +kernel
end Go.Proofs.YtjmnakkkimgifaaGreatDoor
