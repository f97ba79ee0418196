/- A key says which language and which sounds it is of (plain). EtymFull: the plain part. EtymFull: the walk. -/
import Derived.Test.YtmfomjaomhohkaaDoorZC
import Derived.Test.YtmfomjaomhohkaaDoorZK
import Derived.Test.YtmfomjaomhohkaaDoorZG
namespace Go.Proofs.YtmfomjaomhohkaaDoor
open Go Go.RowKit Go.Shelf
def IsDg (c : UInt8) : Prop := 48 ≤ c.toNat ∧ c.toNat ≤ 57
theorem dg_nat {x : Nat} (h : x < 10) : (UInt8.ofNat (48 + x)).toNat = 48 + x := by
  rw [UInt8.toNat_ofNat']
  exact Nat.mod_eq_of_lt (by omega)
theorem dec_dg : ∀ u : Nat, ∀ c ∈ Lib.decDigits u, IsDg c := by
  intro u
  induction u using Nat.strongRecOn with
  | ind u ih =>
    intro c hc
    rw [Lib.decDigits] at hc
    split at hc
    · rename_i h
      rw [List.mem_singleton] at hc
      subst hc
      unfold IsDg
      rw [dg_nat h]; omega
    · rename_i h
      rcases List.mem_append.1 hc with hc | hc
      · exact ih (u / 10) (by omega) c hc
      · rw [List.mem_singleton] at hc
        subst hc
        unfold IsDg
        rw [dg_nat (Nat.mod_lt _ (by omega))]
        have := Nat.mod_lt u (show 0 < 10 by omega)
        omega
def dgV (l : List UInt8) : Nat := l.foldl (fun a c => a * 10 + (c.toNat - 48)) 0
theorem dgV_dec : ∀ u : Nat, dgV (Lib.decDigits u) = u := by
  intro u
  induction u using Nat.strongRecOn with
  | ind u ih =>
    rw [Lib.decDigits]
    split
    · rename_i h
      show 0 * 10 + ((UInt8.ofNat (48 + u)).toNat - 48) = u
      rw [dg_nat h]; omega
    · rename_i h
      have h1 := ih (u / 10) (by omega)
      unfold dgV at h1 ⊢
      rw [List.foldl_append, h1]
      show u / 10 * 10 + ((UInt8.ofNat (48 + u % 10)).toNat - 48) = u
      rw [dg_nat (Nat.mod_lt _ (by omega))]
      omega
theorem dec_inj {u v : Nat} (h : Lib.decDigits u = Lib.decDigits v) : u = v := by rw [← dgV_dec u, h, dgV_dec]
/-- Nothing, or a sign that is no digit first. -/
def NoDg (r : List UInt8) : Prop := ∀ c t, r = c :: t → ¬ IsDg c
theorem dg_split : ∀ (l1 l2 r1 r2 : List UInt8), (∀ c ∈ l1, IsDg c) → (∀ c ∈ l2, IsDg c) → NoDg r1 → NoDg r2 → l1 ++ r1 = l2 ++ r2 → l1 = l2 ∧ r1 = r2
  | [], [], _, _, _, _, _, _, h => ⟨rfl, h⟩
  | [], b :: l2, r1, r2, _, h2, h3, _, h => absurd (h2 b (by simp)) (h3 b (l2 ++ r2) h)
  | a :: l1, [], r1, r2, h1, _, _, h4, h => absurd (h1 a (by simp)) (h4 a (l1 ++ r1) h.symm)
  | a :: l1, b :: l2, r1, r2, h1, h2, h3, h4, h => by
    rw [List.cons_append, List.cons_append, List.cons.injEq] at h
    obtain ⟨g1, g2⟩ := dg_split l1 l2 r1 r2 (fun c hc => h1 c (List.mem_cons_of_mem _ hc)) (fun c hc => h2 c (List.mem_cons_of_mem _ hc)) h3 h4 h.2
    exact ⟨by rw [h.1, g1], g2⟩
theorem noDg_cons {c : UInt8} {t : List UInt8} (h : ¬ IsDg c) : NoDg (c :: t) := fun c' t' e => by
  rw [List.cons.injEq] at e
  rw [← e.1]; exact h
theorem noDg_nil : NoDg [] := fun c t e => by cases e
theorem dg_32 : ¬ IsDg 32 := by unfold IsDg; decide
theorem dg_44 : ¬ IsDg 44 := by unfold IsDg; decide
theorem keyW_cons (s : Sd) (w : List Sd) : keyW (s :: w) = 32 :: (Lib.decDigits s.1 ++ 44 :: (Lib.decDigits s.2 ++ keyW w)) := by
  unfold keyW
  rw [List.flatMap_cons]
  simp
theorem keyW_noDg (w : List Sd) : NoDg (keyW w) := by
  cases w with
  | nil => exact noDg_nil
  | cons s w => rw [keyW_cons]; exact noDg_cons dg_32
theorem keyW_inj : ∀ w v : List Sd, keyW w = keyW v → w = v
  | [], [], _ => rfl
  | [], s :: v, h => by rw [keyW_cons] at h; cases h
  | s :: w, [], h => by rw [keyW_cons] at h; cases h
  | s :: w, t :: v, h => by
    rw [keyW_cons, keyW_cons, List.cons.injEq] at h
    obtain ⟨g1, g2⟩ := dg_split _ _ _ _ (dec_dg s.1) (dec_dg t.1) (noDg_cons dg_44) (noDg_cons dg_44) h.2
    rw [List.cons.injEq] at g2
    obtain ⟨g3, g4⟩ := dg_split _ _ _ _ (dec_dg s.2) (dec_dg t.2) (keyW_noDg w) (keyW_noDg v) g2.2
    rw [keyW_inj w v g4, Prod.ext_iff.2 ⟨dec_inj g1, dec_inj g3⟩]
theorem keyL_inj {a b : ByteArray} {w v : List Sd} (h : keyL a w = keyL b v) : a = b ∧ w = v := by
  unfold keyL at h
  obtain ⟨g1, g2⟩ := dg_split _ _ _ _ (dec_dg a.size) (dec_dg b.size) (noDg_cons dg_32) (noDg_cons dg_32) h
  rw [List.cons.injEq] at g2
  have hs : a.data.toList.length = b.data.toList.length := by rw [Array.length_toList, Array.length_toList]; exact dec_inj g1
  obtain ⟨g3, g4⟩ := List.append_inj g2.2 hs
  exact ⟨by cases a; cases b; congr 1; exact Array.toList_inj.1 g3, keyW_inj w v g4⟩
theorem keyB_inj {a b : ByteArray} {w v : List Sd} (h : keyB a w = keyB b v) : a = b ∧ w = v := by
  unfold keyB at h
  injection h with h
  exact keyL_inj (List.toArray_inj h)
end Go.Proofs.YtmfomjaomhohkaaDoor
namespace Go.Proofs.YtmfomjaomhohkaaDoor
open Go Go.RowKit Go.Shelf
def nA : ByteArray := { data := #[97] }
/-- The words. -/
def fuE (n : Nat) : List Et := (List.range n).map fun i => (nA, [(i, 0)])
theorem fuE_len (n : Nat) : (fuE n).length = n := by unfold fuE; simp
theorem fuE_succ (n : Nat) : fuE (n + 1) = fuE n ++ [(nA, [(n, 0)])] := by unfold fuE; rw [List.range_succ, List.map_append]; rfl
theorem fuE_key (n : Nat) (w : List Sd) : gG ((fuE n).map eK) (keyB nA w) = decide (∃ i, i < n ∧ w = [(i, 0)]) := by
  rw [Bool.eq_iff_iff, gG_iff, decide_eq_true_iff]
  unfold fuE
  rw [List.map_map, List.mem_map]
  constructor
  · rintro ⟨i, hi, e⟩
    exact ⟨i, List.mem_range.1 hi, (keyB_inj (show keyB nA [(i, 0)] = keyB nA w from e)).2.symm⟩
  · rintro ⟨i, hi, rfl⟩
    exact ⟨i, List.mem_range.2 hi, rfl⟩
theorem fu_nm : nmB nA = true := by decide +kernel
/-- The links: those to words below i, and those to i from words below k. -/
def fRow (i k : Nat) : List Lk := (List.range' (i - 5) (k - (i - 5))).map fun a : Nat => ((1, (a : Int), (i : Int)) : Lk)
def fTab : Nat → List Lk
  | 0 => []
  | i + 1 => fTab i ++ fRow i i
def fL (i k : Nat) : List Lk := fTab i ++ fRow i k
theorem fRow_mem {i k : Nat} {x : Lk} : x ∈ fRow i k ↔ ∃ a : Nat, i - 5 ≤ a ∧ a < k ∧ x = (1, (a : Int), (i : Int)) := by
  unfold fRow
  rw [List.mem_map]
  constructor
  · rintro ⟨a, ha, rfl⟩
    rw [List.mem_range'_1] at ha
    exact ⟨a, ha.1, by omega, rfl⟩
  · rintro ⟨a, h1, h2, rfl⟩
    exact ⟨a, by rw [List.mem_range'_1]; omega, rfl⟩
theorem fTab_mem {x : Lk} : ∀ {i : Nat}, x ∈ fTab i ↔ ∃ a b : Nat, b < i ∧ b - 5 ≤ a ∧ a < b ∧ x = (1, (a : Int), (b : Int))
  | 0 => by
    constructor
    · intro h; cases h
    · rintro ⟨_, _, h, _⟩; omega
  | i + 1 => by
    show x ∈ fTab i ++ fRow i i ↔ _
    rw [List.mem_append, fTab_mem, fRow_mem]
    constructor
    · rintro (⟨a, b, h1, h2, h3, rfl⟩ | ⟨a, h1, h2, rfl⟩)
      · exact ⟨a, b, by omega, h2, h3, rfl⟩
      · exact ⟨a, i, by omega, h1, h2, rfl⟩
    · rintro ⟨a, b, h1, h2, h3, rfl⟩
      by_cases e : b = i
      · subst e; exact .inr ⟨a, h2, h3, rfl⟩
      · exact .inl ⟨a, b, by omega, h2, h3, rfl⟩
theorem fL_mem {i k : Nat} {x : Lk} : x ∈ fL i k ↔ ∃ a b : Nat, b - 5 ≤ a ∧ x = (1, (a : Int), (b : Int)) ∧ ((b < i ∧ a < b) ∨ (b = i ∧ a < k)) := by
  unfold fL
  rw [List.mem_append, fTab_mem, fRow_mem]
  constructor
  · rintro (⟨a, b, h1, h2, h3, rfl⟩ | ⟨a, h1, h2, rfl⟩)
    · exact ⟨a, b, h2, rfl, .inl ⟨h1, h3⟩⟩
    · exact ⟨a, i, h1, rfl, .inr ⟨rfl, h2⟩⟩
  · rintro ⟨a, b, h1, rfl, h2 | ⟨rfl, h2⟩⟩
    · exact .inl ⟨a, b, h2.1, h1, h2.2, rfl⟩
    · exact .inr ⟨a, h1, h2, rfl⟩
theorem fRow_len (i k : Nat) : (fRow i k).length = k - (i - 5) := by unfold fRow; simp
theorem fTab_len : ∀ i, (5 ≤ i → (fTab i).length + 15 = 5 * i) ∧ (i ≤ 5 → (fTab i).length ≤ 10)
  | 0 => ⟨fun h => by omega, fun _ => Nat.zero_le _⟩
  | i + 1 => by
    obtain ⟨h1, h2⟩ := fTab_len i
    have e : (fTab (i + 1)).length = (fTab i).length + (i - (i - 5)) := by
      show (fTab i ++ fRow i i).length = _
      rw [List.length_append, fRow_len]
    refine ⟨fun h => ?_, fun h => ?_⟩
    · by_cases q : 5 ≤ i
      · have := h1 q; omega
      · have hi : i = 4 := by omega
        subst hi
        decide
    · have : i = 0 ∨ i = 1 ∨ i = 2 ∨ i = 3 ∨ i = 4 := by omega
      rcases this with rfl | rfl | rfl | rfl | rfl <;> decide
theorem fL_len (i k : Nat) : (fL i k).length = (fTab i).length + (k - (i - 5)) := by unfold fL; rw [List.length_append, fRow_len]
theorem fL_succ {i k : Nat} (h : i - 5 ≤ k) : fL i (k + 1) = fL i k ++ [(1, (k : Int), (i : Int))] := by
  unfold fL fRow
  rw [show k + 1 - (i - 5) = k - (i - 5) + 1 by omega, List.range'_concat, List.map_append, List.append_assoc]
  congr 2
  simp
  omega
theorem fL_next (i : Nat) : fL (i + 1) (i + 1 - 5) = fL i i := by
  unfold fL fRow
  rw [Nat.sub_self]
  show (fTab i ++ fRow i i) ++ [] = _
  rw [List.append_nil]; rfl
theorem fL_asc {i k : Nat} (hi : i < 1024) (hk : k ≤ i) : Asc (fL i k) 1024 := fun x hx => by
  obtain ⟨a, b, h1, rfl, h2⟩ := fL_mem.1 hx
  exact ⟨a, b, rfl, rfl, by omega, by omega, by show (1 : Int) ≤ 1; omega, by show (1 : Int) ≤ 3; omega⟩
theorem fu_has {n : Nat} (h : n < 1024) : hasB (n : Int) 1024 = true := by unfold hasB; simp only [Bool.and_eq_true, decide_eq_true_eq]; omega
/-- Each link is taken. -/
theorem fu_lk {i k : Nat} (hi : i < 1024) (hk : k < i) (hl : (fL i k).length < 4096) : lkE 1024 (fL i k) (1, (k : Int), (i : Int)) = 0 := by
  have hA := fL_asc hi (show k ≤ i by omega)
  unfold lkE
  rw [if_neg (show ¬ ((1 : Int) < 1 ∨ (3 : Int) < 1) by omega), if_neg (by rw [fu_has (show k < 1024 by omega), fu_has hi]; simp)]
  rw [show ((1, (k : Int), (i : Int)) : Lk).2.2.toNat = i from rfl, show ((1, (k : Int), (i : Int)) : Lk).2.1.toNat = k from rfl]
  rw [if_neg fun q => by
    have := hA.up ((ab_iff hA.lkin (show k < 1024 by omega)).1 q)
    omega]
  rw [if_neg fun q => by
    obtain ⟨a, b, h1, e, h2⟩ := fL_mem.1 q
    simp only [Prod.mk.injEq, true_and] at e
    omega, if_neg (by omega)]
def fuL : List Lk := fL 822 818
theorem fuL_len : fuL.length = 4096 := by
  unfold fuL
  rw [fL_len]
  have := (fTab_len 822).1 (by omega)
  omega
theorem fuL_asc : Asc fuL 1024 := fL_asc (by omega) (by omega)
theorem fuL_up {a b : Nat} (h1 : b - 5 ≤ a) (h2 : a < b) (h3 : b < 822) : a ∈ upL fuL b := by
  have hm : ((1, (a : Int), (b : Int)) : Lk) ∈ fuL := fL_mem.2 ⟨a, b, h1, rfl, .inl ⟨h3, h2⟩⟩
  obtain ⟨k, hk, e⟩ := List.getElem_of_mem hm
  refine upL_mem.2 ⟨k, hk, ?_, ?_⟩
  · unfold lT; rw [List.getD_eq_getElem?_getD, List.getElem?_eq_getElem hk, Option.getD_some, e]
  · unfold lF; rw [List.getD_eq_getElem?_getD, List.getElem?_eq_getElem hk, Option.getD_some, e]; exact Int.toNat_natCast a
theorem fuL_step {a b : Nat} (h : a ∈ upL fuL b) : b ≤ a + 5 := by
  obtain ⟨k, hk, e1, e2⟩ := upL_mem.1 h
  obtain ⟨p, q, h1, e, h2⟩ := fL_mem.1 (List.getElem_mem (l := fuL) hk)
  unfold lT at e1
  unfold lF at e2
  rw [List.getD_eq_getElem?_getD, List.getElem?_eq_getElem hk, Option.getD_some, e] at e1 e2
  have e1 : (q : Int) = (b : Int) := e1
  have e2 : ((p : Int)).toNat = a := e2
  rw [Int.toNat_natCast] at e2
  omega
theorem fuL_zero : ∀ n, n < 822 → Up fuL 0 n
  | 0, _ => .refl 0
  | n + 1, h => (fuL_zero n (by omega)).trans (.step (fuL_up (by omega) (by omega) h) (.refl _))
theorem fu_c : lkE 1024 fuL (2, 0, 1) = 4 := by
  unfold lkE
  rw [if_neg (show ¬ ((2 : Int) < 1 ∨ (3 : Int) < 2) by omega), if_neg (by decide)]
  rw [if_neg fun q => by
    have := fuL_asc.up ((ab_iff fuL_asc.lkin (show (0 : Nat) < 1024 by omega)).1 q)
    exact absurd this (by decide)]
  rw [if_neg fun q => by
    obtain ⟨a, b, h1, e, h2⟩ := fL_mem.1 q
    simp at e, if_pos (by rw [fuL_len]; omega)]
theorem fu_d : lkE 1024 fuL (1, 0, 1) = 6 := by
  unfold lkE
  rw [if_neg (show ¬ ((1 : Int) < 1 ∨ (3 : Int) < 1) by omega), if_neg (by decide)]
  rw [if_neg fun q => by
    have := fuL_asc.up ((ab_iff fuL_asc.lkin (show (0 : Nat) < 1024 by omega)).1 q)
    exact absurd this (by decide)]
  rw [if_pos (show ((1, 0, 1) : Lk) ∈ fuL from fL_mem.2 ⟨0, 1, by omega, rfl, .inl ⟨by omega, by omega⟩⟩)]
theorem fu_e : lkE 1024 fuL (1, 1, 0) = 9 := by
  unfold lkE
  rw [if_neg (show ¬ ((1 : Int) < 1 ∨ (3 : Int) < 1) by omega), if_neg (by decide)]
  rw [if_pos (show ((1, 1, 0) : Lk).2.2.toNat ∈ abL fuL 1024 ((1, 1, 0) : Lk).2.1.toNat from (ab_iff fuL_asc.lkin (show (1 : Nat) < 1024 by omega)).2 (fuL_zero 1 (by omega)))]
theorem filt_zero (n : Nat) (p : Nat → Bool) (h : ∀ b, ¬ p (b + 1) = true) (h0 : p 0 = true) : (List.range (n + 1)).filter p = [0] := by
  rw [List.range_succ_eq_map, List.filter_cons_of_pos h0]
  congr 1
  rw [List.filter_eq_nil_iff]
  intro a ha
  rw [List.mem_map] at ha
  obtain ⟨b, _, rfl⟩ := ha
  exact h b
theorem fu_src : srcL fuL 1024 800 = [0] := by
  refine filt_zero 1023 (fun a => decide (a ∈ abL fuL 1024 800) && noFr fuL a) ?_ ?_
  · rintro b h12
    rw [Bool.and_eq_true, decide_eq_true_iff] at h12
    obtain ⟨h1, h2⟩ := h12
    have h3 := fuL_asc.up ((ab_iff fuL_asc.lkin (show 800 < 1024 by omega)).1 h1)
    have h4 := fuL_up (a := b) (b := b + 1) (by omega) (by omega) (by omega)
    obtain ⟨k, hk, e, _⟩ := upL_mem.1 h4
    unfold noFr at h2
    rw [decide_eq_true_iff, List.length_eq_zero_iff] at h2
    have : k ∈ frK fuL (b + 1) := frK_mem.2 ⟨hk, e⟩
    rw [h2] at this
    cases this
  · rw [Bool.and_eq_true, decide_eq_true_iff]
    refine ⟨(ab_iff fuL_asc.lkin (show 800 < 1024 by omega)).2 (fuL_zero 800 (by omega)), ?_⟩
    unfold noFr
    rw [decide_eq_true_iff, List.length_eq_zero_iff, List.eq_nil_iff_forall_not_mem]
    intro k hk
    obtain ⟨h1, h2⟩ := frK_mem.1 hk
    obtain ⟨p, q, _, e, h3, _⟩ := fuL_asc.at h1
    omega
theorem fu_far {d x : Nat} (h : Way fuL 801 d x) : 801 ≤ x + 5 * d := by
  induction h with
  | zero => omega
  | step h _ ih => have := fuL_step h; omega
theorem fu_way : ∀ d, d ≤ 160 → Way fuL 801 d (801 - 5 * d)
  | 0, _ => .zero
  | d + 1, h => .step (fuL_up (by omega) (by omega) (by omega)) (fu_way d (by omega))
theorem fu_in : 1 ∈ abL fuL 1024 801 := (ab_iff fuL_asc.lkin (show 801 < 1024 by omega)).2 (fu_way 160 (by omega)).up
theorem fu_dst : dst fuL 801 1 = 160 := by
  have h1 := dst_le (fu_way 160 (Nat.le_refl _))
  have h2 := fu_far (dst_way ((ab_iff fuL_asc.lkin (show 801 < 1024 by omega)).1 fu_in))
  rw [show 801 - 5 * 160 = 1 from rfl] at h1
  omega
theorem fu_pth : (pthL fuL 1024 801 1).length = 160 := by
  unfold pthL
  rw [if_pos fu_in, List.length_map, fu_dst]
  exact (pth_ok fuL_asc.lkin (show 801 < 1024 by omega) 160 1 fu_in fu_dst).1
theorem fu_chk {n : Nat} (h : n < 1024) : chkW [(n, 0)] = 0 := by
  unfold chkW
  rw [if_neg (show ¬ 32 < [(n, 0)].length by rw [List.length_singleton]; omega)]
  have : ([(n, 0)] : List Sd).all sdB = true := by
    simp only [List.all_cons, List.all_nil, Bool.and_true]
    unfold sdB
    simp
    omega
  rw [this]; rfl
/-- What Add answers. -/
theorem fu_add {n : Nat} (h : n < 1024) : addE (fuE n) nA [(n, 0)] = 0 := by
  unfold addE
  have hw : chkW [(n, 0)] = 0 := fu_chk h
  rw [fu_nm, hw, fuE_key, decide_eq_false (by rintro ⟨i, hi, e⟩; simp at e; omega), fuE_len, if_neg (by decide), if_neg (by decide), if_neg (by decide), if_neg (by omega)]
theorem fu_add1 : addE (fuE 1024) nA [(0, 1)] = 4 := by
  unfold addE
  rw [fu_nm, show chkW [(0, 1)] = 0 by decide +kernel, fuE_key, decide_eq_false (by rintro ⟨i, hi, e⟩; simp at e), fuE_len, if_neg (by decide), if_neg (by decide), if_neg (by decide), if_pos (by omega)]
theorem fu_add2 : addE (fuE 1024) nA [(5, 0)] = 6 := by
  unfold addE
  rw [fu_nm, show chkW [(5, 0)] = 0 by decide +kernel, fuE_key, decide_eq_true ⟨5, by omega, rfl⟩, if_neg (by decide), if_neg (by decide), if_pos rfl]
end Go.Proofs.YtmfomjaomhohkaaDoor
namespace Go.Proofs.YtmfomjaomhohkaaDoor
open Go Go.RowKit Go.Shelf
/-- Which links there are when words from i on are looked at. -/
def FuC (ls : List Lk) (i : Nat) : Prop := (ls = fTab i ∧ i ≤ 822) ∨ (ls = fuL ∧ i = 823)
theorem fu_ky {w : World} (htab : Lib.TabIs Tryd.prog w "internal/strconv.uint64pow10" .u64 Lib.pow10Tab) (p q : Nat) (hp : p < 4294967296) (hq : q < 4294967296) : KyB w.heap.size w nA [(p, q)] :=
  ⟨by decide, by simp, fun i hi => by
    obtain rfl : i = 0 := by simpa using hi
    exact ⟨hp, hq⟩, fun W _ => ItAt.small W (by decide), fun W hb i hi => by
    obtain rfl : i = 0 := by simpa using hi
    exact ⟨(FmtAt.tab (show p < 18446744073709551616 by omega) htab).bl hb, (FmtAt.tab (show q < 18446744073709551616 by omega) htab).bl hb⟩⟩
set_option maxHeartbeats 16000000 in
set_option maxRecDepth 100000 in
theorem full_any (w : World) (htab : Lib.TabIs Tryd.prog w "internal/strconv.uint64pow10" .u64 Lib.pow10Tab) : Calls Tryd.prog 6 #[] w fun e w' => e = .returned (.bool true) ∧ Below w.heap.size w w' := by
  have HKY : Hid (∀ p q, p < 4294967296 → q < 4294967296 → KyB w.heap.size w nA [(p, q)]) := fun p q => fu_ky htab p q
  have HNW := Lib.hid (new_any w)
  clear htab
  go_enter Tryd.func6, Tryd.ntmps6
  go_wp2_with fail
  refine HNW.out.mono ?_
  rintro e w1 ⟨O1, g, r1, rfl, hg1, hO1, hb1⟩
  have HG0 : Hid (GrAt w1 O1 g r1 (fuE 0) []) := hg1
  have HO0 := Lib.hid hO1
  have HB0 := Lib.hid hb1
  clear hg1 hO1 hb1 HNW
  go_wp2_with fail
  go_loopw [21] (fun y wr => ∃ (i : Nat) (On : Nat → Prop) (rn : GrA), i ≤ 1024 ∧ y = .int .i64 i ∧ Hid (GrAt wr On g rn (fuE i) []) ∧ Hid (Below w.heap.size w wr) ∧ Hid (∀ k, On k → w.heap.size ≤ k)) (fun y _ => 1024 - (intOf y).toNat)
  case atStart => exact ⟨0, O1, r1, by omega, rfl, HG0, HB0, HO0⟩
  case round =>
    clear HG0 HB0 HO0
    obtain ⟨i, On, rn, hi, rfl, hG, hB, hOn⟩ := hrel
    by_cases hlt : i < 1024
    · have hwr : IntKind.u32.wrap (i : Int) = (i : Int) := (by rw [IntKind.wrap_u32]; omega)
      go_wp2_with fail
      have hb5 : Below wr.heap.size wr (wr.alloc (.cells #[.int .u32 i, .int .u32 0] 57)) := bl_alloc (Below.refl _ wr) _
      have hR : Rd (wr.alloc (.cells #[.int .u32 i, .int .u32 0] 57)) (some ⟨wr.heap.size, 0, none⟩) (fl encSd [(i, 0)]) := rd_of_blkQ (cs := fl encSd [(i, 0)]) (Blk.new wr _ 57)
      generalize World.alloc _ _ = w5 at hb5 hR ⊢
      refine (add_ok (hG.out.bl hb5) nA _ 1 1 [(i, 0)] rfl hR (fun e => by cases e) (fun b o s e q => by cases e; have := hG.out.lt _ q; omega) ((HKY.out i 0 (by omega) (by omega)).bl (hB.out.trans (hb5.mono hB.out.size))) (Nat.le_trans hB.out.size hb5.size) (fun k q => hOn.out k q) (fu_add hlt)).mono ?_
      rintro e w6 ⟨O6, r6, rfl, hG6, hK6, hO6⟩
      rw [fuE_len]
      have HG6 : Hid (GrAt w6 O6 g r6 (fuE (i + 1)) []) := by rw [fuE_succ]; exact hG6
      have HB6 : Hid (Below w.heap.size w w6) := hB.out.trans ((hb5.mono hB.out.size).trans (hK6.bel (by have := hB.out.size; have := hb5.size; omega) fun k q => hOn.out k q))
      have HO6 : Hid (∀ k, O6 k → w.heap.size ≤ k) := fun k q => by
        rcases hO6 k q with q | q
        · exact hOn.out k q
        · have := hB.out.size; have := hb5.size; omega
      clear hG6 hK6 hO6 hb5 hG hB hOn hR hwr
      go_wp2_with fail
      go_roundw
      case rel => exact ⟨i + 1, O6, r6, by omega, by go_num, HG6, HB6, HO6⟩
      case measure => simp [intOf]; omega
    · have he : i = 1024 := by omega
      subst i
      go_wp2_with fail
      have hb5 : Below wr.heap.size wr (wr.alloc (.cells #[.int .u32 0, .int .u32 1] 57)) := bl_alloc (Below.refl _ wr) _
      have hR : Rd (wr.alloc (.cells #[.int .u32 0, .int .u32 1] 57)) (some ⟨wr.heap.size, 0, none⟩) (fl encSd [(0, 1)]) := rd_of_blkQ (cs := fl encSd [(0, 1)]) (Blk.new wr _ 57)
      generalize World.alloc _ _ = w5 at hb5 hR ⊢
      have hs := add_err (hG.out.bl hb5) nA _ 1 1 [(0, 1)] rfl hR ((HKY.out 0 1 (by omega) (by omega)).at (hB.out.trans (hb5.mono hB.out.size))) (by rw [fu_add1]; decide)
      rw [fu_add1] at hs
      refine hs.mono ?_
      rintro e w6 ⟨rfl, hb6⟩
      have HB6 := Lib.hid (bl_trans hb5 hb6)
      clear hs hb5 hR hb6
      go_wp2_with fail
      have hb7 : Below w6.heap.size w6 (w6.alloc (.cells #[.int .u32 5, .int .u32 0] 57)) := bl_alloc (Below.refl _ w6) _
      have hR : Rd (w6.alloc (.cells #[.int .u32 5, .int .u32 0] 57)) (some ⟨w6.heap.size, 0, none⟩) (fl encSd [(5, 0)]) := rd_of_blkQ (cs := fl encSd [(5, 0)]) (Blk.new w6 _ 57)
      generalize World.alloc _ _ = w7 at hb7 hR ⊢
      have hb7' := bl_trans HB6.out hb7
      have hs := add_err (hG.out.bl hb7') nA _ 1 1 [(5, 0)] rfl hR ((HKY.out 5 0 (by omega) (by omega)).at (hB.out.trans (hb7'.mono hB.out.size))) (by rw [fu_add2]; decide)
      rw [fu_add2] at hs
      refine hs.mono ?_
      rintro e w8 ⟨rfl, hb8⟩
      have hb8' := bl_trans hb7' hb8
      have HG8 : Hid (GrAt w8 On g rn (fuE 1024) (fTab 1)) := hG.out.bl hb8'
      have HB8 : Hid (Below w.heap.size w w8) := hB.out.trans (hb8'.mono hB.out.size)
      have HL8 : Hid (0 = (fTab 1).length) := rfl
      have HO8 := Lib.hid hOn.out
      have HC8 : Hid (FuC (fTab 1) 1) := .inl ⟨rfl, by omega⟩
      clear hs hb7 hR hb8 hb7' hb8' HB6 hG hB hOn hlt hi HKY
      go_wp2_with fail
      go_loopw [10, 9] (fun y z wr => ∃ (i c : Nat) (On : Nat → Prop) (rn : GrA) (ls : List Lk), y = .int .i64 i ∧ z = .int .i64 c ∧ 1 ≤ i ∧ i ≤ 823 ∧ Hid (c = ls.length) ∧ Hid (FuC ls i) ∧ Hid (GrAt wr On g rn (fuE 1024) ls) ∧ Hid (Below w.heap.size w wr) ∧ Hid (∀ k, On k → w.heap.size ≤ k)) (fun y _ _ => 1024 - (intOf y).toNat)
      case atStart => exact ⟨1, 0, On, rn, fTab 1, rfl, rfl, by omega, by omega, HL8, HC8, HG8, HB8, HO8⟩
      case round =>
        clear HG8 HB8 HL8 HO8 HC8
        obtain ⟨i, c, Om, rm, ls, rfl, rfl, hi1, hi2, hL, hC, hG, hB, hOm⟩ := hrel
        rcases hC.out with ⟨hls, hi3⟩ | ⟨hls, hi3⟩
        · have hc : c ≤ 4095 := by
            rw [hL.out, hls]
            obtain ⟨h1, h2⟩ := fTab_len i
            by_cases q : 5 ≤ i
            · have := h1 q; omega
            · have := h2 (by omega); omega
          have HLS := Lib.hid hls
          have tc : decide ((c : Int) < 4096) = true := decide_eq_true (by omega)
          have ti : decide ((i : Int) ≤ 1023) = true := decide_eq_true (by omega)
          have hmx : max (0 : Int) ((i : Int) - 5) = ((i - 5 : Nat) : Int) := by omega
          have hmn : (if (0 : Int) ≤ (i : Int) - 5 then (i : Int) - 5 else 0) = ((i - 5 : Nat) : Int) := by split <;> omega
          clear hls hC
          have HL0 : Hid (c = (fL i (i - 5)).length) := by show _ = _; rw [hL.out, HLS.out, fL_len]; omega
          have HG0 : Hid (GrAt wr Om g rm (fuE 1024) (fL i (i - 5))) := by
            have e : fL i (i - 5) = fTab i := by unfold fL fRow; rw [Nat.sub_self]; simp
            show GrAt _ _ _ _ _ _
            rw [e, ← HLS.out]; exact hG.out
          have HB0 := Lib.hid hB.out
          have HO0 := Lib.hid hOm.out
          clear HLS hL hG hB hOm
          go_wp2_with fail
          go_loopw [11, 9] (fun y z wr => ∃ (k c : Nat) (On : Nat → Prop) (rn : GrA), y = .int .i64 k ∧ z = .int .i64 c ∧ i - 5 ≤ k ∧ k ≤ i ∧ c ≤ 4096 ∧ Hid (c = (fL i k).length) ∧ Hid (GrAt wr On g rn (fuE 1024) (fL i k)) ∧ Hid (Below w.heap.size w wr) ∧ Hid (∀ k, On k → w.heap.size ≤ k)) (fun y _ _ => i - (intOf y).toNat)
          case atStart => exact ⟨i - 5, c, Om, rm, rfl, rfl, by omega, by omega, by omega, HL0, HG0, HB0, HO0⟩
          case round =>
            clear HL0 HG0 HB0 HO0
            obtain ⟨k, c, On, rn, rfl, rfl, hk1, hk2, hc4, hL, hG, hB, hOn⟩ := hrel
            by_cases hki : k < i
            · by_cases hc5 : c < 4096
              · have hc0 : lkE (fuE 1024).length (fL i k) (1, (k : Int), (i : Int)) = 0 := by rw [fuE_len]; exact fu_lk (by omega) hki (by rw [← hL.out]; exact hc5)
                have HC0 := Lib.hid hc0
                clear hc0
                go_wp2_with fail
                refine (link_any hG.out 1 (k : Int) (i : Int)).mono ?_
                rintro e w6 ⟨rfl, _, hok⟩
                obtain ⟨O6, r6, hG6, hK6, hO6⟩ := hok HC0.out
                rw [HC0.out]
                have HG6 : Hid (GrAt w6 O6 g r6 (fuE 1024) (fL i (k + 1))) := by rw [fL_succ hk1]; exact hG6
                have HL6 : Hid (c + 1 = (fL i (k + 1)).length) := by show _ = _; rw [fL_succ hk1, List.length_append, ← hL.out]; rfl
                have HB6 : Hid (Below w.heap.size w w6) := hB.out.trans (hK6.bel hB.out.size fun k q => hOn.out k q)
                have HO6 : Hid (∀ k, O6 k → w.heap.size ≤ k) := fun k q => by
                  rcases hO6 k q with q | q
                  · exact hOn.out k q
                  · have := hB.out.size; omega
                clear hG6 hK6 hO6 hok hG hB hOn hL HC0
                go_wp2_with fail
                go_roundw
                case rel => exact ⟨k + 1, c + 1, O6, r6, by go_num, by go_num, by omega, by omega, by omega, HL6, HG6, HB6, HO6⟩
                case measure => simp [intOf]; omega
              · have hc6 : c = 4096 := by omega
                have hl := hL.out
                rw [fL_len] at hl
                have hi8 : i = 822 := by
                  obtain ⟨h1, h2⟩ := fTab_len i
                  by_cases q : 5 ≤ i
                  · have := h1 q; omega
                  · have := h2 (by omega); omega
                have hk8 : k = 818 := by
                  subst hi8
                  have := (fTab_len 822).1 (by omega)
                  omega
                subst hi8 hk8
                have HC9 : Hid (FuC (fL 822 818) (822 + 1)) := .inr ⟨rfl, rfl⟩
                clear hl
                go_wp2_with fail
                go_roundw
                case rel => exact ⟨823, c, On, rn, fL 822 818, by go_num, rfl, by omega, by omega, hL, HC9, hG, hB, hOn⟩
                case measure => simp [intOf]
            · have hki2 : k = i := by omega
              subst k
              have hi8 : i ≤ 821 := by
                rcases Nat.lt_or_ge i 822 with q | q
                · omega
                · have : i = 822 := by omega
                  subst this
                  have hl := hL.out
                  rw [fL_len] at hl
                  have := (fTab_len 822).1 (by omega)
                  omega
              have HC9 : Hid (FuC (fL i i) (i + 1)) := .inl ⟨rfl, by omega⟩
              go_wp2_with fail
              go_roundw
              case rel => exact ⟨i + 1, c, On, rn, fL i i, by go_num, rfl, by omega, by omega, hL, HC9, hG, hB, hOn⟩
              case measure => simp [intOf]; omega
        · subst hi3
          have hc : c = 4096 := by rw [hL.out, hls, fuL_len]
          subst hc
          subst hls
          clear hL hC
          go_wp2_with fail
          refine (link_any hG.out 2 0 1).mono ?_
          rintro e w11 ⟨rfl, hno, _⟩
          rw [fuE_len, fu_c] at hno ⊢
          have HB11 := Lib.hid (hno (by decide))
          clear hno
          go_wp2_with fail
          refine (link_any (hG.out.bl HB11.out) 1 0 1).mono ?_
          rintro e w12 ⟨rfl, hno, _⟩
          rw [fuE_len, fu_d] at hno ⊢
          have HB12 := Lib.hid (bl_trans HB11.out (hno (by decide)))
          clear hno HB11
          go_wp2_with fail
          refine (link_any (hG.out.bl HB12.out) 1 1 0).mono ?_
          rintro e w13 ⟨rfl, hno, _⟩
          rw [fuE_len, fu_e] at hno ⊢
          have HB13 := Lib.hid (bl_trans HB12.out (hno (by decide)))
          clear hno HB12
          have hs := gsources_any (hG.out.bl HB13.out) (800 : Int)
          rw [show ckE (fuE 1024).length [(800 : Int)] = 0 by rw [ckE_one, fuE_len]; decide, show srcO fuL (fuE 1024).length (800 : Int) = [0] by rw [fuE_len]; unfold srcO; rw [if_pos (by decide)]; exact fu_src] at hs
          have HSC := Lib.hid hs
          clear hs
          go_wp2_with fail
          refine HSC.out.mono ?_
          rintro e w14 ⟨v14, rfl, h141, hb14⟩
          obtain ⟨a14, c14, rfl, _⟩ := owns_slice h141
          have HR14 : Hid (Rd w14 a14 (fl encI [0])) := rd_of_owns h141
          have HB14 := Lib.hid (bl_trans HB13.out hb14)
          clear h141 hb14 HSC HB13
          have hs := path_any (hG.out.bl HB14.out) (801 : Int) (1 : Int)
          rw [show ckE (fuE 1024).length [(801 : Int), 1] = 0 by rw [ckE_two, fuE_len]; decide, show pthB fuL (fuE 1024).length (801 : Int) 1 = true by rw [fuE_len]; unfold pthB; rw [show (hasB 801 1024 && hasB 1 1024) = true by decide, Bool.true_and]; exact decide_eq_true fu_in, show pthO fuL (fuE 1024).length (801 : Int) 1 = pthL fuL 1024 801 1 by rw [fuE_len]; unfold pthO; rw [if_pos (by decide)]; rfl] at hs
          have HPA := Lib.hid hs
          clear hs
          go_wp2_with fail
          refine HPA.out.mono ?_
          rintro e w15 ⟨v15, rfl, h151, hb15⟩
          obtain ⟨a15, c15, rfl, _⟩ := owns_slice h151
          rw [fu_pth]
          have HB15 := Lib.hid (bl_trans HB14.out hb15)
          have HR15 := Lib.hid (HR14.out.bl hb15)
          clear h151 hb15 HPA HR14 HB14
          go_wp2_with fail
          have hbA := bl_alloc (Below.refl _ w15) (.cells #[.int .i64 0] 3)
          have hs := equal_any a14 (some ⟨w15.heap.size, 0, none⟩) 1 1 c14 1 [0] [0] (w15.alloc (.cells #[.int .i64 0] 3)) rfl rfl (by decide) (by decide) (HR15.out.bl hbA) (rd_of_blkQ (t := 3) (Blk.new w15 _ _))
          rw [show decide (([0] : List Int) = [0]) = true from rfl] at hs
          refine hs.mono ?_
          rintro e w16 ⟨rfl, n16, hw16⟩
          have hb16 : Below w15.heap.size w15 w16 := by rw [hw16]; exact bl_drewN hbA n16
          have HB16 := Lib.hid (bl_trans HB15.out hb16)
          have HLS := Lib.hid (links_yes (hG.out.bl HB16.out))
          clear hs hbA hw16 hb16 HB15 HR15
          go_wp2_with fail
          refine HLS.out.mono ?_
          rintro e w17 ⟨v17, rfl, h171, hb17⟩
          obtain ⟨a17, c17, rfl, _⟩ := owns_slice h171
          rw [fuL_len]
          have HB17 := Lib.hid (bl_trans HB16.out hb17)
          have HWK := Lib.hid (works_any w17)
          clear h171 hb17 HLS HB16
          go_wp2_with fail
          refine HWK.out.mono ?_
          rintro e w18 ⟨rfl, hb18⟩
          have HB18 := Lib.hid (bl_trans HB17.out hb18)
          clear hb18
          go_wp2_with fail
          go_ret
          exact ⟨rfl, hB.out.trans (HB18.out.mono hB.out.size)⟩
end Go.Proofs.YtmfomjaomhohkaaDoor
