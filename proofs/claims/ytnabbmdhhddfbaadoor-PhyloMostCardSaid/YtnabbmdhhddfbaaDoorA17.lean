/- The groups of the document, by insertion, are those of the program, sorted: plain. -/
import Derived.Test.YtnabbmdhhddfbaaDoorA16
namespace Go.Proofs.YtnabbmdhhddfbaaDoor
open Go.RowKit Go.Shelf Go.Sort
theorem sorted_ext {α : Type} {R : α → α → Prop} (irr : ∀ x, ¬ R x x) (asy : ∀ x y, R x y → R y x → False) {l m : List α} (hl : l.Pairwise R) (hm : m.Pairwise R) (h : ∀ x, x ∈ l ↔ x ∈ m) : l = m := by
  have nl : l.Nodup := hl.imp (fun {a b} h e => by subst e; exact irr _ h)
  have nm : m.Nodup := hm.imp (fun {a b} h e => by subst e; exact irr _ h)
  exact List.Perm.eq_of_pairwise (fun a b _ _ h1 h2 => (asy a b h1 h2).elim) hl hm ((List.perm_ext_iff_of_nodup nl nm).2 h)
def BefR (x y : Nat) : Prop := setBef x y = true
theorem bef_irr (x : Nat) : ¬ BefR x x := by unfold BefR; rw [setBef_iff]; omega
theorem bef_asy (x y : Nat) : BefR x y → BefR y x → False := by unfold BefR; rw [setBef_iff, setBef_iff]; omega
theorem bef_trans {x y z : Nat} : BefR x y → BefR y z → BefR x z := by unfold BefR; rw [setBef_iff, setBef_iff, setBef_iff]; omega
theorem bef_tot {x y : Nat} (h : ¬ BefR x y) (k : x ≠ y) : BefR y x := by unfold BefR at *; rw [setBef_iff] at *; omega

theorem cmp_mem (d : Array U64) : ∀ m, m ≤ d.size → ∀ x, x ∈ Go.Lib.compactUpTo d m ↔ ∃ j, j < m ∧ d[j]! = x := by
  intro m
  induction m with
  | zero => intro _ x; simp [Go.Lib.compactUpTo]
  | succ m ih =>
    intro hm x
    rw [Go.Lib.compactUpTo_succ, List.mem_append, ih (by omega)]
    constructor
    · rintro (⟨j, hj, rfl⟩ | h)
      · exact ⟨j, by omega, rfl⟩
      · by_cases q : Go.Lib.keeps d m = true
        · rw [if_pos q] at h; exact ⟨m, by omega, (List.mem_singleton.1 h).symm⟩
        · rw [if_neg q] at h; cases h
    · rintro ⟨j, hj, rfl⟩
      by_cases e : j = m
      · subst e
        by_cases q : Go.Lib.keeps d j = true
        · right; rw [if_pos q]; exact List.mem_singleton.2 rfl
        · left
          unfold Go.Lib.keeps at q
          simp only [decide_eq_true_iff] at q
          by_cases h0 : j = 0
          · exact absurd (Or.inl h0) q
          · exact ⟨j - 1, by omega, (Decidable.of_not_not fun h => q (.inr (fun h2 => h h2.symm)))⟩
      · left; exact ⟨j, by omega, rfl⟩
theorem cmp_pw (d : Array U64) (hs : ∀ i j, i < j → j < d.size → ltOf cfU d[j]! d[i]! = false) : ∀ m, m ≤ d.size → (Go.Lib.compactUpTo d m).Pairwise (fun x y => ltOf cfU x y = true) := by
  intro m
  induction m with
  | zero => intro _; simp [Go.Lib.compactUpTo]
  | succ m ih =>
    intro hm
    rw [Go.Lib.compactUpTo_succ]
    by_cases q : Go.Lib.keeps d m = true
    · rw [if_pos q, List.pairwise_append]
      refine ⟨ih (by omega), List.pairwise_singleton _ _, fun x hx y hy => ?_⟩
      rw [List.mem_singleton.1 hy]
      obtain ⟨j, hj, rfl⟩ := (cmp_mem d m (by omega) x).1 hx
      have h1 := hs j m hj (by omega)
      cases h2 : ltOf cfU d[j]! d[m]! with
      | true => rfl
      | false =>
        have e := tot_cfU _ _ h2 h1
        exfalso
        unfold Go.Lib.keeps at q
        simp only [decide_eq_true_iff] at q
        rcases q with q | q
        · omega
        · refine q (tot_cfU _ _ (hs (m - 1) m (by omega) (by omega)) ?_)
          by_cases e2 : j = m - 1
          · subst e2; rw [e]; exact swo_cfU.irrefl _
          · rw [← e]; exact hs j (m - 1) (by omega) (by omega)
    · rw [if_neg q, List.append_nil]; exact ih (by omega)
theorem srtU_pw (d : Array U64) : ∀ i j, i < j → j < (srtU d).size → ltOf cfU (srtU d)[j]! (srtU d)[i]! = false := by
  intro i j hij hj
  have h := List.pairwise_mergeSort (le := fun x y => !(ltOf cfU) y x)
    (fun a b c h1 h2 => by simp only [Bool.not_eq_true'] at *; exact swo_cfU.ntrans _ _ _ h2 h1)
    (fun a b => by
      cases h : ltOf cfU b a with
      | false => rfl
      | true =>
        cases h2 : ltOf cfU a b with
        | false => rfl
        | true => have := swo_cfU.trans _ _ _ h h2; rw [swo_cfU.irrefl] at this; cases this) d.toList
  have hj' : j < (d.toList.mergeSort fun x y => !(ltOf cfU) y x).length := by simpa [srtU] using hj
  have := List.pairwise_iff_getElem.1 h i j (by omega) hj' hij
  simp only [Bool.not_eq_true'] at this
  rw [getElem!_pos (srtU d) j hj, getElem!_pos (srtU d) i (by omega)]
  simpa [srtU] using this
theorem srtU_mem (d : Array U64) (x : U64) : (∃ j, j < (srtU d).size ∧ (srtU d)[j]! = x) ↔ x ∈ d.toList := by
  have h := (List.mergeSort_perm d.toList (fun x y => !(ltOf cfU) y x)).mem_iff (a := x)
  rw [← h]
  constructor
  · rintro ⟨j, hj, rfl⟩
    rw [getElem!_pos (srtU d) j hj]
    simp [srtU]
  · intro hx
    obtain ⟨j, hj, rfl⟩ := List.mem_iff_getElem.1 hx
    have hj' : j < (srtU d).size := by simpa [srtU] using hj
    refine ⟨j, hj', ?_⟩
    rw [getElem!_pos (srtU d) j hj']
    simp [srtU]
theorem grpsN_pw (L : Nat) (l : List Nat) : (grpsN L l).Pairwise BefR := by
  unfold grpsN grpsU cmpU
  rw [List.pairwise_map]
  refine (cmp_pw _ (srtU_pw _) _ (Nat.le_refl _)).imp ?_
  intro a b h
  rwa [ltU] at h
theorem grpsN_mem {L : Nat} {l : List Nat} (hF : FitV l) (x : Nat) : x ∈ grpsN L l ↔ x ∈ grpL L l l.length := by
  have hlt := grpL_lt (L := L) hF l.length
  unfold grpsN grpsU cmpU
  rw [List.mem_map]
  constructor
  · rintro ⟨y, hy, rfl⟩
    have := (cmp_mem _ _ (Nat.le_refl _) y).1 hy
    rw [srtU_mem] at this
    simp only [toU, List.mem_map] at this
    obtain ⟨z, hz, rfl⟩ := this
    have e : (Fin.ofNat 18446744073709551616 z).val = z := Nat.mod_eq_of_lt (hlt z hz)
    rw [e]; exact hz
  · intro hx
    refine ⟨Fin.ofNat _ x, (cmp_mem _ _ (Nat.le_refl _) _).2 ((srtU_mem _ _).2 ?_), Nat.mod_eq_of_lt (hlt x hx)⟩
    simp only [toU, List.mem_map]
    exact ⟨x, hx, rfl⟩

theorem cntB_half (x : Nat) : ∀ n, cntB x (n + 1) = (if x % 2 = 1 then 1 else 0) + cntB (x / 2) n := by
  intro n
  induction n with
  | zero =>
    show 0 + (if x.testBit 0 then 1 else 0) = _ + 0
    rw [Nat.testBit_zero]; simp
  | succ n ih =>
    show cntB x (n + 1) + (if x.testBit (n + 1) then 1 else 0) = _ + (cntB (x / 2) n + if (x / 2).testBit n then 1 else 0)
    rw [ih, Nat.testBit_succ]; omega
theorem cntB_zero : ∀ n x, x < 2 ^ n → (cntB x n = 0 ↔ x = 0) := by
  intro n
  induction n with
  | zero => intro x hx; simp at hx; simp [cntB, hx]
  | succ n ih =>
    intro x hx
    rw [Nat.pow_succ] at hx
    rw [cntB_half]
    have := ih (x / 2) (by omega)
    by_cases h : x % 2 = 1
    · rw [if_pos h]; omega
    · rw [if_neg h]; omega
theorem low_odd (y : Nat) : (2 * y + 1) &&& (2 * y + 1 - 1) = 2 * y := by
  have e1 : ((2 * y + 1) &&& (2 * y)) / 2 = y := by rw [Nat.and_div_two]; rw [show (2 * y + 1) / 2 = y by omega, show 2 * y / 2 = y by omega, Nat.and_self]
  have e2 : ((2 * y + 1) &&& (2 * y)) % 2 = 0 := by have h := Nat.and_mod_two_pow (a := 2 * y + 1) (b := 2 * y) (n := 1); rw [Nat.pow_one, show 2 * y % 2 = 0 by omega, Nat.and_zero] at h; exact h
  rw [show 2 * y + 1 - 1 = 2 * y by omega]; omega
theorem low_even (y : Nat) : (2 * y) &&& (2 * y - 1) = 2 * (y &&& (y - 1)) := by
  have e1 : ((2 * y) &&& (2 * y - 1)) / 2 = y &&& (y - 1) := by rw [Nat.and_div_two]; rw [show (2 * y) / 2 = y by omega, show (2 * y - 1) / 2 = y - 1 by omega]
  have e2 : ((2 * y) &&& (2 * y - 1)) % 2 = 0 := by have h := Nat.and_mod_two_pow (a := 2 * y) (b := 2 * y - 1) (n := 1); rw [Nat.pow_one, show 2 * y % 2 = 0 by omega, Nat.zero_and] at h; exact h
  omega
theorem low_cnt : ∀ n x, x < 2 ^ n → (x &&& (x - 1) = 0 ↔ cntB x n ≤ 1) := by
  intro n
  induction n with
  | zero => intro x hx; simp at hx; simp [cntB, hx]
  | succ n ih =>
    intro x hx
    rw [Nat.pow_succ] at hx
    rw [cntB_half]
    by_cases h : x % 2 = 1
    · rw [if_pos h]
      have e : x = 2 * (x / 2) + 1 := by omega
      have h0 := cntB_zero n (x / 2) (by omega)
      generalize cntB (x / 2) n = q at *
      generalize x / 2 = y at *
      subst e
      rw [low_odd]; omega
    · rw [if_neg h]
      have e : x = 2 * (x / 2) := by omega
      have h0 := ih (x / 2) (by omega)
      generalize cntB (x / 2) n = q at *
      generalize x / 2 = y at *
      subst e
      rw [low_even]; omega
theorem lowOff_cnt {x : Nat} (hx : x < 18446744073709551616) : lowOff x = 0 ↔ cntB x 64 ≤ 1 := by
  rw [← low_cnt 64 x hx]
  unfold lowOff
  by_cases h : x = 0
  · subst h; simp
  · rw [show (x + 18446744073709551615) % 18446744073709551616 = x - 1 by omega]
/-- Does the document keep set z, behind the groups out? -/
def okR (L : Nat) (l : List Nat) (z : Nat) (out : List Nat) : Bool := ((decide (2 ≤ cntB z 64) && !decide (z = 2 ^ L - 1)) && l.all (fitB z)) && out.all (fun y => !decide (y = z))
def befN (z : Nat) (out : List Nat) : Nat := (out.takeWhile (fun y => setBef y z)).length
def insG (z : Nat) (out : List Nat) : List Nat := out.take (befN z out) ++ [z] ++ out.drop (befN z out)
/-- The document's groups after k rows. -/
def refG (L : Nat) (l : List Nat) : Nat → List Nat
  | 0 => []
  | k + 1 => if okR L l (vA l k) (refG L l k) then insG (vA l k) (refG L l k) else refG L l k
theorem refG_le (L : Nat) (l : List Nat) : ∀ k, (refG L l k).length ≤ k := by
  intro k
  induction k with
  | zero => simp [refG]
  | succ k ih =>
    unfold refG
    split
    · simp [insG]; omega
    · omega
theorem ins_pw {z : Nat} {out : List Nat} (h : out.Pairwise BefR) (hn : z ∉ out) : (insG z out).Pairwise BefR := by
  unfold insG befN
  have e1 : out.take (out.takeWhile (fun y => setBef y z)).length = out.takeWhile (fun y => setBef y z) := by
    exact (List.prefix_iff_eq_take.1 (List.takeWhile_prefix (fun y => setBef y z) (l := out))).symm
  have e2 : out.drop (out.takeWhile (fun y => setBef y z)).length = out.dropWhile (fun y => setBef y z) := by
    exact (congrArg (List.drop (out.takeWhile (fun y => setBef y z)).length) (List.takeWhile_append_dropWhile (p := fun y => setBef y z) (l := out)).symm).trans List.drop_left
  rw [e1, e2]
  have h2 := h
  rw [← List.takeWhile_append_dropWhile (p := fun y => setBef y z) (l := out), List.pairwise_append] at h2
  obtain ⟨p1, p2, p3⟩ := h2
  have a1 : ∀ y, y ∈ out.takeWhile (fun y => setBef y z) → BefR y z := fun y hy => by
    have := List.all_takeWhile (l := out) (p := fun y => setBef y z)
    exact List.all_eq_true.1 this y hy
  have a2 : ∀ y, y ∈ out.dropWhile (fun y => setBef y z) → BefR z y := by
    intro y hy
    have hsub : ∀ y, y ∈ out.dropWhile (fun y => setBef y z) → y ∈ out := fun y hy => (List.dropWhile_sublist _).subset hy
    cases hd : out.dropWhile (fun y => setBef y z) with
    | nil => rw [hd] at hy; cases hy
    | cons u us =>
      have hu : ¬ BefR u z := by
        have := List.head_dropWhile_not (fun y => setBef y z) (l := out) (by rw [hd]; simp)
        simp only [hd, List.head_cons] at this
        unfold BefR
        simpa using this
      have hzu : BefR z u := bef_tot hu (fun e => hn (by rw [← e]; exact hsub u (by rw [hd]; simp)))
      rw [hd] at hy p2
      rcases List.mem_cons.1 hy with rfl | hy
      · exact hzu
      · exact bef_trans hzu (List.rel_of_pairwise_cons p2 hy)
  rw [List.pairwise_append, List.pairwise_append]
  refine ⟨⟨p1, List.pairwise_singleton _ _, fun y hy x hx => ?_⟩, p2, fun y hy x hx => ?_⟩
  · rw [List.mem_singleton.1 hx]; exact a1 y hy
  · rcases List.mem_append.1 hy with hy | hy
    · exact p3 y hy x hx
    · rw [List.mem_singleton.1 hy]; exact a2 x hx
theorem ins_mem (z : Nat) (out : List Nat) (x : Nat) : x ∈ insG z out ↔ x ∈ out ∨ x = z := by
  unfold insG
  rw [List.mem_append, List.mem_append, List.mem_singleton]
  constructor
  · rintro ((h | h) | h)
    · exact .inl (List.mem_of_mem_take h)
    · exact .inr h
    · exact .inl (List.mem_of_mem_drop h)
  · rintro (h | h)
    · rw [← List.take_append_drop (befN z out) out, List.mem_append] at h
      rcases h with h | h
      · exact .inl (.inl h)
      · exact .inr h
    · exact .inl (.inr h)
theorem okR_iff {L : Nat} {l : List Nat} {z : Nat} {out : List Nat} (hz : z < 18446744073709551616) : okR L l z out = (grpB L l z && !decide (z ∈ out)) := by
  have h := lowOff_cnt hz
  unfold okR grpB
  have e1 : decide (2 ≤ cntB z 64) = !decide (lowOff z = 0) := by
    rw [Bool.eq_iff_iff]; simp only [decide_eq_true_iff, Bool.not_eq_true', decide_eq_false_iff_not]; rw [h]; omega
  have e2 : l.all (fitB z) = !(l.any fun o => !fitB z o) := by
    rw [Bool.eq_iff_iff]; simp
  have e3 : (out.all fun y => !decide (y = z)) = !decide (z ∈ out) := by
    rw [Bool.eq_iff_iff]; simp only [List.all_eq_true, Bool.not_eq_true', decide_eq_false_iff_not]
    exact ⟨fun h1 h2 => h1 z h2 rfl, fun h1 y hy e => h1 (e ▸ hy)⟩
  rw [e1, e2, e3]
theorem refG_ok {L : Nat} {l : List Nat} (hF : FitV l) : ∀ k, k ≤ l.length → (refG L l k).Pairwise BefR ∧ ∀ x, x ∈ refG L l k ↔ x ∈ grpL L l k := by
  intro k
  induction k with
  | zero => intro _; exact ⟨List.Pairwise.nil, fun x => by simp [refG, grpL]⟩
  | succ k ih =>
    intro hk
    obtain ⟨h1, h2⟩ := ih (by omega)
    have hsn := grpL_snoc L l k (by omega)
    have e := okR_iff (L := L) (l := l) (out := refG L l k) (hF k (by omega))
    unfold refG
    rw [hsn, e]
    by_cases q : grpB L l (vA l k) = true
    · rw [q, if_pos rfl]
      by_cases q2 : vA l k ∈ refG L l k
      · rw [decide_eq_true q2]
        refine ⟨h1, fun x => ?_⟩
        show x ∈ refG L l k ↔ _
        rw [h2, List.mem_append, List.mem_singleton]
        exact ⟨.inl, fun h => h.elim id (fun e => by rw [e]; exact (h2 _).1 q2)⟩
      · rw [decide_eq_false q2]
        refine ⟨ins_pw h1 q2, fun x => ?_⟩
        show x ∈ insG (vA l k) (refG L l k) ↔ _
        rw [ins_mem, h2, List.mem_append, List.mem_singleton]
    · rw [if_neg q, List.append_nil, Bool.eq_false_iff.2 q]
      exact ⟨h1, h2⟩
theorem refG_eq {L : Nat} {l : List Nat} (hF : FitV l) : refG L l l.length = grpsN L l := by
  obtain ⟨h1, h2⟩ := refG_ok (L := L) hF l.length (Nat.le_refl _)
  exact sorted_ext bef_irr bef_asy h1 (grpsN_pw L l) (fun x => by rw [h2, grpsN_mem hF])
end Go.Proofs.YtnabbmdhhddfbaaDoor
