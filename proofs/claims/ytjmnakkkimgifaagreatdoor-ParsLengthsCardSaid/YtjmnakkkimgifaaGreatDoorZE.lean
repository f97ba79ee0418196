/- pars.Near. pars.shortest over any iterator of trees. slices.Clone of nodes; pars.Climb. Rows of numbers in blocks of their own, with a capacity; slices.Index of numbers. pars.grown: a tree with one leaf more. slices.CompareFunc of trees by their parents; sorting rows of trees. Sorting rows of trees by their parents. pars.Trees. -/
import Derived.Test.YtjmnakkkimgifaaGreatDoorZD
import Derived.Lib.SliceRun
import Derived.Test.YtjmnakkkimgifaaGreatDoorZC
import Derived.Test.YtjmnakkkimgifaaGreatDoorZA
import Derived.Sort.Grow
namespace Go.Proofs.YtjmnakkkimgifaaGreatDoor
open Go Go.RowKit Go.Shelf
theorem owns_len {W : World} {base e k n : Nat} {v : Value} {xs : List Value} (h : W.ownsRow base e k v n xs) : xs.length = n * k := by
  rcases h.2 with ⟨_, rfl⟩ | ⟨g, cap, cur, _, _, _, h1, _, h2, h3⟩
  · have := h.1; simpa using this
  · rw [← h3, List.length_take, Array.length_toList, h2]
    have := Nat.mul_le_mul_right k h1
    omega
theorem EwN.row {base n k : Nat} {T : List (List Nd)} {O : Nat → Prop} {x : Value} {W : World} (h : EwN base n T k O x W) : ∃ g c, x = .slice (some ⟨g, 0, none⟩) (vT T k).length c ∧ ¬ O g ∧ W.ownsRow base 46 2 x (vT T k).length (fl encNd (vT T k)) := by
  obtain ⟨g, rfl, hg, ho⟩ := h
  have h1 := owns_len ho
  rw [fl_length encNd_len] at h1
  have h2 : (vT T k).length = n := by omega
  rw [h2]
  exact ⟨g, n, rfl, hg, ho⟩
theorem EwN.put {base n k : Nat} {T : List (List Nd)} {O : Nat → Prop} {x : Value} {W : World} {l : Nat} {o o' : Obj} (h : EwN base n T k O x W) (hl : W.heap[l]? = some o) (hc : o.isCells = false) : EwN base n T k O x (W.putObj l o') := by
  obtain ⟨g, rfl, hg, ho⟩ := h
  exact ⟨g, rfl, hg, owns_walk ho (grownBy_putObj' W l o') (fun r e => by cases e; exact ⟨o, hl, hc⟩)⟩
set_option maxRecDepth 100000 in
set_option maxHeartbeats 2000000 in
theorem collect_any (gf : Nat) (hen : Enters Tryz.prog gf) (lb : Array Value) (N : Nat) (T : Nat → List Nd) (Ew : Nat → (Nat → Prop) → Value → World → Prop) (Fx : Nat → Prop) (w : World) (hN : N < 4398046511104)
    (hseq : GivesT Fence.wide 9 Tryz.prog gf lb Ew N Fx w) (hFx : ∀ B, Fx B → B < w.heap.size)
    (hEw : ∀ k O x W, Ew k O x W → ∃ g c, x = .slice (some ⟨g, 0, none⟩) (T k).length c ∧ ¬ O g ∧ W.ownsRow w.heap.size 46 2 x (T k).length (fl encNd (T k)))
    (hEp : ∀ k O x W l o o', Ew k O x W → W.heap[l]? = some o → o.isCells = false → Ew k O x (W.putObj l o')) :
    Calls Tryz.prog 43 #[.func (.func gf) #[] lb] w fun e w' => ∃ v rs, e = .returned v ∧ TsW w' w.heap.size v N T rs ∧ Below w.heap.size w w' := by
  have HC := Lib.hid (appendSeq_any gf hen lb N T Ew Fx w hN hseq hFx hEw hEp)
  clear hseq hFx hEw hEp
  go_enter Tryz.func43, Tryz.ntmps43
  go_wp2_with fail
  refine HC.out.mono ?_
  rintro e w2 ⟨v, rs, rfl, h1, h2⟩
  have H1 := Lib.hid h1
  have H2 := Lib.hid h2
  clear h1 h2
  go_wp2_with fail
  go_ret
  exact ⟨v, rs, rfl, H1.out, H2.out⟩
/-- What Near answers. -/
def nearE (t : List Nd) : Int := if chkE t ≠ 0 then chkE t else if binB t t.length then 0 else 2
def nearT (t : List Nd) : List (List Nd) := if nearE t = 0 then nearL t t.length else []
theorem nearE_zero {t : List Nd} (h : nearE t = 0) : TreeOk t ∧ BinT t t.length := by
  unfold nearE at h
  by_cases h1 : chkE t = 0
  · rw [if_neg (fun e => e h1)] at h
    by_cases h2 : binB t t.length = true
    · have hT : TreeOk t := by
        unfold chkE at h1
        by_cases q : TreeOk t
        · exact q
        · rw [if_neg q] at h1; cases h1
      exact ⟨hT, binB_iff.1 h2⟩
    · rw [if_neg h2] at h; cases h
  · rw [if_pos h1] at h; exact absurd h h1
set_option maxRecDepth 100000 in
set_option maxHeartbeats 2000000 in
theorem near_any (a : Option Addr) (n c : Nat) (t : List Nd) (w : World) (hn : t.length = n) (hN : n ≤ 1152921504606846976) (hA : Rd w a (fl encNd t)) (hS : ∀ v, v < n → (nS t v).size ≤ 9223372036854775807) :
    Calls Tryz.prog 19 #[.slice a n c] w fun e w' => ∃ v rs, e = .returned (.tuple #[v, .int .i64 (nearE t)]) ∧ TsW w' w.heap.size v (nearT t).length (vT (nearT t)) rs ∧ Below w.heap.size w w' := by
  have HC := Lib.hid (binary_any a n c t w hn hN hA hS)
  have HA := Lib.hid hA
  have HN := Lib.hid hn
  clear hA hS hn
  go_enter Tryz.func19, Tryz.ntmps19
  go_wp2_with fail
  refine HC.out.mono ?_
  rintro e w2 ⟨rfl, hb2⟩
  have HB2 := Lib.hid hb2
  have HA2 := Lib.hid (HA.out.bl hb2)
  clear hb2 HC HA
  by_cases h0 : chkE t = 0
  · by_cases h1 : binB t t.length = true
    · have hE : Hid (nearE t = 0) := by show _ = _; unfold nearE; rw [if_neg (fun e => e h0), if_pos h1]
      have hP : binP t = true := by unfold binP; rw [h0, h1]; rfl
      have HT : Hid (nearT t = nearL t n) := by show _ = _; unfold nearT; rw [if_pos hE.out, HN.out]
      have HK := Lib.hid (nearE_zero hE.out)
      have hn63 : n ≤ 63 := by have h := HK.out.1.2.1; rw [HN.out] at h; exact h
      have HL : Hid ((nearL t n).length = n - 3) := near_len HN.out HK.out.1 (by have h := HK.out.2; rw [HN.out] at h; exact h)
      rw [h0, hP]
      clear h0 h1 hP
      go_wp2_with fail
      refine (neighbours_any a n c _).mono ?_
      rintro e w3 ⟨rfl, rfl⟩
      have hb3 := bl_alloc (Below.refl _ w2) (.cells #[.slice a n c] 25)
      have HC3 := Lib.hid (collect_any 67 (enters_of Tryz.func67 (by kernel_rfl) rfl) #[.pointer (some ⟨w2.heap.size, 0, none⟩)] (nearL t n).length (vT (nearL t n)) _ _ (w2.alloc (.cells #[.slice a n c] 25)) (by rw [HL.out]; omega)
        (nb_gives 9 n w2.heap.size c (w2.alloc (.cells #[.slice a n c] 25)).heap.size a t _ HN.out HK.out.1 (by have h := HK.out.2; rw [HN.out] at h; exact h) (by omega) (Blk.new _ _ _) (HA2.out.bl hb3) (Nat.le_refl _))
        (fun B h => by
          rcases h with h | ⟨b, o, e, h⟩
          · rw [h, World.size_alloc]; omega
          · obtain ⟨b', o', e', hb', _⟩ := rdNd HA2.out (by have := HK.out.1.1; omega)
            rw [e] at e'; cases e'; rw [h, World.size_alloc]; omega)
        (fun k O x W h => h.row) (fun k O x W l o o' h hl hc => h.put hl hc))
      have HB3 := Lib.hid hb3
      clear hb3
      go_wp2_with fail
      refine HC3.out.mono ?_
      rintro e w4 ⟨v, rs, rfl, h1, h2⟩
      have H1 := Lib.hid h1
      have H2 := Lib.hid h2
      clear h1 h2
      go_wp2_with fail
      go_ret2
      refine ⟨v, rs, by rw [hE.out]; rfl, ?_, bl_trans HB2.out (bl_trans HB3.out H2.out)⟩
      rw [HT.out]
      exact H1.out.mono (Nat.le_trans HB2.out.size HB3.out.size)
    · have hE : Hid (nearE t = 2) := by show _ = _; unfold nearE; rw [if_neg (fun e => e h0), if_neg h1]
      have hP : binP t = false := by unfold binP; rw [Bool.not_eq_true] at h1; rw [h1, Bool.and_false]
      have HT : Hid (nearT t = []) := by show _ = _; unfold nearT; rw [hE.out]; rfl
      rw [h0, hP]
      clear h0 h1 hP
      go_wp2_with fail
      go_ret2
      refine ⟨.slice none 0 0, fun _ => (none, 0, 0), by rw [hE.out]; rfl, ?_, HB2.out⟩
      rw [HT.out]; exact TsW.zero _ _ _ _
  · have hE : Hid (nearE t = chkE t) := if_pos h0
    have HT : Hid (nearT t = []) := by show _ = _; unfold nearT; rw [hE.out, if_neg h0]
    obtain ⟨E, hEE⟩ : ∃ E, chkE t = E := ⟨_, rfl⟩
    rw [hEE] at hE h0 ⊢
    have d0 : (E == 0) = false := by simp [h0]
    have d1 : (E != 0) = true := by simp [h0]
    clear hEE h0
    go_wp2_with fail
    go_ret2
    refine ⟨.slice none 0 0, fun _ => (none, 0, 0), by rw [hE.out]; rfl, ?_, HB2.out⟩
    rw [HT.out]; exact TsW.zero _ _ _ _
end Go.Proofs.YtjmnakkkimgifaaGreatDoor
namespace Go.Proofs.YtjmnakkkimgifaaGreatDoor
open Go Go.RowKit Go.Shelf
attribute [local go_sem] Oper.semAt_some
/-- The first place of the least among the first k. -/
def minI (f : Nat → Nat) : Nat → Nat
  | 0 => 0
  | k + 1 => if k = 0 ∨ f k < f (minI f k) then k else minI f k
theorem minI_lt (f : Nat → Nat) : ∀ k, 0 < k → minI f k < k
  | 0, h => absurd h (by omega)
  | k + 1, _ => by
    show (if _ then _ else _) < _
    by_cases e : k = 0 ∨ f k < f (minI f k)
    · rw [if_pos e]; omega
    · rw [if_neg e]
      have := minI_lt f k (by omega)
      omega
theorem minI_le (f : Nat → Nat) : ∀ k i, i < k → f (minI f k) ≤ f i ∧ (f i = f (minI f k) → minI f k ≤ i)
  | 0, _, h => absurd h (by omega)
  | k + 1, i, h => by
    show f (if _ then _ else _) ≤ _ ∧ (_ = f (if _ then _ else _) → (if _ then _ else _) ≤ _)
    by_cases e : k = 0 ∨ f k < f (minI f k)
    · rw [if_pos e]
      by_cases q : i = k
      · subst q; exact ⟨Nat.le_refl _, fun _ => Nat.le_refl _⟩
      · rcases e with e | e
        · omega
        · have := (minI_le f k i (by omega)).1
          exact ⟨by omega, fun h => by omega⟩
    · rw [if_neg e]
      by_cases q : i = k
      · subst q
        have := minI_lt f i (by omega)
        exact ⟨by omega, fun _ => by omega⟩
      · exact minI_le f k i (by omega)
def minV (f : Nat → Nat) (k : Nat) : Nat := if k = 0 then 0 else f (minI f k)
/-- What was found among the first k trees. -/
def FndV (T : Nat → List Nd) (f : Nat → Nat) (Bf Bn k : Nat) (fv : Value) (W : World) : Prop :=
  (k = 0 → fv = .slice none 0 0) ∧ (0 < k → ∃ b o c, fv = .slice (some ⟨b, o, none⟩) (T (minI f k)).length c ∧ Rd W (some ⟨b, o, none⟩) (fl encNd (T (minI f k))) ∧ b ≠ Bf ∧ b ≠ Bn)
/-- While trees are tried. -/
def ShI (w0 : World) (tv : Array Value) (Bt Bf Bn : Nat) (T : Nat → List Nd) (f : Nat → Nat) (k : Nat) (O : Nat → Prop) (W : World) : Prop :=
  ∃ fv, Blk W Bt tv 24 ∧ Blk W Bf #[fv] 25 ∧ Blk W Bn #[.int .i64 (minV f k : Nat)] 3 ∧ Below w0.heap.size w0 W ∧ FndV T f Bf Bn k fv W ∧ ∀ B, O B ↔ B = Bf ∨ B = Bn
theorem keeps_below {W W' : World} (h : Below W.heap.size W W') : KeepsOthers W W' := ⟨h.size, fun k _ hk _ => (h.block k (Array.getElem?_eq_some_iff.1 hk).1).trans hk⟩
theorem rd_set {W : World} {a : Option Addr} {cs : List Value} {B i : Nat} {v : Value} (h : Rd W a cs) (hB : ∀ b o, a = some ⟨b, o, none⟩ → b ≠ B) : Rd (W.setCell ⟨B, i, none⟩ v) a cs :=
  rd_block h (by simp [World.setCell]) fun b o e _ => Below.heap_setCell W ⟨B, i, none⟩ v b (hB b o e)
theorem sh_take {w0 : World} {tv : Array Value} {Bt Bf Bn k n c b o : Nat} {T : Nat → List Nd} {f : Nat → Nat} {O : Nat → Prop} {W W' : World} {x : Value} (h : ShI w0 tv Bt Bf Bn T f k O W) (hb : Below W.heap.size W W')
    (hx : x = .slice (some ⟨b, o, none⟩) (T k).length c) (hR : Rd W (some ⟨b, o, none⟩) (fl encNd (T k))) (hO : ¬ O b) (h1 : w0.heap.size ≤ Bf) (h2 : w0.heap.size ≤ Bn) (d1 : Bt ≠ Bf) (d2 : Bt ≠ Bn) (d3 : Bf ≠ Bn) (hn : n = f k) (hlt : k = 0 ∨ f k < f (minI f k)) :
    KeepsOthers W ((W'.setCell ⟨Bf, 0, none⟩ x).setCell ⟨Bn, 0, none⟩ (.int .i64 (n : Nat))) ∧ ∃ O', ShI w0 tv Bt Bf Bn T f (k + 1) O' ((W'.setCell ⟨Bf, 0, none⟩ x).setCell ⟨Bn, 0, none⟩ (.int .i64 (n : Nat))) ∧ StepO (fun B => O B ∨ x.ownBlock = some B) O' W ((W'.setCell ⟨Bf, 0, none⟩ x).setCell ⟨Bn, 0, none⟩ (.int .i64 (n : Nat))) := by
  obtain ⟨fv, hT, hF, hN, hbl, _, hOO⟩ := h
  have hm : minI f (k + 1) = k := if_pos hlt
  have hbf : b ≠ Bf := fun e => hO ((hOO b).2 (.inl e))
  have hbn : b ≠ Bn := fun e => hO ((hOO b).2 (.inr e))
  have e1 : ((W'.setCell ⟨Bf, 0, none⟩ x).setCell ⟨Bn, 0, none⟩ (.int .i64 (n : Nat))).heap.size = W'.heap.size := by simp [World.setCell]
  have hs := hb.size
  refine ⟨((keeps_below hb).trans (KeepsOthers.setCell _ _ _)).trans (KeepsOthers.setCell _ _ _), O, ⟨x, ((hT.below hb).other d1 _ _).other d2 _ _, ?_, ?_, bl_set (bl_set (bl_trans hbl hb) _ _ _ _ h1) _ _ _ _ h2, ⟨fun h => absurd h (by omega), fun _ => ?_⟩, hOO⟩, fun B h => .inl (.inl h), fun B h => ?_, by rw [e1]; exact hs, fun B cs t fr hn hc => ?_⟩
  · have h := ((hF.below hb).set 0 x).other d3 0 (.int .i64 (n : Nat))
    exact h
  · have h := ((hN.below hb).other (Ne.symm d3) 0 x).set 0 (.int .i64 (n : Nat))
    unfold minV
    rw [if_neg (by omega), hm, ← hn]
    exact h
  · rw [hm]
    exact ⟨b, o, c, hx, rd_set (rd_set (hR.bl hb) (fun b' o' e => by cases e; exact hbf)) (fun b' o' e => by cases e; exact hbn), hbf, hbn⟩
  · rw [e1]
    rcases (hOO B).1 h with h | h
    · rw [h]; exact Nat.lt_of_lt_of_le hF.lt hs
    · rw [h]; exact Nat.lt_of_lt_of_le hN.lt hs
  · have q1 : B ≠ Bf := fun e => hn (.inl ((hOO B).2 (.inl e)))
    have q2 : B ≠ Bn := fun e => hn (.inl ((hOO B).2 (.inr e)))
    exact ((Below.heap_setCell _ ⟨Bn, 0, none⟩ _ B q2).trans ((Below.heap_setCell _ ⟨Bf, 0, none⟩ _ B q1).trans (hb.block B (Array.getElem?_eq_some_iff.1 hc).1))).trans hc
theorem sh_keep {w0 : World} {tv : Array Value} {Bt Bf Bn k : Nat} {T : Nat → List Nd} {f : Nat → Nat} {O : Nat → Prop} {W W' : World} {x : Value} (h : ShI w0 tv Bt Bf Bn T f k O W) (hb : Below W.heap.size W W') (hlt : ¬ (k = 0 ∨ f k < f (minI f k))) :
    KeepsOthers W W' ∧ ∃ O', ShI w0 tv Bt Bf Bn T f (k + 1) O' W' ∧ StepO (fun B => O B ∨ x.ownBlock = some B) O' W W' := by
  obtain ⟨fv, hT, hF, hN, hbl, hV, hOO⟩ := h
  have hm : minI f (k + 1) = minI f k := if_neg hlt
  refine ⟨keeps_below hb, O, ⟨fv, hT.below hb, hF.below hb, ?_, bl_trans hbl hb, ⟨fun h => absurd h (by omega), fun _ => ?_⟩, hOO⟩, fun B h => .inl (.inl h), fun B h => ?_, hb.size, fun B cs t fr hn hc => (hb.block B (Array.getElem?_eq_some_iff.1 hc).1).trans hc⟩
  · unfold minV at hN ⊢
    rw [if_neg (by omega)] at hN
    rw [if_neg (by omega), hm]
    exact hN.below hb
  · rw [hm]
    obtain ⟨b, o, c, e, h1, h2, h3⟩ := hV.2 (by omega)
    exact ⟨b, o, c, e, h1.bl hb, h2, h3⟩
  · rcases (hOO B).1 h with h | h
    · rw [h]; exact Nat.lt_of_lt_of_le hF.lt hb.size
    · rw [h]; exact Nat.lt_of_lt_of_le hN.lt hb.size
/-- What shortest answers. -/
def ShPost (T : Nat → List Nd) (f : Nat → Nat) (M : Nat) (w : World) (e : Ending) (w' : World) : Prop :=
  ∃ v, e = .returned (.tuple #[v, .int .i64 (minV f M : Nat)]) ∧ (M = 0 → v = .slice none 0 0) ∧ (0 < M → ∃ b o c, v = .slice (some ⟨b, o, none⟩) (T (minI f M)).length c ∧ Rd w' (some ⟨b, o, none⟩) (fl encNd (T (minI f M)))) ∧ Below w.heap.size w w'
theorem lenS_le (L : Int) (l : List Nat) (t : List Nd) : lenS L l t ≤ 2048 := by
  have h1 := lenL_le L l t
  have h2 := sum_le h1.2
  unfold lenS
  have := Nat.mul_le_mul_right 32 h1.1
  omega
set_option maxRecDepth 100000 in
set_option maxHeartbeats 4000000 in
theorem shortest_any (L : Int) (a : Option Addr) (N c : Nat) (l : List Nat) (gf : Nat) (hen : Enters Tryz.prog gf) (lb : Array Value) (M : Nat) (T : Nat → List Nd) (Ew : Nat → (Nat → Prop) → Value → World → Prop) (Fx : Nat → Prop) (w : World)
    (hl : l.length = N) (hN : N ≤ 1152921504606846976) (hA : Rd w a (fl encV l)) (hF : FitV l)
    (hseq : GivesT Fence.wide 9 Tryz.prog gf lb Ew M Fx w) (hFx : ∀ B, Fx B → B < w.heap.size)
    (hEw : ∀ k O x W, k < M → Ew k O x W → ∃ b o c, x = .slice (some ⟨b, o, none⟩) (T k).length c ∧ ¬ O b ∧ Rd W (some ⟨b, o, none⟩) (fl encNd (T k)))
    (hEp : ∀ k O x W l o o', Ew k O x W → W.heap[l]? = some o → o.isCells = false → Ew k O x (W.putObj l o'))
    (hS : ∀ k, k < M → (T k).length ≤ 1152921504606846976 ∧ ∀ v, v < (T k).length → (nS (T k) v).size ≤ 9223372036854775807) :
    Calls Tryz.prog 53 #[.agg #[.int .i64 L, .slice a N c], .func (.func gf) #[] lb] w (ShPost T (fun k => lenS L l (T k)) M w) := by
  obtain ⟨f, hf⟩ : ∃ f, f = fun k => lenS L l (T k) := ⟨_, rfl⟩
  have HFE : Hid (∀ k, f k = lenS L l (T k)) := fun k => by rw [hf]
  rw [← hf]
  clear hf
  obtain ⟨Bt, hBt⟩ : ∃ x, x = w.heap.size := ⟨_, rfl⟩
  have HBT := Lib.hid hBt
  have HL := Lib.hid hl
  have HA := Lib.hid hA
  have HF := Lib.hid hF
  have HSQ := Lib.hid hseq
  have HEW := Lib.hid hEw
  have HEP := Lib.hid hEp
  have HFX : Hid (∀ B, Fx B → B < Bt) := by rw [hBt]; exact hFx
  have HS := Lib.hid hS
  have hb3 := bl_alloc (bl_alloc (bl_alloc (Below.refl _ w) (.cells #[.int .i64 L, .slice a N c] 24)) (.cells #[.slice none 0 0] 25)) (.cells #[.int .i64 0] 3)
  have hbT := ((Blk.new w #[.int .i64 L, .slice a N c] 24).alloc (.cells #[.slice none 0 0] 25)).alloc (.cells #[.int .i64 0] 3)
  have hbF := (Blk.new2 w (.cells #[.int .i64 L, .slice a N c] 24) #[.slice none 0 0] 25).alloc (.cells #[.int .i64 0] 3)
  have hbN := Blk.new ((w.alloc (.cells #[.int .i64 L, .slice a N c] 24)).alloc (.cells #[.slice none 0 0] 25)) #[.int .i64 0] 3
  simp only [World.size_alloc] at hbN
  have hz3 : (((w.alloc (.cells #[.int .i64 L, .slice a N c] 24)).alloc (.cells #[.slice none 0 0] 25)).alloc (.cells #[.int .i64 0] 3)).heap.size = w.heap.size + 1 + 1 + 1 := by simp only [World.size_alloc]
  clear hl hA hF hseq hEw hEp hFx hS
  refine (callsIn_wide (n := 10)).1 ?_
  refine callsIn_of_wp_marks Tryz.func53 rfl trivial ?_ rfl
  simp only [Tryz.ntmps53, List.size_toArray, List.length_cons, List.length_nil, Nat.reduceAdd, Nat.reduceSub, Array.replicate_succ, Array.replicate_zero, List.push_toArray, List.append_toArray, List.nil_append, List.cons_append]
  refine wpIn_wide.2 ?_
  rw [← hBt] at hbT hbF hbN hz3
  have HBL := Lib.hid hb3
  have HXT := Lib.hid hbT
  have HXF := Lib.hid hbF
  have HXN := Lib.hid hbN
  have HZ3 := Lib.hid hz3
  clear hb3 hbT hbF hbN hz3 hBt
  go_wp2_with fail
  rw [← HBT.out]
  obtain ⟨w1, hw1⟩ : ∃ x, x = ((w.alloc (.cells #[.int .i64 L, .slice a N c] 24)).alloc (.cells #[.slice none 0 0] 25)).alloc (.cells #[.int .i64 0] 3) := ⟨_, rfl⟩
  rw [← hw1] at HBL HXT HXF HXN HZ3 ⊢
  have HSQ1 : Hid (GivesT Fence.wide 9 Tryz.prog gf lb Ew M Fx w1) := fun l J W O hW => HSQ.out l J W O (bl_trans HBL.out hW)
  clear hw1 HSQ
  refine (wpIn_wide (n := 10)).1 ?_
  refine wpIn_range_T rfl (by omega) (gf := gf) (lb := lb) rfl trivial hen HSQ1.out HEP.out rfl (ShI w #[.int .i64 L, .slice a N c] Bt (Bt + 1) (Bt + 1 + 1) T f) ?hI (fun B => B = Bt + 1 ∨ B = Bt + 1 + 1) ?hO ?h0
    (fun x => { tmps := #[.agg #[.int .i64 L, .slice a N c], .func (.func gf) #[] lb, .pointer (some ⟨Bt, 0, none⟩), undef, .slice none 0 0, .int .i64 0, .pointer (some ⟨Bt + 1, 0, none⟩), .pointer (some ⟨Bt + 1 + 1, 0, none⟩), x, undef, undef, .func (.func gf) #[] lb, x, undef, undef, undef, undef, undef, undef, undef, undef, undef, undef, undef, undef, undef, undef, undef, undef, undef], defers := [] }) ?assign ?body ?done
  case hI =>
    rintro ⟨k, O⟩ W W' row ⟨fv, h1, h2, h3, h4, h5, h6⟩ hg hr
    have hr2 : ∀ r, row = some r → ∃ o : Obj, W.heap[r]? = some o ∧ o.isCells = false := fun r e => (hr r e).2
    refine ⟨fv, blk_walk h1 hg hr2, blk_walk h2 hg hr2, blk_walk h3 hg hr2, bl_grown h4 hg (fun r e => by have := (hr r e).1; have := HZ3.out; have := HBT.out; omega), ⟨h5.1, fun hk => ?_⟩, h6⟩
    obtain ⟨b, o, c', e, q1, q2, q3⟩ := h5.2 hk
    exact ⟨b, o, c', e, rd_walk q1 hg hr2, q2, q3⟩
  case hO => rintro B (rfl | rfl) <;> exact ⟨by have := HZ3.out; omega, fun h => by have := HFX.out _ h; omega⟩
  case h0 => exact ⟨.slice none 0 0, HXT.out, HXF.out, HXN.out, HBL.out, ⟨fun _ => rfl, fun h => absurd h (by omega)⟩, fun B => Iff.rfl⟩
  case assign =>
    intro l' x W' K hK
    gi_wp2
    exact hK
  case body =>
    rintro l' k O x W' hI hk hOl hE
    obtain ⟨b, o, c2, hxe, hnO, hRx⟩ := HEW.out k O x W' hk hE
    obtain ⟨fv, hBT, hBF, hBN, hbw, hV, hOO⟩ := hI
    have hI : ShI w #[.int .i64 L, .slice a N c] Bt (Bt + 1) (Bt + 1 + 1) T f k O W' := ⟨fv, hBT, hBF, hBN, hbw, hV, hOO⟩
    have hS := HS.out k hk
    have HC := Lib.hid (length_any L a N c l (some ⟨b, o, none⟩) (T k).length c2 (T k) W' HL.out hN (HA.out.bl hbw) HF.out rfl hS.1 hRx hS.2)
    rw [← HFE.out] at HC
    have hf := lenS_le L l (T k)
    rw [← HFE.out] at hf
    have hf2 : f (minI f k) ≤ 2048 := by rw [HFE.out]; exact lenS_le L l _
    have c0 : W'.cell? ⟨Bt, 0, none⟩ = some (.int .i64 L) := hBT.cell 0
    have c1 : W'.cell? ⟨Bt, 1, none⟩ = some (.slice a N c) := hBT.cell 1
    have HII := Lib.hid hI
    have HRX := Lib.hid hRx
    have HNO := Lib.hid hnO
    have HXE := Lib.hid hxe
    have HBF := Lib.hid hBF
    have HBN := Lib.hid hBN
    have HBB : Hid (w.heap.size ≤ Bt) := Nat.le_of_eq HBT.out.symm
    by_cases h0 : k = 0
    · have hfv := hV.1 h0
      subst hfv
      have HK0 := Lib.hid h0
      rw [hxe]
      have he0 : ∀ w : World, (binOp .eql 25 (.slice none 0 0) (.slice none 0 0)).run Tryz.prog w = .ok (.bool true) w := fun w => Lib.run_eql_slice_nil w 25 46 none 0 0 0 0 Tryz.underlying25
      clear hI hBT hbw hV hOO hS hRx hnO hxe hE hBF hBN h0
      gi_wp2_with (refine ⟨trivial, ?_⟩; gi_at_call 12; refine (CallsIn.inRound l' (callsIn_wide.2 HC.out)).mono ?_; rintro e w' ⟨rfl, hb⟩; have k1 : w'.cell? ⟨Bt + 1, 0, none⟩ = some (.slice none 0 0) := (HBF.out.below hb).cell 0; have k2 : w'.cell? ⟨Bt + 1 + 1, 0, none⟩ = some (.int .i64 (minV f k : Nat)) := (HBN.out.below hb).cell 0; have f1 := (HBF.out.below hb).free 0; have f2 := (HBN.out.below hb).free 0; have HB := Lib.hid hb; clear hb)
      exact sh_take HII.out HB.out rfl HRX.out HNO.out (by have := HBB.out; omega) (by have := HBB.out; omega) (by omega) (by omega) (by omega) rfl (.inl HK0.out)
    · obtain ⟨b1, o1, c3, hfv, _⟩ := hV.2 (by omega)
      obtain ⟨n1, hn1⟩ : ∃ n1, n1 = (T (minI f k)).length := ⟨_, rfl⟩
      rw [← hn1] at hfv
      subst hfv
      rw [hxe]
      have he0 : ∀ w : World, (binOp .eql 25 (.slice (some ⟨b1, o1, none⟩) n1 c3) (.slice none 0 0)).run Tryz.prog w = .ok (.bool false) w := fun w => Lib.run_eql_slice_nil w 25 46 (some ⟨b1, o1, none⟩) n1 c3 0 0 Tryz.underlying25
      have hmv : minV f k = f (minI f k) := if_neg h0
      rw [hmv] at HBN hBN
      have HK0 := Lib.hid h0
      clear hI hBT hbw hV hOO hS hRx hnO hxe hE hBF hBN h0 hn1 hmv
      by_cases hlt : f k < f (minI f k)
      · have d1 : decide ((f k : Int) < (f (minI f k) : Int)) = true := by simp; omega
        have d2 : decide (f k < f (minI f k)) = true := by simp; omega
        have HLT := Lib.hid hlt
        clear hlt
        gi_wp2_with (refine ⟨trivial, ?_⟩; gi_at_call 12; refine (CallsIn.inRound l' (callsIn_wide.2 HC.out)).mono ?_; rintro e w' ⟨rfl, hb⟩; have k1 : w'.cell? ⟨Bt + 1, 0, none⟩ = some (.slice (some ⟨b1, o1, none⟩) n1 c3) := (HBF.out.below hb).cell 0; have k2 : w'.cell? ⟨Bt + 1 + 1, 0, none⟩ = some (.int .i64 (f (minI f k) : Nat)) := (HBN.out.below hb).cell 0; have f1 := (HBF.out.below hb).free 0; have f2 := (HBN.out.below hb).free 0; have HB := Lib.hid hb; clear hb)
        exact sh_take HII.out HB.out rfl HRX.out HNO.out (by have := HBB.out; omega) (by have := HBB.out; omega) (by omega) (by omega) (by omega) rfl (.inr HLT.out)
      · have d1 : decide ((f k : Int) < (f (minI f k) : Int)) = false := by simp; omega
        have d2 : decide (f k < f (minI f k)) = false := by simp; omega
        have HLT := Lib.hid hlt
        clear hlt
        gi_wp2_with (refine ⟨trivial, ?_⟩; gi_at_call 12; refine (CallsIn.inRound l' (callsIn_wide.2 HC.out)).mono ?_; rintro e w' ⟨rfl, hb⟩; have k1 : w'.cell? ⟨Bt + 1, 0, none⟩ = some (.slice (some ⟨b1, o1, none⟩) n1 c3) := (HBF.out.below hb).cell 0; have k2 : w'.cell? ⟨Bt + 1 + 1, 0, none⟩ = some (.int .i64 (f (minI f k) : Nat)) := (HBN.out.below hb).cell 0; have f1 := (HBF.out.below hb).free 0; have f2 := (HBN.out.below hb).free 0; have HB := Lib.hid hb; clear hb)
        exact sh_keep HII.out HB.out (fun h => by rcases h with h | h; exact HK0.out h; exact HLT.out h)
  case done =>
    rintro D O W' hD ⟨fv, h1, h2, h3, h4, h5, h6⟩ hKD
    have k1 : W'.cell? ⟨Bt + 1, 0, none⟩ = some fv := h2.cell 0
    have k2 : W'.cell? ⟨Bt + 1 + 1, 0, none⟩ = some (.int .i64 (minV f M : Nat)) := h3.cell 0
    have H4 := Lib.hid h4
    have H5 := Lib.hid h5
    have HKD := Lib.hid hKD
    clear h1 h2 h3 h4 h5 h6 hKD
    simp only [Exit.inBlock, Exit.then]
    go_wp2_with fail
    have hmo : Tryz.prog.follows .mixedOrders = true := by kernel_rfl
    go_region
    all_goals try go_wp2_with fail
    have H5' := HKD.out
    refine leaves_all [D] _ (by simp) (fun D' hD' => by rw [List.mem_singleton.1 hD']; exact HKD.out) fun w' ht => ⟨_, results_tmp2 rfl _ _ _, ?_⟩
    have hb := ht.below (bl_drewN H4.out 1) (fun D' hD' => by rw [List.mem_singleton.1 hD']; have := HZ3.out; have := HBT.out; omega)
    refine ⟨fv, rfl, H5.out.1, fun hk => ?_, hb⟩
    obtain ⟨b, o, c', e, q1, _⟩ := H5.out.2 hk
    refine ⟨b, o, c', e, fun h0 => ?_⟩
    obtain ⟨b', o', e', hlt, hc⟩ := q1 h0
    have hsz := ht.size
    refine ⟨b', o', e', by rw [hsz]; exact hlt, fun i hi => ?_⟩
    have hci := hc i hi
    rw [← hci]
    simp only [World.cell?]
    rw [ht.block b' (fun hm => ?_)]
    · rfl
    · rw [List.mem_singleton.1 hm] at hci
      simp only [World.cell?] at hci
      rw [HKD.out] at hci
      cases hci
end Go.Proofs.YtjmnakkkimgifaaGreatDoor
namespace Go.Proofs.YtjmnakkkimgifaaGreatDoor
open Go Go.RowKit Go.Shelf
theorem encNd_one : ∀ x : Nd, ∀ u ∈ encNd x, u.oneCell' = true := by
  intro x u hu
  simp [encNd] at hu
  rcases hu with rfl | rfl <;> rfl
set_option maxRecDepth 100000 in
set_option maxHeartbeats 1000000 in
theorem cloneNd_any (b o n c : Nat) (t : List Nd) (w : World) (hn : t.length = n) (h0 : 0 < n) (hN : n < 1048576) (hA : Rd w (some ⟨b, o, none⟩) (fl encNd t)) :
    Calls Tryz.prog 57 #[.slice (some ⟨b, o, none⟩) n c] w fun e w' => ∃ g c', e = .returned (.slice (some ⟨g, 0, none⟩) n c') ∧ w'.ownsRow w.heap.size 46 2 (.slice (some ⟨g, 0, none⟩) n c') n (fl encNd t) ∧ Below w.heap.size w w' := by
  have HN := Lib.hid hn
  clear hn
  have q29 : ∀ (w : World) (n c : Nat), (binOp .eql 25 (.slice (some ⟨b, o, none⟩) n c) (.slice none 0 0)).run Tryz.prog w = .ok (.bool false) w := fun w n c => Lib.run_eql_slice_nil w _ _ (some ⟨b, o, none⟩) n c 0 0 Tryz.underlying25
  have hown0 : (w.alloc (.cells #[] 46)).ownsRow w.heap.size 46 2 (.slice (some ⟨w.heap.size, 0, none⟩) 0 0) 0 (fl encNd []) := by
    have := owns_made (w := w) (base := w.heap.size) (e := 46) (k := 2) (n := 0) (cs := #[]) (Nat.le_refl _) (by simp) (by omega)
    exact this
  have hA1 := hA.bl (bl_alloc (Below.refl _ w) (.cells #[] 46))
  have hb1 := bl_alloc (Below.refl w.heap.size w) (.cells #[] 46)
  go_enter Tryz.func57, Tryz.ntmps57
  go_wp2_with (at_builtin; refine wpList_pushs (enc := encNd) (k := 2) (bytes := 24) rfl encNd_len (by decide) encNd_one (base := w.heap.size) Tryz.underlying25 info_Nd rfl (.tmp 5) (.tmp 6) rfl (.slice (some ⟨w.heap.size, 0, none⟩) 0 0) ([] : List Nd) 0 rfl rfl hown0 (some ⟨b, o, none⟩) n c t HN.out.symm rfl hA1 (fun e => by cases e) (by omega) (by decide) hb1.size ?_; intro v1 w2 hw1 hw2 hw3)
  rw [Nat.zero_add, List.nil_append] at hw1
  obtain ⟨a', c', rfl, hc2⟩ := owns_slice hw1
  rcases hc2 with h | ⟨g, hg1, _, rfl⟩
  · omega
  · go_ret
    exact ⟨g, c', rfl, hw1, hb1.grown hw2 (by simp) (by intro k hk; simp [Value.ownBlock] at hk; omega)⟩
/-- One step of climbing: the best neighbour. -/
def stpL (L : Int) (l : List Nat) (t : List Nd) : List Nd := vT (nearL t t.length) (minI (fun k => lenS L l (vT (nearL t t.length) k)) (nearL t t.length).length)
def stopB (L : Int) (l : List Nat) (t : List Nd) : Bool := decide ((nearL t t.length).length = 0) || decide (lenS L l t ≤ lenS L l (stpL L l t))
def clF2 (L : Int) (l : List Nat) : Nat → List Nd → List Nd
  | 0, t => t
  | f + 1, t => if stopB L l t then t else clF2 L l f (stpL L l t)
/-- Where one climbs to. -/
def topL (L : Int) (l : List Nat) (t : List Nd) : List Nd := clF2 L l (lenS L l t + 1) t
theorem clF2_more {L : Int} {l : List Nat} : ∀ (f : Nat) (t : List Nd) (g : Nat), lenS L l t < f → lenS L l t < g → clF2 L l f t = clF2 L l g t
  | 0, t, g, h, _ => absurd h (by omega)
  | f + 1, t, 0, _, h => absurd h (by omega)
  | f + 1, t, g + 1, h1, h2 => by
    show (if _ then _ else _) = (if _ then _ else _)
    by_cases e : stopB L l t = true
    · rw [if_pos e, if_pos e]
    · rw [if_neg e, if_neg e]
      unfold stopB at e
      have : lenS L l (stpL L l t) < lenS L l t := by
        rw [Bool.or_eq_true, decide_eq_true_eq, decide_eq_true_eq] at e
        omega
      exact clF2_more f _ g (by omega) (by omega)
theorem topL_stop {L : Int} {l : List Nat} {t : List Nd} (h : stopB L l t = true) : topL L l t = t := if_pos h
theorem topL_step {L : Int} {l : List Nat} {t : List Nd} (h : stopB L l t = false) : topL L l t = topL L l (stpL L l t) ∧ lenS L l (stpL L l t) < lenS L l t := by
  have h2 : lenS L l (stpL L l t) < lenS L l t := by
    unfold stopB at h
    rw [Bool.or_eq_false_iff, decide_eq_false_iff_not, decide_eq_false_iff_not] at h
    omega
  refine ⟨?_, h2⟩
  show (if stopB L l t = true then _ else _) = _
  rw [if_neg (by rw [h]; decide)]
  exact clF2_more _ _ _ (by omega) (by omega)
/-- A tree that climbs: a binary tree of n nodes. -/
def ClT (t : List Nd) (n : Nat) : Prop := t.length = n ∧ TreeOk t ∧ BinT t n
theorem ClT.near {t : List Nd} {n : Nat} (h : ClT t n) {k : Nat} (hk : k < (nearL t n).length) : ClT (vT (nearL t n) k) n := by
  obtain ⟨hn, hok, hb⟩ := h
  have hm : vT (nearL t n) k ∈ nearL t n := by
    unfold vT
    rw [List.getD_eq_getElem?_getD, List.getElem?_eq_getElem hk]
    exact List.getElem_mem _
  obtain ⟨c, x, h0, hc, hx, e⟩ := mem_near.1 hm
  rw [e]
  obtain ⟨s, hs⟩ := shT_of hn hok hb
  have hN := nni_of hn hok hb h0 hc hx
  obtain ⟨X, Y, hE⟩ := ex_ok hn hok hb hs hN rfl
  have hO := near_ok hn hok hs hE
  have hlen : (exS t n c x).srt.all.length = n := by
    rw [(Sh.srt_all _).length_eq, hE.perm.length_eq, List.length_range]
  have h1 : (nearAt t n c x).length = n := by
    show (numS t (lvsL t n) (exS t n c x).srt).length = n
    rw [hO.len, hlen]
  have h2 := hO.bin
  rw [hlen] at h2
  exact ⟨h1, hO.tree, h2⟩
theorem ClT.chk {L : Int} {l : List Nat} {t t' : List Nd} {n : Nat} (h : ClT t n) (h' : ClT t' n) (hc : chkP L l t = 0) (hl : (lvT t').length = (lvT t).length) : chkP L l t' = 0 := by
  unfold chkP at hc ⊢
  have e1 : chkE t = 0 := if_pos h.2.1
  have e2 : chkE t' = 0 := if_pos h'.2.1
  rw [e1] at hc
  rw [e2, hl]
  exact hc
/-- What Climb answers. -/
def clbE (L : Int) (l : List Nat) (t : List Nd) : Int := if chkP L l t ≠ 0 then chkP L l t else if binB t t.length then 0 else 2
def ClPost (L : Int) (l : List Nat) (t : List Nd) (w : World) (e : Ending) (w' : World) : Prop :=
  ∃ v, e = .returned (.tuple #[v, .int .i64 (if clbE L l t = 0 then lenS L l (topL L l t) else 0 : Nat), .int .i64 (clbE L l t)]) ∧ (clbE L l t ≠ 0 → v = .slice none 0 0) ∧ (clbE L l t = 0 → ∃ b o c, v = .slice (some ⟨b, o, none⟩) (topL L l t).length c ∧ Rd w' (some ⟨b, o, none⟩) (fl encNd (topL L l t))) ∧ Below w.heap.size w w'
theorem ClT.small {t : List Nd} {n : Nat} (h : ClT t n) : n ≤ 63 ∧ 1 ≤ n ∧ ∀ v, v < n → (nS t v).size ≤ 9223372036854775807 := by
  refine ⟨by have := h.2.1.2.1; have := h.1; omega, by have := h.2.1.1; have := h.1; omega, fun v hv => ?_⟩
  have h1 := (h.2.1.2.2 v (by rw [h.1]; exact hv)).2.2.1
  unfold nmB at h1
  simp only [Bool.and_eq_true, decide_eq_true_eq] at h1
  omega
set_option maxRecDepth 100000 in
set_option maxHeartbeats 2000000 in
/-- The best neighbour, by the iterator. -/
theorem nbShort_any (L : Int) (a : Option Addr) (N c : Nat) (l : List Nat) (b : Option Addr) (n d : Nat) (t : List Nd) (w : World) (hl : l.length = N) (hN : N ≤ 1152921504606846976) (hA : Rd w a (fl encV l)) (hF : FitV l) (hT : ClT t n) (hB : Rd w b (fl encNd t)) :
    Calls Tryz.prog 53 #[.agg #[.int .i64 L, .slice a N c], .func (.func 67) #[] #[.pointer (some ⟨w.heap.size, 0, none⟩)]] (w.alloc (.cells #[.slice b n d] 25)) (ShPost (vT (nearL t n)) (fun k => lenS L l (vT (nearL t n) k)) (nearL t n).length (w.alloc (.cells #[.slice b n d] 25))) := by
  have hb3 := bl_alloc (Below.refl _ w) (.cells #[.slice b n d] 25)
  obtain ⟨h63, h1, _⟩ := hT.small
  refine shortest_any L a N c l 67 (enters_of Tryz.func67 (by kernel_rfl) rfl) #[.pointer (some ⟨w.heap.size, 0, none⟩)] (nearL t n).length (vT (nearL t n)) _ _ (w.alloc (.cells #[.slice b n d] 25)) hl hN (hA.bl hb3) hF
    (nb_gives 9 n w.heap.size d (w.alloc (.cells #[.slice b n d] 25)).heap.size b t _ hT.1 hT.2.1 hT.2.2 (by omega) (Blk.new _ _ _) (hB.bl hb3) (Nat.le_refl _))
    (fun B h => by
      rcases h with h | ⟨b', o, e, h⟩
      · rw [h, World.size_alloc]; omega
      · obtain ⟨b2, o', e', hb', _⟩ := rdNd hB (by have := hT.1; omega)
        rw [e] at e'; cases e'; rw [h, World.size_alloc]; omega)
    (fun k O x W hk h => by
      obtain ⟨g, c', e, hg, ho⟩ := h.row
      subst e
      exact ⟨g, 0, c', rfl, hg, rd_of_owns ho⟩)
    (fun k O x W l o o' h hl hc => h.put hl hc)
    (fun k hk => by
      have h := hT.near hk
      obtain ⟨q1, q2, q3⟩ := h.small
      rw [h.1]
      exact ⟨by omega, q3⟩)
set_option maxRecDepth 100000 in
set_option maxHeartbeats 4000000 in
theorem climb_any (L : Int) (a : Option Addr) (N c : Nat) (l : List Nat) (b : Option Addr) (n d : Nat) (t : List Nd) (w : World) (hl : l.length = N) (hN : N ≤ 1152921504606846976) (hA : Rd w a (fl encV l)) (hF : FitV l)
    (ht : t.length = n) (hn : n ≤ 1152921504606846976) (hB : Rd w b (fl encNd t)) (hS : ∀ v, v < n → (nS t v).size ≤ 9223372036854775807) :
    Calls Tryz.prog 24 #[.agg #[.int .i64 L, .slice a N c], .slice b n d] w (ClPost L l t w) := by
  have hb0 := bl_alloc (Below.refl _ w) (.cells #[.int .i64 L, .slice a N c] 24)
  have hX := Blk.new w #[.int .i64 L, .slice a N c] 24
  have HC := Lib.hid (length_any L a N c l b n d t (w.alloc (.cells #[.int .i64 L, .slice a N c] 24)) hl hN (hA.bl hb0) hF ht hn (hB.bl hb0) hS)
  have HA := Lib.hid (hA.bl hb0)
  have HA0 := Lib.hid hA
  have HB := Lib.hid (hB.bl hb0)
  have HT := Lib.hid ht
  have HL := Lib.hid hl
  have HF := Lib.hid hF
  have HS := Lib.hid hS
  have hlen := lenS_le L l t
  have HX := Lib.hid hX
  have HB0 := Lib.hid hb0
  obtain ⟨X, hXe⟩ : ∃ x, x = w.heap.size := ⟨_, rfl⟩
  have HXE := Lib.hid hXe
  rw [← hXe] at HX
  clear hl hA hF hB ht hS hX hb0 hXe
  go_enter Tryz.func24, Tryz.ntmps24
  go_wp2_with fail
  refine HC.out.mono ?_
  rintro e w2 ⟨rfl, hb2⟩
  have HB2 := Lib.hid (bl_trans HB0.out hb2)
  have HX2 := Lib.hid (HX.out.below hb2)
  have HA2 := Lib.hid (HA.out.bl hb2)
  have HR2 := Lib.hid (HB.out.bl hb2)
  clear hb2 HC HX HA HB HB0
  rw [← HXE.out]
  by_cases h0 : chkP L l t = 0
  · rw [h0]
    have HC2 := Lib.hid (binary_any b n d t w2 HT.out hn HR2.out HS.out)
    have hE0 : chkE t = 0 := by
      unfold chkP at h0
      by_cases q : chkT L l = 0
      · rw [if_neg (fun e => e q)] at h0
        by_cases q2 : chkE t = 0
        · exact q2
        · rw [if_pos q2] at h0; exact h0
      · rw [if_pos q] at h0; exact absurd h0 q
    have HCE : Hid (clbE L l t = if binB t t.length then 0 else 2) := if_neg (fun e => e h0)
    have H0 := Lib.hid h0
    clear h0
    go_wp2_with fail
    refine HC2.out.mono ?_
    rintro e w3 ⟨rfl, hb3⟩
    have HB3 := Lib.hid (bl_trans HB2.out hb3)
    have HX3 := Lib.hid (HX2.out.below hb3)
    have HA3 := Lib.hid (HA2.out.bl hb3)
    have HR3 := Lib.hid (HR2.out.bl hb3)
    clear hb3 HC2 HX2 HA2 HR2 HB2
    by_cases h1 : binB t t.length = true
    · have hP : binP t = true := by unfold binP; rw [hE0, h1]; rfl
      have HCL : Hid (ClT t n) := by
        refine ⟨HT.out, ?_, ?_⟩
        · unfold chkE at hE0
          by_cases q : TreeOk t
          · exact q
          · rw [if_neg q] at hE0; cases hE0
        · have h := binB_iff.1 h1; rw [HT.out] at h; exact h
      have HE : Hid (clbE L l t = 0) := by show _ = _; rw [HCE.out, if_pos h1]
      have hn1 : 0 < n := by have := HCL.out.small; omega
      have hn63 : n ≤ 63 := by have := HCL.out.small; omega
      rw [hP]
      clear h1 hP HCE
      obtain ⟨bb, ob, rfl, _⟩ := rdNd HR3.out (by rw [HT.out]; exact hn1)
      have HCC := Lib.hid (cloneNd_any bb ob n d t w3 HT.out hn1 (by omega) HR3.out)
      go_wp2_with fail
      refine HCC.out.mono ?_
      rintro e w4 ⟨g, c4, rfl, ho4, hb4⟩
      have HB4 := Lib.hid (bl_trans HB3.out hb4)
      have HX4 := Lib.hid (HX3.out.below hb4)
      have HA4 := Lib.hid (HA3.out.bl hb4)
      have HR4 := Lib.hid (rd_of_owns ho4)
      clear ho4 hb4 HCC HX3 HA3 HR3 HB3
      go_wp2_with fail
      have HLE : Hid (∀ t', lenS L l t' ≤ 2048) := fun t' => lenS_le L l t'
      go_loopw [1, 7] (fun x y wr => ∃ (t' : List Nd) (g o c' : Nat), x = .slice (some ⟨g, o, none⟩) n c' ∧ y = .int .i64 (lenS L l t' : Nat) ∧ Hid (ClT t' n) ∧ Hid (Rd wr (some ⟨g, o, none⟩) (fl encNd t')) ∧ Hid (topL L l t = topL L l t') ∧ Hid (Blk wr X #[.int .i64 L, .slice a N c] 24) ∧ Hid (Below w.heap.size w wr)) (fun _ y _ => (intOf y).toNat)
      case atStart => exact ⟨t, g, 0, c4, rfl, rfl, HCL, HR4, rfl, HX4, HB4⟩
      case round =>
        clear HR4 HX4 HB4
        obtain ⟨t', g', o', c', rfl, rfl, hT, hR, hTop, hX, hB⟩ := hrel
        have e0 : wr.cell? ⟨X, 0, none⟩ = some (.int .i64 L) := hX.out.cell 0
        have e1 : wr.cell? ⟨X, 1, none⟩ = some (.slice a N c) := hX.out.cell 1
        have HRA : Hid (Rd wr a (fl encV l)) := HA0.out.bl hB.out
        have hb1 : Below wr.heap.size wr wr.drew := bl_drewN (Below.refl _ wr) 1
        have HSH := Lib.hid (nbShort_any L a N c l (some ⟨g', o', none⟩) n c' t' wr.drew HL.out hN (HRA.out.bl hb1) HF.out hT.out (hR.out.bl hb1))
        have hb5 := bl_trans hb1 (bl_alloc (Below.refl _ wr.drew) (.cells #[.slice (some ⟨g', o', none⟩) n c'] 25))
        have hX5 := hX.out.below hb5
        have j0 : (wr.drew.alloc (.cells #[.slice (some ⟨g', o', none⟩) n c'] 25)).cell? ⟨X, 0, none⟩ = some (.int .i64 L) := hX5.cell 0
        have j1 : (wr.drew.alloc (.cells #[.slice (some ⟨g', o', none⟩) n c'] 25)).cell? ⟨X, 1, none⟩ = some (.slice a N c) := hX5.cell 1
        have HX5 := Lib.hid hX5
        have HB5 := Lib.hid hb5
        clear hb1 hb5 hX5
        go_upto_region 8 with fail
        go_cut [11, 12] (fun x y wx => y = .int .i64 (minV (fun k => lenS L l (vT (nearL t' n) k)) (nearL t' n).length : Nat) ∧ Hid ((nearL t' n).length = 0 → x = .slice none 0 0) ∧ Hid (0 < (nearL t' n).length → ∃ b o c, x = .slice (some ⟨b, o, none⟩) (vT (nearL t' n) (minI (fun k => lenS L l (vT (nearL t' n) k)) (nearL t' n).length)).length c ∧ Rd wx (some ⟨b, o, none⟩) (fl encNd (vT (nearL t' n) (minI (fun k => lenS L l (vT (nearL t' n) k)) (nearL t' n).length)))) ∧ Hid (Below wr.heap.size wr wx))
        case first =>
          go_region_held3 (fun w' => w'.cell? ⟨X, 0, none⟩ = some (.int .i64 L) ∧ w'.cell? ⟨X, 1, none⟩ = some (.slice a N c)) (go_keep) (first | (go_at_call 44; refine (neighbours_any (some ⟨g', o', none⟩) n c' _).mono ?_; rintro e w5 ⟨rfl, rfl⟩) | (go_at_call 53; refine HSH.out.mono ?_; rintro e w6 ⟨v, rfl, hv0, hv1, hb6⟩; have k0 : w6.cell? ⟨X, 0, none⟩ = some (.int .i64 L) := (HX5.out.below hb6).cell 0; have k1 : w6.cell? ⟨X, 1, none⟩ = some (.slice a N c) := (HX5.out.below hb6).cell 1; have HV0 := Lib.hid hv0; have HV1 := Lib.hid hv1; have HB6 := Lib.hid (bl_trans HB5.out hb6); clear hv0 hv1 hb6))
          all_goals
            go_wp2_with fail
            go_meet
            exact ⟨rfl, HV0, HV1, HB6⟩
        case rest =>
          obtain ⟨rfl, hv0, hv1, hb6⟩ := hcut
          have HX6 := Lib.hid (hX.out.below hb6.out)
          have HR6 := Lib.hid (hR.out.bl hb6.out)
          have HB6 := Lib.hid (bl_trans hB.out hb6.out)
          have HST : Hid (stpL L l t' = vT (nearL t' n) (minI (fun k => lenS L l (vT (nearL t' n) k)) (nearL t' n).length)) := by show _ = _; unfold stpL; rw [hT.out.1]
          have hfq : lenS L l t' ≤ 2048 := HLE.out t'
          have hfs : lenS L l (stpL L l t') ≤ 2048 := HLE.out _
          clear HSH j0 j1 HX5 HB5 e0 e1 HRA hb6 hX hR hB
          by_cases hM : (nearL t' n).length = 0
          · have hv := hv0.out hM
            subst hv
            have he0 : ∀ w : World, (binOp .eql 25 (.slice none 0 0) (.slice none 0 0)).run Tryz.prog w = .ok (.bool true) w := fun w => Lib.run_eql_slice_nil w 25 46 none 0 0 0 0 Tryz.underlying25
            have HSP : Hid (stopB L l t' = true) := by show _ = _; unfold stopB; rw [hT.out.1, hM]; rfl
            clear hv0 hv1 hM
            go_wp2_with fail
            go_ret3
            refine ⟨.slice (some ⟨g', o', none⟩) n c', ?_, fun h => absurd HE.out h, fun _ => ⟨g', o', c', ?_, ?_⟩, HB6.out⟩
            · rw [HE.out, if_pos rfl, hTop.out, topL_stop HSP.out]; rfl
            · rw [hTop.out, topL_stop HSP.out, hT.out.1]
            · rw [hTop.out, topL_stop HSP.out]; exact HR6.out
          · obtain ⟨b1, o1, c1, rfl, hR1⟩ := hv1.out (by omega)
            have hmv : minV (fun k => lenS L l (vT (nearL t' n) k)) (nearL t' n).length = lenS L l (stpL L l t') := by
              unfold minV
              rw [if_neg hM, HST.out]
            have HT1 : Hid (ClT (stpL L l t') n) := by
              show ClT _ _
              rw [HST.out]
              exact hT.out.near (minI_lt _ _ (by omega))
            rw [← HST.out] at hR1
            have hl1 : (vT (nearL t' n) (minI (fun k => lenS L l (vT (nearL t' n) k)) (nearL t' n).length)).length = n := by rw [← HST.out]; exact HT1.out.1
            rw [hmv, hl1]
            have HR1 := Lib.hid hR1
            have HM := Lib.hid hM
            have he0 : ∀ w : World, (binOp .eql 25 (.slice (some ⟨b1, o1, none⟩) n c1) (.slice none 0 0)).run Tryz.prog w = .ok (.bool false) w := fun w => Lib.run_eql_slice_nil w 25 46 (some ⟨b1, o1, none⟩) n c1 0 0 Tryz.underlying25
            clear hv0 hv1 hM hR1 hmv hl1
            by_cases hlt : lenS L l t' ≤ lenS L l (stpL L l t')
            · have HSP : Hid (stopB L l t' = true) := by show _ = _; unfold stopB; rw [decide_eq_true hlt, Bool.or_true]
              have d1 : decide ((lenS L l t' : Int) ≤ (lenS L l (stpL L l t') : Int)) = true := by simp; omega
              have d2 : decide (lenS L l t' ≤ lenS L l (stpL L l t')) = true := by simp; omega
              clear hlt
              go_wp2_with fail
              go_ret3
              refine ⟨.slice (some ⟨g', o', none⟩) n c', ?_, fun h => absurd HE.out h, fun _ => ⟨g', o', c', ?_, ?_⟩, HB6.out⟩
              · rw [HE.out, if_pos rfl, hTop.out, topL_stop HSP.out]; rfl
              · rw [hTop.out, topL_stop HSP.out, hT.out.1]
              · rw [hTop.out, topL_stop HSP.out]; exact HR6.out
            · have HSP : Hid (stopB L l t' = false) := by
                show _ = _
                unfold stopB
                rw [hT.out.1, decide_eq_false hlt, decide_eq_false HM.out]; rfl
              have d1 : decide ((lenS L l t' : Int) ≤ (lenS L l (stpL L l t') : Int)) = false := by simp; omega
              have d2 : decide (lenS L l t' ≤ lenS L l (stpL L l t')) = false := by simp; omega
              have hlt2 : lenS L l (stpL L l t') < lenS L l t' := by omega
              have HTP : Hid (topL L l t = topL L l (stpL L l t')) := by show _ = _; rw [hTop.out, (topL_step HSP.out).1]
              clear hlt
              go_wp2_with fail
              go_roundw
              case rel => exact ⟨stpL L l t', b1, o1, c1, rfl, rfl, HT1, HR1, HTP, HX6, HB6⟩
              case measure => simp [intOf]; omega
    · have hP : binP t = false := by unfold binP; rw [Bool.not_eq_true] at h1; rw [h1, Bool.and_false]
      have HE : Hid (clbE L l t = 2) := by show _ = _; rw [HCE.out, if_neg h1]
      rw [hP]
      clear h1 hP HCE
      go_wp2_with fail
      go_ret3
      refine ⟨.slice none 0 0, by rw [HE.out]; rfl, fun _ => rfl, fun h => ?_, HB3.out⟩
      rw [HE.out] at h; cases h
  · have HE : Hid (clbE L l t = chkP L l t) := if_pos h0
    obtain ⟨E, hEE⟩ : ∃ E, chkP L l t = E := ⟨_, rfl⟩
    rw [hEE] at HE h0 ⊢
    have d0 : (E == 0) = false := by simp [h0]
    have d1 : (E != 0) = true := by simp [h0]
    have H0 := Lib.hid h0
    clear hEE h0
    go_wp2_with fail
    go_ret3
    refine ⟨.slice none 0 0, by rw [HE.out, if_neg H0.out]; rfl, fun _ => rfl, fun h => ?_, HB2.out⟩
    rw [HE.out] at h; exact absurd h H0.out
end Go.Proofs.YtjmnakkkimgifaaGreatDoor
namespace Go.Proofs.YtjmnakkkimgifaaGreatDoor
open Go Go.RowKit Go.Shelf
/-- As FamW, with any capacity. -/
structure FamX (w : World) (base g n c : Nat) (S : Nat → List Nat) (rs : Nat → Rw) : Prop where
  rows : w.ownsRow base 29 1 (.slice (some ⟨g, 0, none⟩) n c) n (fl encR ((List.range n).map rs))
  row : ∀ i, i < n → w.ownsRow base 3 1 (slR (rs i)) (S i).length (fl encI (iN (S i)))
  len : ∀ i, i < n → (rs i).2.1 = (S i).length
  dis : ∀ i j, i < n → j < n → i ≠ j → (slR (rs i)).ownBlock = none ∨ (slR (rs i)).ownBlock ≠ (slR (rs j)).ownBlock
  far : ∀ i, i < n → (slR (rs i)).ownBlock ≠ some g
section
variable {w w' : World} {base g n c : Nat} {S : Nat → List Nat} {rs : Nat → Rw}
theorem FamX.lt (h : FamX w base g n c S rs) : base ≤ g ∧ g < w.heap.size := h.rows.lt g rfl
theorem FamX.bl (h : FamX w base g n c S rs) (hb : Below w.heap.size w w') : FamX w' base g n c S rs := ⟨owns_below h.rows hb, fun i hi => owns_below (h.row i hi) hb, h.len, h.dis, h.far⟩
theorem FamX.cell (h : FamX w base g n c S rs) {i : Nat} (hi : i < n) : w.cell? ⟨g, i, none⟩ = some (slR (rs i)) := by
  obtain ⟨b, o, e, _, hc⟩ := rdR (rd_of_owns h.rows) (by simp; omega)
  simp only [Option.some.injEq, Addr.mk.injEq, and_true] at e
  obtain ⟨rfl, rfl⟩ := e
  have := hc i (by simpa using hi)
  rw [Nat.zero_add] at this
  rw [this]
  simp [rA, rN, rC, hi, slR]
theorem FamX.subR (h : FamX w base g n c S rs) : SubR w g n S rs :=
  ⟨h.lt.2, fun i hi => h.cell hi, h.len, fun i hi => by
    have h1 := h.row i hi
    unfold slR at h1
    rw [h.len i hi] at h1
    exact rd_of_owns h1⟩
theorem FamX.congr {S' : Nat → List Nat} (h : FamX w base g n c S rs) (e : ∀ i, i < n → S' i = S i) : FamX w base g n c S' rs :=
  ⟨h.rows, fun i hi => by rw [e i hi]; exact h.row i hi, fun i hi => by rw [e i hi]; exact h.len i hi, h.dis, h.far⟩
theorem FamX.at (h : FamX w base g n c S rs) {i : Nat} (hi : i < n) (h0 : 0 < (S i).length) : ∃ b cp, rs i = (some ⟨b, 0, none⟩, (S i).length, cp) ∧ b < w.heap.size ∧ base ≤ b := by
  have h1 := h.row i hi
  have h2 := h.len i hi
  obtain ⟨x, hx⟩ : ∃ x, x = rs i := ⟨_, rfl⟩
  rw [← hx] at h1 h2 ⊢
  obtain ⟨A, m, cp⟩ := x
  have h2' : m = (S i).length := h2
  subst h2'
  obtain ⟨a', cap, he, h3⟩ := owns_slice h1
  rcases h3 with h3 | ⟨g', h4, h5, h6⟩
  · omega
  · have he' : Value.slice A (S i).length cp = .slice a' (S i).length cap := he
    injection he' with e1 e2 e3
    exact ⟨g', cp, by rw [e1, h6], h5, h4⟩
theorem FamX.setAt (h : FamX w base g n c S rs) {i j v bi cp : Nat} (hi : i < n) (hx : rs i = (some ⟨bi, 0, none⟩, (S i).length, cp)) :
    FamX (w.setCell ⟨bi, j, none⟩ (.int .i64 v)) base g n c (fun r => if r = i then (S i).set j v else S r) rs := by
  have hob : (slR (rs i)).ownBlock = some bi := by rw [hx]; rfl
  refine ⟨?_, fun r hr => ?_, fun r hr => ?_, h.dis, h.far⟩
  · refine ownsRow_setCell_other (a := ⟨bi, j, none⟩) h.rows (fun e => h.far i hi ?_) _
    rw [hob]; have e1 : some g = some bi := e; rw [e1]
  · by_cases e : r = i
    · subst e
      simp only [if_pos, List.length_set]
      have h1 := h.row r hr
      rw [hx] at h1 ⊢
      have h2 := (World.ownsRow.stored h1 j (.int .i64 v)).1
      rw [fl_iN_set] at h2
      exact h2
    · simp only [if_neg e]
      refine ownsRow_setCell_other (a := ⟨bi, j, none⟩) (h.row r hr) (fun e2 => ?_) _
      rcases h.dis r i hr hi e with h1 | h1
      · rw [h1] at e2; cases e2
      · exact h1 (by rw [hob]; exact e2)
  · by_cases e : r = i
    · subst e
      simp only [if_pos, List.length_set]; exact h.len r hr
    · simp only [if_neg e]; exact h.len r hr
/-- Two rows change places. -/
theorem FamX.swap (h : FamX w base g n c S rs) {i j : Nat} (hi : i < n) (hj : j < n) :
    FamX ((w.setCell ⟨g, i, none⟩ (slR (rs j))).setCell ⟨g, j, none⟩ (slR (rs i))) base g n c (fun r => S (swp i j r)) (fun r => rs (swp i j r)) := by
  have hsw : ∀ r, r < n → swp i j r < n := fun r hr => by
    unfold swp
    by_cases q : r = i
    · rw [if_pos q]; exact hj
    · rw [if_neg q]
      by_cases q2 : r = j
      · rw [if_pos q2]; exact hi
      · rw [if_neg q2]; exact hr
  refine ⟨?_, fun r hr => ?_, fun r hr => h.len _ (hsw r hr), fun r r' hr hr' hne => h.dis _ _ (hsw r hr) (hsw r' hr') (fun e => hne ?_), fun r hr => h.far _ (hsw r hr)⟩
  · have h1 := (World.ownsRow.stored h.rows i (slR (rs j))).1
    unfold slR at h1
    rw [fl_setR, setR_put _ hi] at h1
    have h2 := (World.ownsRow.stored h1 j (slR (rs i))).1
    unfold slR at h2
    rw [fl_setR, setR_put _ hj] at h2
    have e : (fun x => if x = j then ((rs i).1, (rs i).2.1, (rs i).2.2) else if x = i then ((rs j).1, (rs j).2.1, (rs j).2.2) else rs x) = fun r => rs (swp i j r) := by
      funext x
      unfold swp
      by_cases q : x = j
      · by_cases q2 : x = i
        · rw [if_pos q, if_pos q2, ← q, q2]
        · rw [if_pos q, if_neg q2, if_pos q]
      · by_cases q2 : x = i
        · rw [if_neg q, if_pos q2, if_pos q2]
        · rw [if_neg q, if_neg q2, if_neg q2, if_neg q]
    rw [e] at h2
    exact h2
  · exact ownsRow_setCell_other (a := ⟨g, j, none⟩) (ownsRow_setCell_other (a := ⟨g, i, none⟩) (h.row _ (hsw r hr)) (h.far _ (hsw r hr)) _) (h.far _ (hsw r hr)) _
  · have := congrArg (swp i j) e
    rwa [swp_swp, swp_swp] at this
/-- Two rows more, laid outside. -/
theorem FamX.add (h : FamX w base g n c S rs) {g' c' : Nat} {x y : Rw} {X Y : List Nat} (hr : w'.ownsRow base 29 1 (.slice (some ⟨g', 0, none⟩) (n + 2) c') (n + 2) (fl encR ((List.range n).map rs ++ [x, y])))
    (hg : w.grownBy w' (some g)) (hv : g' = g ∨ w.heap.size ≤ g') (hx : w.ownsRow base 3 1 (slR x) X.length (fl encI (iN X))) (hy : w.ownsRow base 3 1 (slR y) Y.length (fl encI (iN Y))) (lx : x.2.1 = X.length) (ly : y.2.1 = Y.length)
    (dx : ∀ i, i < n → (slR x).ownBlock = none ∨ (slR x).ownBlock ≠ (slR (rs i)).ownBlock) (dg : (slR x).ownBlock ≠ some g) (hy0 : (slR y).ownBlock = none) :
    FamX w' base g' (n + 2) c' (fun i => if i = n then X else if i = n + 1 then Y else S i) (fun i => if i = n then x else if i = n + 1 then y else rs i) := by
  have ne : ∀ {u : Value} {m : Nat} {xs : List Value}, w.ownsRow base 3 1 u m xs → u.ownBlock ≠ some g → u.ownBlock ≠ some g' := fun {u m xs} hu hne e => by
    rcases hv with hv | hv
    · exact hne (by rw [e, hv])
    · have := (hu.lt g' e).2; omega
  have kp : ∀ {u : Value} {m : Nat} {xs : List Value}, w.ownsRow base 3 1 u m xs → u.ownBlock ≠ some g → w'.ownsRow base 3 1 u m xs := fun hu hne => hu.kept hg (.inr hne)
  refine ⟨?_, fun i hi => ?_, fun i hi => ?_, fun i j hi hj hij => ?_, fun i hi => ?_⟩
  · rw [List.range_succ, List.range_succ, List.map_append, List.map_append]
    have e : (List.range n).map (fun i => if i = n then x else if i = n + 1 then y else rs i) = (List.range n).map rs := List.map_congr_left fun i hi => by
      have := List.mem_range.1 hi
      rw [if_neg (by omega), if_neg (by omega)]
    rw [e]
    simpa using hr
  · by_cases e : i = n
    · simp only [if_pos e]; exact kp hx dg
    · by_cases e2 : i = n + 1
      · simp only [if_neg e, if_pos e2]; exact kp hy (by rw [hy0]; exact fun e => by cases e)
      · simp only [if_neg e, if_neg e2]; exact kp (h.row i (by omega)) (h.far i (by omega))
  · by_cases e : i = n
    · simp only [if_pos e]; exact lx
    · by_cases e2 : i = n + 1
      · simp only [if_neg e, if_pos e2]; exact ly
      · simp only [if_neg e, if_neg e2]; exact h.len i (by omega)
  · by_cases e : i = n
    · have e3 : j ≠ n := by omega
      simp only [if_pos e, if_neg e3]
      by_cases e2 : j = n + 1
      · simp only [if_pos e2, hy0]
        cases (slR x).ownBlock with
        | none => exact .inl rfl
        | some k => right; intro e; cases e
      · simp only [if_neg e2]; exact dx j (by omega)
    · by_cases e2 : i = n + 1
      · simp only [if_neg e, if_pos e2]; exact .inl hy0
      · simp only [if_neg e, if_neg e2]
        by_cases e3 : j = n
        · simp only [if_pos e3]
          rcases dx i (by omega) with q | q
          · cases hq : (slR (rs i)).ownBlock with
            | none => exact .inl rfl
            | some k => right; rw [q]; intro e; cases e
          · exact .inr (Ne.symm q)
        · by_cases e4 : j = n + 1
          · simp only [if_neg e3, if_pos e4, hy0]
            cases (slR (rs i)).ownBlock with
            | none => exact .inl rfl
            | some k => right; intro e; cases e
          · simp only [if_neg e3, if_neg e4]; exact h.dis i j (by omega) (by omega) hij
  · by_cases e : i = n
    · simp only [if_pos e]; exact ne hx dg
    · by_cases e2 : i = n + 1
      · simp only [if_neg e, if_pos e2]; rw [hy0]; intro e; cases e
      · simp only [if_neg e, if_neg e2]; exact ne (h.row i (by omega)) (h.far i (by omega))
end
set_option maxRecDepth 100000 in
set_option maxHeartbeats 2000000 in
/-- slices.Index of numbers. -/
theorem indexI2_any (a : Option Addr) (n c : Nat) (l : List Int) (v : Int) (w : World) (hn : l.length = n) (hN : n ≤ 1152921504606846976) (hA : Rd w a (fl encI l)) :
    Calls Tryz.prog 73 #[.slice a n c, .int .i64 v] w fun e w' => e = .returned (.int .i64 (idxF (fun x => decide (v = x)) l)) ∧ w' = w := by
  have HN := Lib.hid hn
  have HA := Lib.hid hA
  clear hn hA
  go_enter Tryz.func73, Tryz.ntmps73
  go_wp2_with fail
  go_loop [8] (fun x => ∃ k : Nat, k ≤ n ∧ x = .int .i64 k ∧ Hid (NoneBefore (fun x => decide (v = x)) l k)) (fun x => n - (intOf x).toNat)
  case atStart => exact ⟨0, by omega, rfl, NoneBefore.zero _ _⟩
  case round =>
    obtain ⟨k, hk, rfl, hNB⟩ := hrel
    by_cases hlt : k < n
    · obtain ⟨b, o, rfl, _, hc⟩ := rdI HA.out (by rw [HN.out]; omega)
      have G := hc k (by rw [HN.out]; exact hlt)
      have hx : iA l k = l[k]'(by rw [HN.out]; exact hlt) := by unfold iA; rw [List.getD_eq_getElem?_getD, List.getElem?_eq_getElem (by rw [HN.out]; exact hlt)]; rfl
      have HXX := Lib.hid hx
      clear hc hx
      obtain ⟨x, hx⟩ : ∃ x, x = iA l k := ⟨_, rfl⟩
      rw [← hx] at G HXX
      clear hx
      by_cases e : v = x
      · have d1 : (v == x) = true := by simp [e]
        have d2 : decide (v = x) = true := by simp [e]
        have HF : Hid (idxF (fun x => decide (v = x)) l = k) := hNB.out.found (by rw [HN.out]; exact hlt) (by rw [← HXX.out]; exact d2)
        clear e
        go_wp2_with fail
        go_ret
        exact ⟨by rw [HF.out]; rfl, rfl⟩
      · have d1 : (v == x) = false := by simp [e]
        have d2 : decide (v = x) = false := by simp [e]
        have HF : Hid (NoneBefore (fun x => decide (v = x)) l (k + 1)) := hNB.out.next (by rw [HN.out]; exact hlt) (by rw [← HXX.out]; exact d2)
        clear e
        go_wp2_with fail
        go_round
        case rel => exact ⟨k + 1, by omega, by go_num, HF⟩
        case measure => simp [intOf]; omega
    · have HF : Hid (idxF (fun x => decide (v = x)) l = -1) := hNB.out.none (by rw [HN.out]; omega)
      go_wp2_with fail
      go_ret
      exact ⟨by rw [HF.out]; rfl, rfl⟩
end Go.Proofs.YtjmnakkkimgifaaGreatDoor
namespace Go.Proofs.YtjmnakkkimgifaaGreatDoor
open Go Go.RowKit Go.Shelf
theorem okP_iff {t : List Nd} (h : okP t = true) : nP t 0 = -1 ∧ ∀ v, 0 < v → v < t.length → 0 ≤ nP t v ∧ nP t v < v := by
  unfold okP at h
  rw [Bool.and_eq_true, decide_eq_true_eq, List.all_eq_true] at h
  refine ⟨h.1, fun v h1 h2 => ?_⟩
  have := h.2 v (List.mem_range.2 h2)
  simp only [Bool.or_eq_true, Bool.and_eq_true, decide_eq_true_eq] at this
  omega
theorem okG_iff {t : List Nd} {v : Nat} (h : okG t v = true) : Sub (kG t t.length v) (sG t t.length v) ∧ (sG t t.length v).top = 0 ∧ (sG t t.length v).all.Perm (List.range (t.length + 2)) := by
  unfold okG at h
  simp only [Bool.and_eq_true, decide_eq_true_eq, List.isPerm_iff] at h
  exact ⟨subB_iff h.1.1.1, h.1.1.2, h.1.2⟩
theorem encR_one : ∀ x : Rw, ∀ u ∈ encR x, u.oneCell' = true := by
  intro x u hu
  simp [encR] at hu
  subst hu; rfl
theorem idxF_of {l : List Nat} {v : Nat} (h : v ∈ l) : idxF (fun x : Int => decide ((v : Int) = x)) (iN l) = (l.idxOf v : Int) := by
  unfold idxF
  have e : (iN l).any (fun x : Int => decide ((v : Int) = x)) = true := List.any_eq_true.2 ⟨(v : Int), List.mem_map.2 ⟨v, h, rfl⟩, by simp⟩
  rw [if_pos e]
  congr 1
  unfold List.idxOf iN
  rw [List.findIdx_map]
  congr 1
  funext x
  simp only [Function.comp]
  rw [Bool.eq_iff_iff, decide_eq_true_eq, beq_iff_eq]
  omega
theorem kG_up {t : List Nd} {n v p : Nat} (hp : nP t v = (p : Int)) (hpn : p < n) (hpv : p < v) (i : Nat) : kG t n v i = if i = p then ((if i = n then [v, n + 1] else if i = n + 1 then [] else famL t n i).set ((famL t n p).idxOf v) n) else if i = n then [v, n + 1] else if i = n + 1 then [] else famL t n i := by
  unfold kG
  rw [if_neg (by omega), show (nP t v).toNat = p by omega]
  by_cases e : i = p
  · subst e
    rw [if_neg (by omega), if_neg (by omega), if_pos rfl, if_pos rfl, if_neg (by omega), if_neg (by omega)]
  · rw [if_neg e, if_neg e]
/-- The root's number is turned. -/
def zN (n x : Nat) : Nat := if x = 0 then n else x
def S0 (t : List Nd) (n i : Nat) : List Nat := if i = n then [0, n + 1] else if i = n + 1 then [] else famL t n i
def S1 (t : List Nd) (n k i : Nat) : List Nat := if i < k then (S0 t n i).map (zN n) else S0 t n i
def mixZ (n : Nat) (l : List Nat) (i : Nat) : List Nat := (l.take i).map (zN n) ++ l.drop i
theorem mixZ_zero (n : Nat) (l : List Nat) : mixZ n l 0 = l := rfl
theorem mixZ_all {n : Nat} {l : List Nat} {i : Nat} (h : l.length ≤ i) : mixZ n l i = l.map (zN n) := by
  unfold mixZ
  rw [List.take_of_length_le h, List.drop_of_length_le h, List.append_nil]
theorem mixZ_len (n : Nat) (l : List Nat) (i : Nat) : (mixZ n l i).length = l.length := by
  unfold mixZ
  rw [List.length_append, List.length_map, List.length_take, List.length_drop]; omega
theorem mixZ_at {n : Nat} {l : List Nat} {i : Nat} (h : i < l.length) : vA (mixZ n l i) i = vA l i := by
  unfold vA mixZ
  rw [List.getD_eq_getElem?_getD, List.getD_eq_getElem?_getD, List.getElem?_append_right (by simp; omega), List.length_map, List.length_take, List.getElem?_drop]
  congr 2
  omega
theorem mixZ_next {n : Nat} {l : List Nat} {i : Nat} (h : i < l.length) : (mixZ n l i).set i (zN n (vA l i)) = mixZ n l (i + 1) := by
  unfold mixZ
  rw [List.set_append_right _ _ (by simp; omega), List.length_map, List.length_take, show i - min i l.length = 0 by omega, List.drop_eq_getElem_cons h, List.set_cons_zero, List.take_succ_eq_append_getElem h, List.map_append, List.append_assoc, vA_get h]
  rfl
theorem mixZ_same {n : Nat} {l : List Nat} {i : Nat} (h : i < l.length) (h0 : vA l i ≠ 0) : mixZ n l (i + 1) = mixZ n l i := by
  rw [← mixZ_next h]
  have e : zN n (vA l i) = vA (mixZ n l i) i := by rw [mixZ_at h]; exact if_neg h0
  rw [e, vA_get (by rw [mixZ_len]; exact h), List.set_getElem_self]
theorem map_zN {n : Nat} {l : List Nat} (h : ∀ x, x ∈ l → 0 < x) : l.map (zN n) = l := by
  have : l.map (zN n) = l.map id := List.map_congr_left fun x hx => if_neg (by have := h x hx; omega)
  rw [this, List.map_id]
theorem kG_root {t : List Nd} {n r : Nat} (hp : nP t 0 = -1) (h1 : 1 ≤ n) (hr : r < n + 2) : kG t n 0 r = S1 t n (n + 2) (swp 0 n r) := by
  have hf : ∀ v x, x ∈ famL t n v → 0 < x := fun v x hx => (fam_mem.1 hx).2.1
  have hs : swp 0 n r < n + 2 := by
    unfold swp
    by_cases e : r = 0
    · rw [if_pos e]; omega
    · rw [if_neg e]
      by_cases e2 : r = n
      · rw [if_pos e2]; omega
      · rw [if_neg e2]; omega
  unfold kG S1
  rw [if_pos (by omega), if_pos hs]
  unfold swp S0
  by_cases e : r = 0
  · rw [if_pos e, if_pos e, if_pos rfl]
    show _ = [zN n 0, zN n (n + 1)]
    unfold zN
    rw [if_pos rfl, if_neg (by omega)]
  · rw [if_neg e, if_neg e]
    by_cases e2 : r = n
    · rw [if_pos e2, if_pos e2, if_neg (by omega), if_neg (by omega), map_zN (hf 0)]
    · rw [if_neg e2, if_neg e2, if_neg e2]
      by_cases e3 : r = n + 1
      · rw [if_pos e3]; rfl
      · rw [if_neg e3, map_zN (hf r)]
set_option maxRecDepth 100000 in
set_option maxHeartbeats 4000000 in
theorem grown_any (b o n c v : Nat) (t : List Nd) (w : World) (hn : t.length = n) (h1 : 1 ≤ n) (hN : n ≤ 61) (hA : Rd w (some ⟨b, o, none⟩) (fl encNd t)) (hP : okP t = true) (hv : v < n) (hG : okG t v = true) :
    Calls Tryz.prog 46 #[.slice (some ⟨b, o, none⟩) n c, .int .i64 v] w fun e w' => ∃ g', e = .returned (.slice (some ⟨g', 0, none⟩) (n + 2) (n + 2)) ∧ w'.ownsRow w.heap.size 46 2 (.slice (some ⟨g', 0, none⟩) (n + 2) (n + 2)) (n + 2) (fl encNd (grownL t v)) ∧ Below w.heap.size w w' := by
  have HN := Lib.hid hn
  have hp := okP_iff hP
  have HP0 := Lib.hid hp.1
  have HP1 := Lib.hid hp.2
  have HG := Lib.hid (okG_iff hG)
  have HC := Lib.hid (cloneNd_any b o n c t w hn (by omega) (by omega) hA)
  have HA := Lib.hid hA
  rw [hn] at HP1 HG
  have hgl : Hid (grownL t v = numL (nG t) (lvK (kG t n v) (n + 2)) (sG t n v)) := by show _ = _; unfold grownL; rw [hn]
  clear hn hp hP hG hA
  go_enter Tryz.func46, Tryz.ntmps46
  go_wp2_with fail
  refine HC.out.mono ?_
  rintro e w2 ⟨g1, c1, rfl, ho, hb⟩
  have hbx := bl_alloc (Below.refl _ w2) (.cells #[.int .i64 0, .string ByteArray.empty, .int .i64 0, .string ByteArray.empty] 46)
  have hzx := Blk.new w2 #[.int .i64 0, .string ByteArray.empty, .int .i64 0, .string ByteArray.empty] 46
  have HO1 := Lib.hid (owns_below ho hbx)
  have HB1 := Lib.hid (bl_trans hb hbx)
  have HRZ : Hid (Rd (w2.alloc (.cells #[.int .i64 0, .string ByteArray.empty, .int .i64 0, .string ByteArray.empty] 46)) (some ⟨w2.heap.size, 0, none⟩) (fl encNd [(0, ByteArray.empty), (0, ByteArray.empty)])) := fun _ => by
    refine ⟨w2.heap.size, 0, rfl, hzx.lt, fun i hi => ?_⟩
    rw [hzx.cell (0 + i)]
    have : i < 4 := by simpa [fl, encNd] using hi
    match i, this with
    | 0, _ => rfl
    | 1, _ => rfl
    | 2, _ => rfl
    | 3, _ => rfl
  have hg1 := (ho.lt g1 rfl).1
  have HB0 := Lib.hid hb
  clear ho hb hbx hzx HC
  go_wp2_with (at_builtin; refine wpList_pushs (enc := encNd) (k := 2) (bytes := 24) rfl encNd_len (by decide) encNd_one (base := w.heap.size) Tryz.underlying25 info_Nd rfl (.tmp 15) (.tmp 18) rfl (.slice (some ⟨g1, 0, none⟩) n c1) t n HN.out.symm rfl HO1.out (some ⟨w2.heap.size, 0, none⟩) 2 2 [(0, ByteArray.empty), (0, ByteArray.empty)] rfl rfl HRZ.out (fun e => by cases e) (by omega) (by decide) HB1.out.size ?_; intro v5 w5 hw1 hw2 hw3; have H51 := Lib.hid hw1; have H52 := Lib.hid hw2; clear hw1 hw2 hw3)
  have HB5 : Hid (Below w.heap.size w w5) := bl_grown HB1.out H52.out (fun r e => by have := Option.some.inj (show some g1 = some r from e); omega)
  have HA5 := Lib.hid (HA.out.bl HB5.out)
  have HCH := Lib.hid (children_any (some ⟨b, o, none⟩) n c t w5 HN.out (by omega) HA5.out (fun v q1 q2 => by have := HP1.out v q1 q2; omega) (by rw [HP0.out]; omega))
  have H51' : Hid (w5.ownsRow w.heap.size 46 2 v5 (n + 2) (fl encNd (nG t))) := H51.out
  obtain ⟨a5, c5, hv5, hg5⟩ := owns_slice H51'.out
  obtain ⟨g5, hg5a, hg5b, rfl⟩ : ∃ g, w.heap.size ≤ g ∧ g < w5.heap.size ∧ a5 = some ⟨g, 0, none⟩ := by
    rcases hg5 with h | h
    · omega
    · exact h
  subst hv5
  clear H51 H52 HRZ HO1 HB1 HB0 hg1 hg5
  refine HCH.out.mono ?_
  rintro e w6 ⟨g, rs, rfl, hF, hb6⟩
  have HB6 := Lib.hid (bl_trans HB5.out hb6)
  have HA6 := Lib.hid (HA5.out.bl hb6)
  have HO6 := Lib.hid (owns_below H51'.out hb6)
  have hw56 := hb6.size
  have hg6 : w5.heap.size ≤ g ∧ g < w6.heap.size := hF.rows.lt g rfl
  have hbA := bl_alloc (Below.refl _ w6) (.cells #[.int .i64 v, .int .i64 ((n : Int) + 1)] 3)
  have hbB := bl_alloc hbA (.cells #[.slice (some ⟨w6.heap.size, 0, none⟩) 2 2, .slice none 0 0] 29)
  have hzB := Blk.new (w6.alloc (.cells #[.int .i64 v, .int .i64 ((n : Int) + 1)] 3)) #[.slice (some ⟨w6.heap.size, 0, none⟩) 2 2, .slice none 0 0] 29
  have hxo := owns_made (w := w6) (base := w5.heap.size) (e := 3) (k := 1) (n := 2) (cs := #[.int .i64 v, .int .i64 ((n : Int) + 1)]) hw56 rfl (by decide)
  simp only [World.size_alloc] at hzB
  obtain ⟨w7, hw7⟩ : ∃ x, x = (w6.alloc (.cells #[.int .i64 v, .int .i64 ((n : Int) + 1)] 3)).alloc (.cells #[.slice (some ⟨w6.heap.size, 0, none⟩) 2 2, .slice none 0 0] 29) := ⟨_, rfl⟩
  have hz7 : w7.heap.size = w6.heap.size + 1 + 1 := by rw [hw7]; simp only [World.size_alloc]
  have HXO : Hid (w7.ownsRow w5.heap.size 3 1 (.slice (some ⟨w6.heap.size, 0, none⟩) 2 2) [v, n + 1].length (fl encI (iN [v, n + 1]))) := by
    rw [hw7]
    exact owns_below hxo (bl_alloc (Below.refl _ _) _)
  rw [← hw7] at hbB hzB
  have HRB : Hid (Rd w7 (some ⟨w6.heap.size + 1, 0, none⟩) (fl encR [((some ⟨w6.heap.size, 0, none⟩, 2, 2) : Rw), (none, 0, 0)])) := fun _ => by
    refine ⟨w6.heap.size + 1, 0, rfl, hzB.lt, fun i hi => ?_⟩
    rw [hzB.cell (0 + i)]
    have : i < 2 := by simpa [fl, encR] using hi
    match i, this with
    | 0, _ => rfl
    | 1, _ => rfl
  have hF7 := hF.bl hbB
  have hFX : FamX w7 w5.heap.size g n n (fun v => famL t n v) rs := ⟨hF7.rows, hF7.row, hF7.len, hF7.dis, hF7.far⟩
  have hrl : ∀ i, i < n → ∀ B, (slR (rs i)).ownBlock = some B → B < w6.heap.size := fun i hi B e => ((hF.row i hi).lt B e).2
  have HF6 := Lib.hid hF
  have HFX := Lib.hid hFX
  have HRL := Lib.hid hrl
  have HB7 := Lib.hid hbB
  have HZ7 := Lib.hid hz7
  have HW7 := Lib.hid hw7
  clear hF hFX hF7 hrl hb6 hbA hbB hzB hxo hz7 hw7 HCH
  go_upto_region 4 with (at_builtin; rw [← HW7.out]; refine wpList_pushs (enc := encR) (k := 1) (bytes := 24) rfl encR_len (by decide) encR_one (base := w5.heap.size) Tryz.underlying68 info_R rfl (.tmp 26) (.tmp 30) rfl (.slice (some ⟨g, 0, none⟩) n n) ((List.range n).map rs) n (by simp) rfl HFX.out.rows (some ⟨w6.heap.size + 1, 0, none⟩) 2 2 [((some ⟨w6.heap.size, 0, none⟩, 2, 2) : Rw), (none, 0, 0)] rfl rfl HRB.out (fun e => by cases e) (by omega) (by decide) (by have := HZ7.out; omega) ?_; intro v8 w8 hw1 hw2 hw3; have H81 := Lib.hid hw1; have H82 := Lib.hid hw2; have H83 := Lib.hid hw3; clear hw1 hw2 hw3)
  obtain ⟨a8, c8, rfl, hg8⟩ := owns_slice H81.out
  obtain ⟨g8, hg8a, hg8b, rfl⟩ : ∃ g, w5.heap.size ≤ g ∧ g < w8.heap.size ∧ a8 = some ⟨g, 0, none⟩ := by
    rcases hg8 with h | h
    · omega
    · exact h
  have hX8 := FamX.add HFX.out (g' := g8) (c' := c8) (x := (some ⟨w6.heap.size, 0, none⟩, 2, 2)) (y := (none, 0, 0)) (X := [v, n + 1]) (Y := []) H81.out H82.out
    (by rcases H83.out with h | h
        · exact .inl (Option.some.inj (show some g8 = some g from h))
        · have := Option.some.inj (show some g8 = some w7.heap.size from h)
          right; omega)
    HXO.out (World.ownsRow_nil _ _ _ _) rfl rfl (fun i hi => .inr fun e => by have := HRL.out i hi w6.heap.size e.symm; omega) (fun e => by have := Option.some.inj (show some w6.heap.size = some g from e); omega) rfl
  obtain ⟨rs8, hrs8⟩ : ∃ f, f = fun i => if i = n then ((some ⟨w6.heap.size, 0, none⟩, 2, 2) : Rw) else if i = n + 1 then (none, 0, 0) else rs i := ⟨_, rfl⟩
  rw [← hrs8] at hX8
  have hb78 : Below w.heap.size w w8 := bl_grown (bl_trans HB6.out HB7.out) H82.out (fun r e => by have := Option.some.inj (show some g = some r from e); omega)
  have ho8 := (owns_below HO6.out HB7.out).kept H82.out (.inr fun e => by have := Option.some.inj (show some g5 = some g from e); omega)
  obtain ⟨bb, oo, he, hbw, hc8⟩ := rdNd (HA.out.bl hb78) (by rw [HN.out]; omega)
  cases he
  have G8 := (hc8 v (by rw [HN.out]; exact hv)).1
  have HX8 := Lib.hid hX8
  have HB8 := Lib.hid hb78
  have HO8 := Lib.hid ho8
  have hlt8 := HB8.out.size
  clear hX8 hrs8 hb78 ho8 hc8 H81 H82 H83 hg8 HB6 HA6 HO6 HF6 HFX HRL HB7 HZ7 HW7 HXO HRB H51' HA5 HB5 hbw
  by_cases hv0 : v = 0
  · have HV0 := Lib.hid hv0
    have hG8 : nP t v = -1 := by rw [hv0]; exact HP0.out
    rw [hG8] at G8
    clear hG8 hv0
    have HX8' : Hid (FamX w8 w5.heap.size g8 (n + 2) c8 (S1 t n 0) rs8) := HX8.out.congr fun i _ => by
      unfold S1 S0
      rw [if_neg (by omega), HV0.out]
    have HLS : Hid (∀ i, (S0 t n i).length ≤ 64) := fun i => by
      show _ ≤ _
      unfold S0
      by_cases e : i = n
      · rw [if_pos e]; simp
      · rw [if_neg e]
        by_cases e2 : i = n + 1
        · rw [if_pos e2]; simp
        · rw [if_neg e2]; have := famL_le t n i; omega
    clear HX8
    go_wp2_with fail
    go_loopw [56] (fun x wr => ∃ k : Nat, k ≤ n + 2 ∧ x = .int .i64 k ∧ Hid (FamX wr w5.heap.size g8 (n + 2) c8 (S1 t n k) rs8) ∧ Hid (Below w.heap.size w wr) ∧ Hid (wr.ownsRow w.heap.size 46 2 (.slice (some ⟨g5, 0, none⟩) (n + 2) c5) (n + 2) (fl encNd (nG t)))) (fun x _ => n + 2 - (intOf x).toNat)
    case atStart => exact ⟨0, by omega, rfl, HX8', HB8, HO8⟩
    case round =>
      clear HX8' HB8 HO8
      obtain ⟨k, hk, rfl, hX, hB, hO⟩ := hrel
      by_cases hlt : k < n + 2
      · have hls := HLS.out k
        have hS1 : Hid (S1 t n k k = S0 t n k) := if_neg (by omega)
        have e1 : wr.cell? ⟨g8, k, none⟩ = some (slR (rs8 k)) := hX.out.cell hlt
        have hl1 := hX.out.len k hlt
        rw [hS1.out] at hl1
        obtain ⟨⟨A, m, cp⟩, hx⟩ : ∃ x, x = rs8 k := ⟨_, rfl⟩
        rw [← hx] at e1 hl1
        have e2 : wr.cell? ⟨g8, k, none⟩ = some (.slice A m cp) := e1
        have hm : m = (S0 t n k).length := hl1
        have HRS := Lib.hid hx
        have HM := Lib.hid hm
        rw [← hm] at hls
        clear e1 hl1 hx hm
        go_wp2_with fail
        obtain ⟨wo, rfl⟩ : ∃ wo : World, wo = wr := ⟨_, rfl⟩
        have hX0 : Hid (FamX wo w5.heap.size g8 (n + 2) c8 (fun r => if r = k then mixZ n (S0 t n k) 0 else S1 t n k r) rs8) := hX.out.congr fun i _ => by
          by_cases e : i = k
          · rw [if_pos e, e, mixZ_zero, hS1.out]
          · rw [if_neg e]
        go_loopw [62] (fun x wr => ∃ i : Nat, i ≤ m ∧ x = .int .i64 i ∧ Hid (FamX wr w5.heap.size g8 (n + 2) c8 (fun r => if r = k then mixZ n (S0 t n k) i else S1 t n k r) rs8) ∧ Hid (Below w.heap.size w wr) ∧ Hid (wr.ownsRow w.heap.size 46 2 (.slice (some ⟨g5, 0, none⟩) (n + 2) c5) (n + 2) (fl encNd (nG t)))) (fun x _ => m - (intOf x).toNat)
        case atStart => exact ⟨0, by omega, rfl, hX0, hB, hO⟩
        case round =>
          clear hX0 hX hB hO e2
          obtain ⟨i, hi, rfl, hX, hB, hO⟩ := hrel
          by_cases hlt2 : i < m
          · obtain ⟨bp, cp', hrp, hbp, hbp2⟩ := hX.out.at (i := k) hlt (by simp only [if_pos]; rw [mixZ_len, ← HM.out]; omega)
            simp only [if_pos] at hrp
            rw [mixZ_len, ← HM.out, ← HRS.out] at hrp
            cases hrp
            have hrow := hX.out.row k hlt
            rw [← HRS.out] at hrow
            simp only [if_pos] at hrow
            rw [mixZ_len, ← HM.out] at hrow
            have hcv : wr.cell? ⟨bp, i, none⟩ = some (.int .i64 (vA (S0 t n k) i : Nat)) := by
              obtain ⟨b', o', e', _, h⟩ := rdI (rd_of_owns hrow) (by rw [iN_len, mixZ_len, ← HM.out]; omega)
              cases e'
              have h := h i (by rw [iN_len, mixZ_len, ← HM.out]; exact hlt2)
              rw [iN_get, mixZ_at (by rw [← HM.out]; exact hlt2), Nat.zero_add] at h; exact h
            have hfr : wr.frozen? ⟨bp, i, none⟩ = false := World.ownsRow.frozenAt hrow i
            have HNX := Lib.hid (mixZ_next (n := n) (l := S0 t n k) (i := i) (by rw [← HM.out]; exact hlt2))
            have HSM : Hid (vA (S0 t n k) i ≠ 0 → mixZ n (S0 t n k) (i + 1) = mixZ n (S0 t n k) i) := fun h => mixZ_same (by rw [← HM.out]; exact hlt2) h
            clear hrow
            obtain ⟨y, hy⟩ : ∃ y, y = vA (S0 t n k) i := ⟨_, rfl⟩
            rw [← hy] at hcv HNX HSM
            clear hy
            by_cases h0 : y = 0
            · have hz : Hid (zN n y = n) := if_pos h0
              subst h0
              go_wp2_with fail
              have hst := hX.out.setAt (i := k) (j := i) (v := n) (bi := bp) (cp := cp) hlt (by rw [← HRS.out]; simp only [if_pos]; rw [mixZ_len, ← HM.out])
              have hX2 : Hid (FamX (wr.setCell ⟨bp, i, none⟩ (.int .i64 n)) w5.heap.size g8 (n + 2) c8 (fun r => if r = k then mixZ n (S0 t n k) (i + 1) else S1 t n k r) rs8) := hst.congr fun r _ => by
                by_cases e : r = k
                · simp only [if_pos e, if_pos]
                  rw [← HNX.out, hz.out]
                · simp only [if_neg e]
              have hB2 : Hid (Below w.heap.size w (wr.setCell ⟨bp, i, none⟩ (.int .i64 n))) := bl_set hB.out _ _ _ _ (by omega)
              have hO2 : Hid ((wr.setCell ⟨bp, i, none⟩ (.int .i64 n)).ownsRow w.heap.size 46 2 (.slice (some ⟨g5, 0, none⟩) (n + 2) c5) (n + 2) (fl encNd (nG t))) := by
                refine ownsRow_setCell_other (a := ⟨bp, i, none⟩) hO.out (fun e => ?_) _
                have := Option.some.inj (show some g5 = some bp from e)
                omega
              clear hst hX hB hO hcv hfr
              go_roundw
              case rel => exact ⟨i + 1, by omega, by go_num, hX2, hB2, hO2⟩
              case measure => simp [intOf]; omega
            · have d1 : ((y : Int) == 0) = false := by simp; omega
              have d2 : decide ((y : Int) = 0) = false := by simp; omega
              have d3 : (y == 0) = false := by simp; omega
              have hX2 : Hid (FamX wr w5.heap.size g8 (n + 2) c8 (fun r => if r = k then mixZ n (S0 t n k) (i + 1) else S1 t n k r) rs8) := hX.out.congr fun r _ => by
                by_cases e : r = k
                · rw [if_pos e, if_pos e, HSM.out h0]
                · rw [if_neg e, if_neg e]
              clear h0 hX
              go_wp2_with fail
              go_roundw
              case rel => exact ⟨i + 1, by omega, by go_num, hX2, hB, hO⟩
              case measure => simp [intOf]; omega
          · have hX2 : Hid (FamX wr w5.heap.size g8 (n + 2) c8 (S1 t n (k + 1)) rs8) := hX.out.congr fun r _ => by
              by_cases e : r = k
              · rw [if_pos e, e, mixZ_all (by have := HM.out; omega)]
                exact if_pos (by omega)
              · rw [if_neg e]
                unfold S1
                by_cases e2 : r < k
                · rw [if_pos e2, if_pos (by omega)]
                · rw [if_neg e2, if_neg (by omega)]
            clear hX
            go_wp2_with fail
            go_roundw
            case rel => exact ⟨k + 1, by omega, by go_num, hX2, hB, hO⟩
            case measure => simp [intOf]; omega
      · obtain rfl : k = n + 2 := by omega
        obtain ⟨⟨A0, m0, p0⟩, hx0⟩ : ∃ x, x = rs8 0 := ⟨_, rfl⟩
        obtain ⟨⟨A1, m1, p1⟩, hx1⟩ : ∃ x, x = rs8 n := ⟨_, rfl⟩
        have c0 : wr.cell? ⟨g8, 0, none⟩ = some (.slice A0 m0 p0) := by have h := hX.out.cell (i := 0) (by omega); rw [← hx0] at h; exact h
        have c1 : wr.cell? ⟨g8, n, none⟩ = some (.slice A1 m1 p1) := by have h := hX.out.cell (i := n) (by omega); rw [← hx1] at h; exact h
        have f0 : wr.frozen? ⟨g8, 0, none⟩ = false := World.ownsRow.frozenAt hX.out.rows 0
        have f1 : wr.frozen? ⟨g8, n, none⟩ = false := World.ownsRow.frozenAt hX.out.rows n
        have hn0 : ¬ (0 = n) := by omega
        have hn0' : ¬ (n = 0) := by omega
        have hsw := hX.out.swap (i := 0) (j := n) (by omega) (by omega)
        have e0 : slR (rs8 0) = .slice A0 m0 p0 := by rw [← hx0]; rfl
        have e1 : slR (rs8 n) = .slice A1 m1 p1 := by rw [← hx1]; rfl
        rw [e0, e1] at hsw
        have hsw2 := hsw.congr (S' := kG t n v) (fun r hr => by
          rw [HV0.out, kG_root HP0.out h1 hr])
        have HSW := Lib.hid hsw2
        have HRS0 := Lib.hid hx0
        have HRS1 := Lib.hid hx1
        clear hsw hsw2 e0 e1 hx0 hx1
        go_upto_region 18 with fail
        go_region
        obtain ⟨w9, hw9⟩ : ∃ x, x = (wr.setCell ⟨g8, 0, none⟩ (.slice A1 m1 p1)).setCell ⟨g8, n, none⟩ (.slice A0 m0 p0) := ⟨_, rfl⟩
        have hbw9 : Below w.heap.size w w9 := by rw [hw9]; exact bl_set (bl_set hB.out _ _ _ _ (by omega)) _ _ _ _ (by omega)
        have ho9 : w9.ownsRow w.heap.size 46 2 (.slice (some ⟨g5, 0, none⟩) (n + 2) c5) (n + 2) (fl encNd (nG t)) := by
          rw [hw9]
          have hne : (Value.slice (some ⟨g5, 0, none⟩) (n + 2) c5).ownBlock ≠ some g8 := fun e => by
            have := Option.some.inj (show some g5 = some g8 from e)
            omega
          exact ownsRow_setCell_other (a := ⟨g8, n, none⟩) (ownsRow_setCell_other (a := ⟨g8, 0, none⟩) hO.out hne _) hne _
        rw [← hw9] at HSW ⊢
        have hbd : Below w9.heap.size w9 w9.drew := bl_drewN (Below.refl _ _) 1
        have HNB := Lib.hid (numbered_any (some ⟨g5, 0, none⟩) (n + 2) c5 g8 c8 (nG t) (kG t n v) (fun r => rs8 (swp 0 n r)) (sG t n v) w9.drew (by unfold nG; rw [List.length_append, HN.out]; rfl) (by omega) ((rd_of_owns ho9).bl hbd) (HSW.out.bl hbd).subR HG.out.1 HG.out.2.1 HG.out.2.2)
        have HB9 := Lib.hid (bl_trans hbw9 hbd)
        clear hbw9 ho9 hbd hw9 HSW hX hB hO c0 c1 f0 f1
        go_wp2_with fail
        refine HNB.out.mono ?_
        rintro e w10 ⟨g', rfl, ho, hb⟩
        have H1 := Lib.hid ho
        have H2 := Lib.hid hb
        clear ho hb
        go_wp2_with fail
        go_ret
        refine ⟨g', rfl, ?_, bl_trans HB9.out H2.out⟩
        rw [hgl.out]
        exact owns_mono H1.out HB9.out.size
  · obtain ⟨q1, q2⟩ := HP1.out v (by omega) hv
    obtain ⟨p, hp⟩ : ∃ p : Nat, nP t v = p := ⟨(nP t v).toNat, by omega⟩
    rw [hp] at G8 q2
    have hpv : p < v := by omega
    have hvm : v ∈ famL t n p := fam_mem.2 ⟨hv, by omega, hp⟩
    have hKU := kG_up hp (show p < n by omega) hpv
    have hS : (if p = n then [v, n + 1] else if p = n + 1 then [] else famL t n p) = famL t n p := by rw [if_neg (by omega), if_neg (by omega)]
    have hl0 : 0 < (famL t n p).length := List.length_pos_of_mem hvm
    obtain ⟨bp, cp, hrp, hbp, hbp2⟩ := HX8.out.at (i := p) (by omega) (by rw [hS]; exact hl0)
    rw [hS] at hrp
    have hid := idxF_of hvm
    have hlt2 := List.idxOf_lt_length_of_mem hvm
    have hm := famL_le t n p
    have e1 : w8.cell? ⟨g8, p, none⟩ = some (.slice (some ⟨bp, 0, none⟩) (famL t n p).length cp) := by have h := HX8.out.cell (i := p) (by omega); rw [hrp] at h; exact h
    have hrow := HX8.out.row p (by omega)
    rw [hrp] at hrow
    simp only [hS] at hrow
    have hrd := rd_of_owns hrow
    have HIDX : Hid (∀ k, Calls Tryz.prog 73 #[.slice (some ⟨bp, 0, none⟩) (famL t n p).length cp, .int .i64 v] (w8.drewN k) fun e w' => e = .returned (.int .i64 ((famL t n p).idxOf v : Nat)) ∧ ∃ j, w' = w8.drewN j) := fun k => by
      refine (indexI2_any (some ⟨bp, 0, none⟩) (famL t n p).length cp (iN (famL t n p)) v (w8.drewN k) (by rw [iN_len]) (by omega) (hrd.drewN k)).mono ?_
      rintro e w' ⟨rfl, rfl⟩
      exact ⟨by rw [hid], k, rfl⟩
    have f4 : ∀ nq, (w8.drewN nq).frozen? ⟨bp, (famL t n p).idxOf v, none⟩ = false := fun nq => World.ownsRow.frozenAt hrow _
    have HKU := Lib.hid hKU
    have HSS := Lib.hid hS
    have HRP := Lib.hid hrp
    have F4 := Lib.hid f4
    have hcv : ∃ u, w8.cell? ⟨bp, (famL t n p).idxOf v, none⟩ = some u := by
      obtain ⟨b', o', e', _, h⟩ := rdI hrd (by rw [iN_len]; exact hl0)
      cases e'
      exact ⟨_, by have h := h _ (show (famL t n p).idxOf v < (iN (famL t n p)).length by rw [iN_len]; exact hlt2); rw [Nat.zero_add] at h; exact h⟩
    obtain ⟨u, hu⟩ := hcv
    obtain ⟨m, hmm⟩ : ∃ m, m = (famL t n p).length := ⟨_, rfl⟩
    obtain ⟨id, hidx⟩ : ∃ id, id = (famL t n p).idxOf v := ⟨_, rfl⟩
    rw [← hmm] at e1 HIDX hlt2 HRP hm hl0
    rw [← hidx] at HIDX hlt2 F4 HKU hu
    have HMM := Lib.hid hmm
    clear hv0 hp hvm hKU hS hrp hid hrow hrd f4 hmm hidx q1
    go_wp2_with fail
    refine wp_quiet_tail_lit 12 (by kernel_rfl) (by kernel_rfl) ?_
    simp only [List.take_succ_cons, List.take_zero, List.drop_succ_cons, List.drop_zero]
    repeat (go_big_quiet_step (exact HIDX.out _))
    refine wpQuiet_nil ?_
    intro _ hw'
    obtain ⟨nq, hw''⟩ := hw'
    subst hw''
    try simp only [Act.put, List.setIfInBounds_toArray, List.set_cons_zero, List.set_cons_succ]
    have f4 := F4.out nq
    have c4 : (w8.drewN nq).cell? ⟨bp, id, none⟩ = some u := hu
    go_wp2_with fail
    have hXq : FamX (w8.drewN nq) w5.heap.size g8 (n + 2) c8 (fun i => if i = n then [v, n + 1] else if i = n + 1 then [] else famL t n i) rs8 := HX8.out.bl (bl_drewN (Below.refl _ _) nq)
    have hst := hXq.setAt (i := p) (j := id) (v := n) (bi := bp) (cp := cp) (by omega) (by rw [HSS.out, ← HMM.out]; exact HRP.out)
    have hst2 := hst.congr (S' := kG t n v) (fun i _ => by
      rw [HKU.out]
      by_cases e : i = p
      · rw [if_pos e, if_pos e, e]
      · rw [if_neg e, if_neg e])
    have hbS : Below w8.heap.size w8 ((w8.drewN nq).setCell ⟨bp, id, none⟩ (.int .i64 n)) ∨ True := .inr trivial
    have hbw9 : Below w.heap.size w ((w8.drewN nq).setCell ⟨bp, id, none⟩ (.int .i64 n)) := bl_set (bl_drewN HB8.out nq) _ _ _ _ (by omega)
    have ho9 : ((w8.drewN nq).setCell ⟨bp, id, none⟩ (.int .i64 n)).ownsRow w.heap.size 46 2 (.slice (some ⟨g5, 0, none⟩) (n + 2) c5) (n + 2) (fl encNd (nG t)) := by
      refine ownsRow_setCell_other (a := ⟨bp, id, none⟩) (owns_below HO8.out (bl_drewN (Below.refl _ _) nq)) (fun e => ?_) _
      have := Option.some.inj (show some g5 = some bp from e)
      omega
    have HNB := Lib.hid (numbered_any (some ⟨g5, 0, none⟩) (n + 2) c5 g8 c8 (nG t) (kG t n v) rs8 (sG t n v) _ (by unfold nG; rw [List.length_append, HN.out]; rfl) (by omega) (rd_of_owns ho9) hst2.subR HG.out.1 HG.out.2.1 HG.out.2.2)
    have HB9 := Lib.hid hbw9
    clear hXq hst hst2 hbS hbw9 ho9 f4 c4 HIDX F4 HKU hu
    refine HNB.out.mono ?_
    rintro e w10 ⟨g', rfl, ho, hb⟩
    have H1 := Lib.hid ho
    have H2 := Lib.hid hb
    clear ho hb
    go_wp2_with fail
    go_ret
    refine ⟨g', rfl, ?_, bl_trans HB9.out H2.out⟩
    rw [hgl.out]
    exact owns_mono H1.out HB9.out.size
end Go.Proofs.YtjmnakkkimgifaaGreatDoor
namespace Go.Proofs.YtjmnakkkimgifaaGreatDoor
open Go Go.RowKit Go.Shelf Go.Sort
/-- The first difference. -/
def cmpP : List Int → List Int → Int
  | x :: l, y :: m => if x = y then cmpP l m else x - y
  | _, _ => 0
theorem cmpP_diff {l m : List Int} {k : Nat} (h1 : k < l.length) (h2 : k < m.length) (hb : ∀ j, j < k → iA l j = iA m j) (hd : iA l k ≠ iA m k) : cmpP l m = iA l k - iA m k := by
  induction k generalizing l m with
  | zero =>
    cases l with
    | nil => cases h1
    | cons x l =>
      cases m with
      | nil => cases h2
      | cons y m => exact if_neg hd
  | succ k ih =>
    cases l with
    | nil => cases h1
    | cons x l =>
      cases m with
      | nil => cases h2
      | cons y m =>
        have h0 : x = y := hb 0 (by omega)
        show (if x = y then cmpP l m else x - y) = _
        rw [if_pos h0]
        exact ih (by simpa using h1) (by simpa using h2) (fun j hj => hb (j + 1) (by omega)) hd
theorem cmpP_same {l m : List Int} (hl : l.length = m.length) (hb : ∀ j, j < l.length → iA l j = iA m j) : cmpP l m = 0 := by
  induction l generalizing m with
  | nil => rfl
  | cons x l ih =>
    cases m with
    | nil => cases hl
    | cons y m =>
      have h0 : x = y := hb 0 (by simp)
      show (if x = y then cmpP l m else x - y) = _
      rw [if_pos h0]
      exact ih (by simpa using hl) (fun j hj => hb (j + 1) (by simpa using hj))
def parL (t : List Nd) : List Int := t.map (·.1)
theorem parL_at {t : List Nd} {k : Nat} : iA (parL t) k = nP t k := by
  unfold iA parL nP
  rw [List.getD_eq_getElem?_getD, List.getD_eq_getElem?_getD, List.getElem?_map]
  cases t[k]? <;> rfl
set_option maxHeartbeats 1000000 in
theorem cmp11_any (x y : Nd) (w : World) (hx : -1000 ≤ x.1 ∧ x.1 ≤ 1000) (hy : -1000 ≤ y.1 ∧ y.1 ≤ 1000) :
    Calls Tryz.prog 51 #[.agg #[.int .i64 x.1, .string x.2], .agg #[.int .i64 y.1, .string y.2]] w fun e w' => e = .returned (.int .i64 (x.1 - y.1)) ∧ w' = (w.alloc (.cells #[.int .i64 x.1, .string x.2] 46)).alloc (.cells #[.int .i64 y.1, .string y.2] 46) := by
  obtain ⟨p, s⟩ := x
  obtain ⟨q, u⟩ := y
  dsimp only at hx hy ⊢
  obtain ⟨h1, h2⟩ := hx
  obtain ⟨h3, h4⟩ := hy
  go_enter Tryz.func51, Tryz.ntmps51
  go_wp2_with fail
  go_ret
  exact ⟨rfl, rfl⟩
theorem bl_grow (w : World) (os : Array Obj) : Below w.heap.size w (grow w os) := ⟨rfl, rfl, rfl, by simp [grow], fun k hk => by simp [grow, Array.getElem?_append_left hk]⟩
set_option maxRecDepth 100000 in
set_option maxHeartbeats 4000000 in
theorem cmpFunc_any (a b : Option Addr) (n c d : Nat) (s t : List Nd) (w : World) (hs : s.length = n) (ht : t.length = n) (hN : n ≤ 1000) (hA : Rd w a (fl encNd s)) (hB : Rd w b (fl encNd t)) (hp : ∀ i, i < n → (-1000 ≤ nP s i ∧ nP s i ≤ 1000) ∧ -1000 ≤ nP t i ∧ nP t i ≤ 1000) :
    Calls Tryz.prog 50 #[.slice a n c, .slice b n d, .func (.func 51) #[] #[]] w fun e w' => e = .returned (.int .i64 (cmpP (parL s) (parL t))) ∧ ∃ os, w' = grow w os := by
  have HS := Lib.hid hs
  have HT := Lib.hid ht
  have HA := Lib.hid hA
  have HB := Lib.hid hB
  have HP := Lib.hid hp
  clear hs ht hA hB hp
  go_enter Tryz.func50, Tryz.ntmps50
  go_wp2_with fail
  go_loopw [13] (fun x wr => ∃ k : Nat, k ≤ n ∧ x = .int .i64 k ∧ Hid (∀ j, j < k → nP s j = nP t j) ∧ Hid (∃ os, wr = grow w os)) (fun x _ => n - (intOf x).toNat)
  case atStart => exact ⟨0, by omega, rfl, fun j h => absurd h (by omega), #[], (grow_empty w).symm⟩
  case round =>
    obtain ⟨k, hk, rfl, hE, hG⟩ := hrel
    have hbl : Below w.heap.size w wr := by
      obtain ⟨os, e⟩ := hG.out
      rw [e]; exact bl_grow w os
    by_cases hlt : k < n
    · obtain ⟨ba, oa, rfl, hba, hca⟩ := rdNd (HA.out.bl hbl) (by rw [HS.out]; omega)
      obtain ⟨bb, ob, rfl, hbb, hcb⟩ := rdNd (HB.out.bl hbl) (by rw [HT.out]; omega)
      obtain ⟨g1, g2⟩ := hca k (by rw [HS.out]; exact hlt)
      have hb8 := bl_alloc (Below.refl _ wr) (.cells #[.int .i64 (nP s k), .string (nS s k)] 46)
      obtain ⟨g3', g4'⟩ := hcb k (by rw [HT.out]; exact hlt)
      have g3 := (hb8.cell (p := ⟨bb, ob + k * 2, none⟩) hbb).trans g3'
      have g4 := (hb8.cell (p := ⟨bb, ob + k * 2 + 1, none⟩) hbb).trans g4'
      obtain ⟨⟨b1, b2⟩, b3, b4⟩ := HP.out k hlt
      have HC := Lib.hid (fun W => cmp11_any (nP s k, nS s k) (nP t k, nS t k) W ⟨b1, b2⟩ ⟨b3, b4⟩)
      clear hca hcb hb8 g3' g4' hbl
      obtain ⟨x, hx⟩ : ∃ x, x = nP s k := ⟨_, rfl⟩
      obtain ⟨y, hy⟩ : ∃ y, y = nP t k := ⟨_, rfl⟩
      obtain ⟨sx, hsx⟩ : ∃ x, x = nS s k := ⟨_, rfl⟩
      obtain ⟨sy, hsy⟩ : ∃ y, y = nS t k := ⟨_, rfl⟩
      rw [← hx] at g1 g3 g4 b1 b2 HC
      rw [← hy] at g3 b3 b4 HC
      rw [← hsx] at g2 g3 g4 HC
      rw [← hsy] at g4 HC
      have HX := Lib.hid hx
      have HY := Lib.hid hy
      clear hx hy hsx hsy
      go_wp2_with fail
      refine (HC.out _).mono ?_
      rintro e w5 ⟨rfl, rfl⟩
      dsimp only
      have HG4 : Hid (∃ os, ((((wr.alloc (.cells #[.int .i64 x, .string sx] 46)).alloc (.cells #[.int .i64 y, .string sy] 46)).alloc (.cells #[.int .i64 x, .string sx] 46)).alloc (.cells #[.int .i64 y, .string sy] 46)) = grow w os) := by
        obtain ⟨os, e⟩ := hG.out
        rw [e]
        simp only [alloc_eq_grow, grow_grow]
        exact ⟨_, rfl⟩
      by_cases hd : x = y
      · have d0 : x - y = 0 := by omega
        have HE2 : Hid (∀ j, j < k + 1 → nP s j = nP t j) := fun j hj => by
          by_cases e : j = k
          · rw [e, ← HX.out, ← HY.out, hd]
          · exact hE.out j (by omega)
        subst hd
        rw [Int.sub_self]
        clear d0 g1 g2 g3 g4 hG hE
        go_wp2_with fail
        go_roundw
        case rel => exact ⟨k + 1, by omega, by go_num, HE2, HG4⟩
        case measure => simp [intOf]; omega
      · have HD : Hid (cmpP (parL s) (parL t) = x - y) := by
          show _ = _
          have h := cmpP_diff (l := parL s) (m := parL t) (k := k) (by unfold parL; rw [List.length_map, HS.out]; exact hlt) (by unfold parL; rw [List.length_map, HT.out]; exact hlt) (fun j hj => by rw [parL_at, parL_at]; exact hE.out j hj) (by rw [parL_at, parL_at, ← HX.out, ← HY.out]; exact hd)
          rw [h, parL_at, parL_at, ← HX.out, ← HY.out]
        obtain ⟨z, hz⟩ : ∃ z, z = x - y := ⟨_, rfl⟩
        have hz0 : z ≠ 0 := by omega
        rw [← hz] at HD ⊢
        have d0 : (z == 0) = false := by simp [hz0]
        have d1 : (z != 0) = true := by simp [hz0]
        clear hz hz0 hd g1 g2 g3 g4 hG hE
        go_wp2_with fail
        go_ret
        exact ⟨by rw [HD.out]; rfl, HG4.out⟩
    · have HD : Hid (cmpP (parL s) (parL t) = 0) := cmpP_same (by unfold parL; rw [List.length_map, List.length_map, HS.out, HT.out]) (fun j hj => by
        rw [parL_at, parL_at]
        exact hE.out j (by unfold parL at hj; rw [List.length_map, HS.out] at hj; omega))
      clear hE hbl
      go_wp2_with fail
      go_ret
      exact ⟨by rw [HD.out]; rfl, hG.out⟩
end Go.Proofs.YtjmnakkkimgifaaGreatDoor
namespace Go.Proofs.YtjmnakkkimgifaaGreatDoor
open Go Go.RowKit Go.Shelf Go.Sort
section
variable {α : Type} [Inhabited α] {enc : α → Value}
theorem grownBy_sort {w : World} {g n : Nat} {os : Array Obj} (d : Array α) : w.grownBy (sortWorld enc w g 0 n d os) (some g) := by
  refine ⟨rfl, rfl, rfl, by simp [sortWorld], fun k hk hne => ?_⟩
  unfold sortWorld
  rw [heap_grow_old _ _ (by simpa using hk)]
  have : g ≠ k := fun e => hne (by rw [e])
  simp [putRow, mapBlock, Sort.ahead, Array.getElem?_modify, this]
theorem owns_sort {w : World} {base e n cap g N : Nat} {xs : List Value} {os : Array Obj} (h : w.ownsRow base e 1 (.slice (some ⟨g, 0, none⟩) n cap) n xs) (d : Array α) (hd : d.size = n) :
    (sortWorld enc w g 0 N d os).ownsRow base e 1 (.slice (some ⟨g, 0, none⟩) n cap) n (d.toList.map enc) := by
  rcases h.2 with ⟨hv, _⟩ | ⟨g', cap', cur, hv, hg, hh, hn, hmx, hcs, _⟩
  · cases hv
  · cases hv
    have hlt := (Array.getElem?_eq_some_iff.1 hh).1
    refine ⟨by simp; omega, .inr ⟨g, cap, putCells enc 0 d cur, rfl, hg, ?_, by omega, hmx, by simp [putCells, hcs], ?_⟩⟩
    · unfold sortWorld
      rw [heap_grow_old _ _ (by simpa using hlt)]
      simp [putRow, mapBlock, Sort.ahead, Array.getElem?_modify, hh, onCells]
    · apply List.ext_getElem?
      intro i
      by_cases hi : i < n
      · have h1 : i < cur.size := by omega
        have h2 : i < d.size := by omega
        simp [putCells, hi, h1, h2]
      · rw [List.getElem?_eq_none (by simp; omega), List.getElem?_eq_none (by simp; omega)]
theorem holds_of_owns {w : World} {base e n cap g : Nat} {d : Array α} (h : w.ownsRow base e 1 (.slice (some ⟨g, 0, none⟩) n cap) n (d.toList.map enc)) : Holds enc w g 0 d := by
  rcases h.2 with ⟨hv, _⟩ | ⟨g', cap', cur, hv, hg, hh, hn, hmx, hcs, ht⟩
  · cases hv
  · cases hv
    intro j hj
    have hl := h.1
    rw [List.length_map, Array.length_toList] at hl
    have h1 : j < cur.size := by omega
    have h2 : cur[j]? = some (enc d[j]!) := by
      have := congrArg (fun l => l[j]?) ht
      simp [show j < n by omega, h1, hj] at this
      simp [h1, hj, this]
    refine ⟨?_, ?_⟩
    · simp [World.cell?, hh, h2]
    · simp [World.frozen?, hh]
end
theorem cmpP_self : ∀ l : List Int, cmpP l l = 0
  | [] => rfl
  | x :: l => by
    show (if x = x then cmpP l l else x - x) = 0
    rw [if_pos rfl]; exact cmpP_self l
theorem asc_range : ∀ (l : List Nat) (a : Nat), l.Pairwise (· < ·) → (∀ x, x ∈ l → a ≤ x ∧ x < a + l.length) → l = List.range' a l.length
  | [], _, _, _ => rfl
  | x :: l, a, hp, hb => by
    obtain ⟨h1, h2⟩ := List.pairwise_cons.1 hp
    have hx := hb x (by simp)
    have ih := asc_range l (a + 1) h2 (fun y hy => by
      have := h1 y hy
      have := (hb y (by simp [hy])).2
      rw [List.length_cons] at this
      omega)
    have e : x = a := by
      cases l with
      | nil => rw [List.length_cons, List.length_nil] at hx; omega
      | cons y l =>
        have hy : y = a + 1 := by
          have := congrArg (fun l => l.head?) ih
          simpa [List.range'] using this
        have := h1 y (by simp)
        omega
    rw [List.length_cons, List.range'_succ, ← ih, e]
/-- What sorting by places gives (plain). -/
theorem sort_place {N : Nat} (pos : Fin N → Nat) (hp : ∀ i, pos i < N) (hi : ∀ i j, pos i = pos j → i = j) (L : List (Fin N)) (hL : L.Perm (List.finRange N)) (hs : L.Pairwise fun x y => ¬ pos y < pos x) : L.map pos = List.range N := by
  have h1 : L.Nodup := hL.nodup_iff.2 (List.nodup_finRange N)
  have hlen : (L.map pos).length = N := by rw [List.length_map, hL.length_eq, List.length_finRange]
  have h2 : (L.map pos).Pairwise (· < ·) := List.Pairwise.map pos (fun a b h => h) ((hs.and h1).imp fun {a b} h => by
    have h3 : pos a ≠ pos b := fun e => h.2 (hi a b e)
    omega)
  have h := asc_range (L.map pos) 0 h2 (fun x hx => by
    obtain ⟨i, _, rfl⟩ := List.mem_map.1 hx
    have := hp i
    omega)
  rw [hlen] at h
  rw [h, List.range_eq_range']
/-- The signs of the comparisons in a list in order. -/
def sgnB (S : List (List Int)) : Bool := (List.range S.length).all fun a => (List.range S.length).all fun b => decide (cmpP (S.getD a []) (S.getD b []) < 0) == decide (a < b)
theorem sgnB_iff {S : List (List Int)} (h : sgnB S = true) {a b : Nat} (ha : a < S.length) (hb : b < S.length) : cmpP (S.getD a []) (S.getD b []) < 0 ↔ a < b := by
  unfold sgnB at h
  have h1 := List.all_eq_true.1 (List.all_eq_true.1 h a (List.mem_range.2 ha)) b (List.mem_range.2 hb)
  rw [beq_iff_eq] at h1
  constructor
  · intro q; rw [decide_eq_true q] at h1; simpa using h1.symm
  · intro q; rw [decide_eq_true q] at h1; simpa using h1
theorem sgnB_inj {S : List (List Int)} (h : sgnB S = true) {a b : Nat} (ha : a < S.length) (hb : b < S.length) (e : S.getD a [] = S.getD b []) : a = b := by
  have h1 := sgnB_iff h ha hb
  have h2 := sgnB_iff h hb ha
  rw [e, cmpP_self] at h1 h2
  omega
/-- Where a list stands among those in order. -/
def plcS (S : List (List Int)) (p : List Int) : Nat := S.idxOf p
theorem plcS_at {S : List (List Int)} {p : List Int} (h : p ∈ S) : plcS S p < S.length ∧ S.getD (plcS S p) [] = p := by
  have h1 := List.idxOf_lt_length_of_mem h
  refine ⟨h1, ?_⟩
  unfold plcS
  rw [List.getD_eq_getElem?_getD, List.getElem?_eq_getElem h1, List.getElem_idxOf h1]
  rfl
set_option maxRecDepth 100000 in
set_option maxHeartbeats 4000000 in
theorem sortTs_any {w : World} {base N cap g m : Nat} {T : Nat → List Nd} {rs : Nat → Rw} (S : List (List Int)) (h : TsW w base (.slice (some ⟨g, 0, none⟩) (N + 1) cap) (N + 1) T rs) (hN : N < 1000000) (hm : ∀ i, i < N + 1 → (T i).length = m) (hm2 : m ≤ 1000)
    (hp : ∀ i, i < N + 1 → ∀ j, j < m → -1000 ≤ nP (T i) j ∧ nP (T i) j ≤ 1000) (hS : S.Perm ((List.range (N + 1)).map fun i => parL (T i))) (hg : sgnB S = true) :
    Calls Tryz.prog 48 #[.slice (some ⟨g, 0, none⟩) (N + 1) cap, .func (.func 49) #[] #[]] w fun e w' => e = .returned (.tuple #[]) ∧ (∃ rs' T', TsW w' base (.slice (some ⟨g, 0, none⟩) (N + 1) cap) (N + 1) T' rs' ∧ ∀ k, k < N + 1 → parL (T' k) = S.getD k [] ∧ ∃ i, i < N + 1 ∧ T' k = T i) ∧ ∀ a : World, a.heap.size ≤ base → Below a.heap.size a w → Below a.heap.size a w' := by
  have hSl : S.length = N + 1 := by rw [hS.length_eq, List.length_map, List.length_range]
  have hmem : ∀ i, i < N + 1 → parL (T i) ∈ S := fun i hi => hS.mem_iff.2 (List.mem_map.2 ⟨i, List.mem_range.2 hi, rfl⟩)
  have hnd : ((List.range (N + 1)).map fun i => parL (T i)).Nodup := by
    refine hS.nodup_iff.1 ?_
    refine List.pairwise_iff_getElem.2 fun i j hi hj hij e' => ?_
    have := sgnB_inj hg hi hj (by rw [List.getD_eq_getElem?_getD, List.getD_eq_getElem?_getD, List.getElem?_eq_getElem hi, List.getElem?_eq_getElem hj, e'])
    omega
  have hinj : ∀ i j, i < N + 1 → j < N + 1 → parL (T i) = parL (T j) → i = j := fun i j hi hj e => by
    have h1 := List.pairwise_iff_getElem.1 hnd
    rcases Nat.lt_trichotomy i j with q | q | q
    · exact absurd (by rw [List.getElem_map, List.getElem_map, List.getElem_range, List.getElem_range]; exact e) (h1 i j (by simpa using hi) (by simpa using hj) q)
    · exact q
    · exact absurd (by rw [List.getElem_map, List.getElem_map, List.getElem_range, List.getElem_range]; exact e.symm) (h1 j i (by simpa using hj) (by simpa using hi) q)
  have hplt : ∀ i : Fin (N + 1), plcS S (parL (T i)) < N + 1 := fun i => by have := (plcS_at (hmem i i.isLt)).1; omega
  have hpin : ∀ i j : Fin (N + 1), plcS S (parL (T i)) = plcS S (parL (T j)) → i = j := fun i j e => by
    have h1 := (plcS_at (hmem i i.isLt)).2
    have h2 := (plcS_at (hmem j j.isLt)).2
    rw [e, h2] at h1
    exact Fin.ext (hinj i j i.isLt j.isLt h1.symm)
  have hlt : ∀ i j : Fin (N + 1), ltOf (fun i j : Fin (N + 1) => cmpP (parL (T i)) (parL (T j))) i j = decide (plcS S (parL (T i)) < plcS S (parL (T j))) := fun i j => by
    unfold ltOf
    have h1 := plcS_at (hmem i i.isLt)
    have h2 := plcS_at (hmem j j.isLt)
    have := sgnB_iff hg h1.1 h2.1
    rw [h1.2, h2.2] at this
    rw [Bool.eq_iff_iff, decide_eq_true_eq, decide_eq_true_eq]
    exact this
  have hO : SWO (ltOf fun i j : Fin (N + 1) => cmpP (parL (T i)) (parL (T j))) :=
    ⟨fun x => by rw [hlt]; simp, fun x y z h1 h2 => by rw [hlt, decide_eq_true_eq] at *; omega, fun x y z h1 h2 => by rw [hlt, decide_eq_false_iff_not] at *; omega⟩
  have hT : ∀ x y : Fin (N + 1), (ltOf fun i j : Fin (N + 1) => cmpP (parL (T i)) (parL (T j))) x y = false → (ltOf fun i j : Fin (N + 1) => cmpP (parL (T i)) (parL (T j))) y x = false → x = y := fun x y h1 h2 => by
    rw [hlt, decide_eq_false_iff_not] at h1 h2
    exact hpin x y (by omega)
  obtain ⟨enc, henc⟩ : ∃ enc : Fin (N + 1) → Value, enc = fun i : Fin (N + 1) => slR (rs i.val) := ⟨_, rfl⟩
  have henc' : ∀ i : Fin (N + 1), enc i = slR (rs i.val) := fun i => by rw [henc]
  have hone : OneCell enc := fun i => by rw [henc']; rfl
  have hfl : ∀ L : List (Fin (N + 1)), fl encR (L.map fun i : Fin (N + 1) => rs i.val) = L.map enc := fun L => by
    induction L with
    | nil => rfl
    | cons x L ih =>
      show encR (rs x) ++ fl encR _ = enc x :: _
      rw [ih, henc']; rfl
  have hrng : (List.range (N + 1)).map rs = (List.finRange (N + 1)).map fun i : Fin (N + 1) => rs i.val := by
    apply List.ext_getElem?
    intro i
    by_cases hi : i < N + 1
    · simp [hi]
    · rw [List.getElem?_eq_none (by simp; omega), List.getElem?_eq_none (by simp; omega)]
  have hrows := h.rows
  rw [hrng, hfl] at hrows
  have hrows' : w.ownsRow base 25 1 (.slice (some ⟨g, 0, none⟩) (N + 1) cap) (N + 1) ((List.finRange (N + 1)).toArray.toList.map enc) := hrows
  have hsz : (List.finRange (N + 1)).toArray.size = N + 1 := by simp
  have hgb : base ≤ g ∧ g < w.heap.size := h.rows.lt g rfl
  have hcmp : CmpLays1 Tryz.prog 49 #[] enc (fun i j : Fin (N + 1) => cmpP (parL (T i)) (parL (T j))) g 0 (List.finRange (N + 1)).toArray.size w := by
    intro q os dk _ x y
    have hgr := grownBy_sort (enc := enc) (w := w) (g := g) (n := q) (os := os) dk
    obtain ⟨W, hW⟩ : ∃ W, W = sortWorld enc w g 0 q dk os := ⟨_, rfl⟩
    rw [← hW] at hgr ⊢
    have hrd : ∀ i, i < N + 1 → ∃ a c, rs i = (a, m, c) ∧ Rd W a (fl encNd (T i)) := fun i hi => by
      obtain ⟨a, c, e, hr⟩ := h.rd hi
      rw [hm i hi] at e
      refine ⟨a, c, e, rd_block hr hgr.size fun b o e2 hb => hgr.block b hb (fun e3 => ?_)⟩
      have e3 := Option.some.inj e3
      rcases h.far i hi with q | q
      · rw [e, e2] at q; cases q
      · exact q (by rw [e, e2, e3]; rfl)
    obtain ⟨a, c, ea, hra⟩ := hrd x x.isLt
    obtain ⟨b, d, eb, hrb⟩ := hrd y y.isLt
    have hC := Lib.hid (cmpFunc_any a b m c d (T x) (T y) W (hm x x.isLt) (hm y y.isLt) hm2 hra hrb (fun j hj => ⟨hp x x.isLt j hj, hp y y.isLt j hj⟩))
    rw [henc', henc', ea, eb]
    clear hW hgr hrd hra hrb ea eb
    show Calls Tryz.prog 49 #[.slice a m c, .slice b m d] W _
    go_enter Tryz.func49, Tryz.ntmps49
    go_wp2_with fail
    refine hC.out.mono ?_
    rintro e w2 ⟨rfl, hG⟩
    have HG := Lib.hid hG
    clear hG
    go_wp2_with fail
    go_ret
    obtain ⟨os, e⟩ := HG.out
    exact ⟨rfl, 0, os, e⟩
  have hR := Any.slices_SortFunc_total Tryz.sortTrees enc hone (fun i j : Fin (N + 1) => cmpP (parL (T i)) (parL (T j))) hO 49 #[] g 0 cap (List.finRange (N + 1)).toArray w (enters_of Tryz.func49 (by kernel_rfl) rfl) hcmp (holds_of_owns hrows') hgb.2 (by rw [hsz]; omega) hT
  rw [hsz] at hR
  refine hR.mono ?_
  rintro e w' ⟨rfl, q, os, rfl⟩
  obtain ⟨L, hL⟩ : ∃ L : List (Fin (N + 1)), L = (List.finRange (N + 1)).toArray.toList.mergeSort fun x y => !(ltOf fun i j : Fin (N + 1) => cmpP (parL (T i)) (parL (T j))) y x := ⟨_, rfl⟩
  rw [← hL]
  have hLp : L.Perm (List.finRange (N + 1)) := by rw [hL]; exact List.mergeSort_perm _ _
  have hLs : L.Pairwise fun x y : Fin (N + 1) => ¬ plcS S (parL (T y.val)) < plcS S (parL (T x.val)) := by
    rw [hL]
    have h1 := List.pairwise_mergeSort (le := fun x y => !(ltOf fun i j : Fin (N + 1) => cmpP (parL (T i)) (parL (T j))) y x) (fun a b c h1 h2 => by
      rw [Bool.not_eq_true'] at *
      rw [hlt, decide_eq_false_iff_not] at *
      omega) (fun a b => by
      rw [hlt, hlt, Bool.or_eq_true, Bool.not_eq_true', Bool.not_eq_true', decide_eq_false_iff_not, decide_eq_false_iff_not]
      omega) (List.finRange (N + 1)).toArray.toList
    exact h1.imp fun {a b} h => by
      rw [Bool.not_eq_true', hlt, decide_eq_false_iff_not] at h
      exact h
  have hpl := sort_place (fun i : Fin (N + 1) => plcS S (parL (T i))) hplt hpin L hLp hLs
  have hlen : L.length = N + 1 := by rw [hLp.length_eq, List.length_finRange]
  have hgr := grownBy_sort (enc := enc) (w := w) (g := g) (n := q) (os := os) L.toArray
  have hown := owns_sort (enc := enc) (N := q) (os := os) h.rows L.toArray (by simpa using hlen)
  have hat : ∀ k (hk : k < N + 1), plcS S (parL (T (L[k]'(by omega)))) = k := fun k hk => by
    have := congrArg (fun l => l[k]?) hpl
    simp only [List.getElem?_map, List.getElem?_eq_getElem (show k < L.length by omega), Option.map_some, List.getElem?_range hk] at this
    exact Option.some.inj this
  refine ⟨rfl, ⟨fun k => if hk : k < N + 1 then rs (L[k]'(by omega)) else (none, 0, 0), fun k => if hk : k < N + 1 then T (L[k]'(by omega)) else [], ⟨?_, fun i hi => ?_, fun i hi => ?_, fun i j hi hj hij => ?_, fun i hi => ?_⟩, fun k hk => ?_⟩, fun a ha hb => bl_grown hb hgr (fun r e => by have := Option.some.inj e; omega)⟩
  · have e : (List.range (N + 1)).map (fun k => if hk : k < N + 1 then rs (L[k]'(by omega)) else (none, 0, 0)) = L.map fun i : Fin (N + 1) => rs i.val := by
      apply List.ext_getElem?
      intro i
      by_cases hi : i < N + 1
      · simp [hi, show i < L.length by omega]
      · rw [List.getElem?_eq_none (by simp; omega), List.getElem?_eq_none (by simp; omega)]
    rw [e, hfl]
    exact hown
  · simp only [dif_pos hi]
    exact (h.row _ (Fin.isLt _)).kept hgr (h.far _ (Fin.isLt _))
  · simp only [dif_pos hi]
    exact h.len _ (Fin.isLt _)
  · simp only [dif_pos hi, dif_pos hj]
    refine h.dis _ _ (Fin.isLt _) (Fin.isLt _) fun e => hij ?_
    have h1 := hat i hi
    have h2 := hat j hj
    rw [← h1, ← h2, e]
  · simp only [dif_pos hi]
    exact h.far _ (Fin.isLt _)
  · simp only [dif_pos hk]
    refine ⟨?_, _, Fin.isLt _, rfl⟩
    have h1 := (plcS_at (hmem _ (L[k]'(by omega)).isLt)).2
    rw [hat k hk] at h1
    exact h1.symm
end Go.Proofs.YtjmnakkkimgifaaGreatDoor
namespace Go.Proofs.YtjmnakkkimgifaaGreatDoor
open Go Go.RowKit Go.Shelf
/-- A number below 100 as a text. -/
def dgB (i : Nat) : ByteArray := ⟨(Go.Lib.decDigits i).toArray⟩
theorem dgB_size (i : Nat) (h : i < 100) : (dgB i).size ≤ 2 := by
  have : (Go.Lib.decDigits i).length ≤ 2 := by
    rw [Go.Lib.decDigits]
    split
    · simp
    · rw [Go.Lib.decDigits, dif_pos (by omega)]; simp
  simp only [dgB, ByteArray.size, List.size_toArray]
  exact this
/-- The name of node v of a tree of m leaves. -/
def nmV (m v : Nat) : ByteArray := if v + 1 < m then ⟨#[73]⟩ ++ dgB v else ⟨#[76]⟩ ++ dgB (v + 1 - m)
def prtT (m : Nat) (ps : List Int) (u : Nat) : List Nd := (List.range ps.length).map fun v => (iA ps v, if v < u then nmV m v else ByteArray.empty)
def nmT (m : Nat) (ps : List Int) : List Nd := (List.range ps.length).map fun v => (iA ps v, nmV m v)
theorem prtT_len (m : Nat) (ps : List Int) (u : Nat) : (prtT m ps u).length = ps.length := by simp [prtT]
theorem prtT_zero (m : Nat) (ps : List Int) : prtT m ps 0 = mkN ps := by
  unfold prtT mkN
  apply List.ext_getElem?
  intro i
  by_cases hi : i < ps.length
  · simp [hi, iA]
  · rw [List.getElem?_eq_none (by simp; omega), List.getElem?_eq_none (by simp; omega)]
theorem prtT_all (m : Nat) (ps : List Int) {u : Nat} (h : ps.length ≤ u) : prtT m ps u = nmT m ps := by
  unfold prtT nmT
  refine List.map_congr_left fun v hv => ?_
  rw [if_pos (by have := List.mem_range.1 hv; omega)]
theorem parL_mkN (ps : List Int) : parL (mkN ps) = ps := by
  unfold parL mkN
  rw [List.map_map]
  have e : ((fun x : Nd => x.1) ∘ fun p : Int => ((p, ByteArray.empty) : Nd)) = id := rfl
  rw [e, List.map_id]
theorem parL_nmT (m : Nat) (ps : List Int) : parL (nmT m ps) = ps := by
  unfold parL nmT
  apply List.ext_getElem?
  intro i
  by_cases hi : i < ps.length
  · simp [hi, iA]
  · rw [List.getElem?_eq_none (by simp; omega), List.getElem?_eq_none (by omega)]
theorem nP_of_parL (t : List Nd) (j : Nat) : nP t j = iA (parL t) j := parL_at.symm
/-- No tree that grows has names. -/
theorem grownL_mkN (ps : List Int) (v : Nat) : grownL (mkN ps) v = mkN (parL (grownL (mkN ps) v)) := by
  have hS : ∀ u, nS (nG (mkN ps)) u = ByteArray.empty := fun u => by
    unfold nS nG mkN
    rw [List.getD_eq_getElem?_getD]
    by_cases h : u < ps.length
    · rw [List.getElem?_append_left (by simpa using h)]; simp [h]
    · rw [List.getElem?_append_right (by simpa using h), List.length_map]
      match u - ps.length with
      | 0 => rfl
      | 1 => rfl
      | q + 2 => rfl
  generalize mkN ps = t at *
  unfold grownL numL numS parL mkN
  simp only [List.map_append, List.map_map]
  congr 1
  · exact List.map_congr_left fun x _ => by simp only [Function.comp]; rw [hS]
  · exact List.map_congr_left fun x _ => by simp only [Function.comp]; rw [hS]
/-- What is known of the trees of k + 1 leaves. -/
theorem okS_at {A B : List (List Int)} {n : Nat} (h : okS A B n = true) {i : Nat} (hi : i < A.length) : (A.getD i []).length = n ∧ okP (mkN (A.getD i [])) = true ∧ ∀ v, v < n → okG (mkN (A.getD i [])) v = true := by
  unfold okS at h
  rw [Bool.and_eq_true, List.all_eq_true] at h
  have h1 := h.1 (A.getD i []) (by rw [List.getD_eq_getElem?_getD, List.getElem?_eq_getElem hi]; exact List.getElem_mem hi)
  rw [Bool.and_eq_true, Bool.and_eq_true, decide_eq_true_eq, List.all_eq_true] at h1
  exact ⟨h1.1.1, h1.1.2, fun v hv => h1.2 v (List.mem_range.2 hv)⟩
theorem flat_at {α β : Type} (f : α → List β) (n : Nat) (z : α) (y : β) : ∀ (A : List α), (∀ a, a ∈ A → (f a).length = n) → (A.flatMap f).length = A.length * n ∧ ∀ i v, i < A.length → v < n → (A.flatMap f).getD (i * n + v) y = (f (A.getD i z)).getD v y
  | [], _ => ⟨by simp, fun i v h => absurd h (by simp)⟩
  | a :: A, h => by
    have ha := h a (by simp)
    obtain ⟨h1, h2⟩ := flat_at f n z y A (fun b hb => h b (by simp [hb]))
    refine ⟨by rw [List.flatMap_cons, List.length_append, h1, ha, List.length_cons, Nat.add_mul]; omega, fun i v hi hv => ?_⟩
    rw [List.flatMap_cons, List.getD_eq_getElem?_getD]
    cases i with
    | zero =>
      rw [List.getElem?_append_left (by rw [ha]; omega), Nat.zero_mul, Nat.zero_add, List.getD_eq_getElem?_getD]; rfl
    | succ i =>
      rw [List.getElem?_append_right (by rw [ha, Nat.add_mul]; omega), ha, show (i + 1) * n + v - n = i * n + v by rw [Nat.add_mul]; omega, ← List.getD_eq_getElem?_getD]
      exact h2 i v (by simpa using hi) hv
theorem okS_next {A B : List (List Int)} {n : Nat} (h : okS A B n = true) : B.length = A.length * n ∧ ∀ i v, i < A.length → v < n → mkN (B.getD (i * n + v) []) = grownL (mkN (A.getD i [])) v := by
  have hl : ∀ a, a ∈ A → a.length = n := fun a ha => by
    unfold okS at h
    rw [Bool.and_eq_true, List.all_eq_true] at h
    have h1 := h.1 a ha
    rw [Bool.and_eq_true, Bool.and_eq_true, decide_eq_true_eq] at h1
    exact h1.1.1
  have hB : (A.flatMap fun ps => (List.range ps.length).map fun v => (grownL (mkN ps) v).map (·.1)) = B := by
    unfold okS at h
    rw [Bool.and_eq_true, decide_eq_true_eq] at h
    exact h.2
  obtain ⟨h1, h2⟩ := flat_at (fun ps : List Int => (List.range ps.length).map fun v => (grownL (mkN ps) v).map (·.1)) n ([] : List Int) ([] : List Int) A (fun a ha => by simp [hl a ha])
  rw [hB] at h1 h2
  refine ⟨h1, fun i v hi hv => ?_⟩
  rw [h2 i v hi hv, grownL_mkN]
  have hi2 : (A.getD i []).length = n := hl _ (by rw [List.getD_eq_getElem?_getD, List.getElem?_eq_getElem hi]; exact List.getElem_mem hi)
  rw [List.getD_eq_getElem?_getD, List.getElem?_map, List.getElem?_range (by omega)]
  rfl
/-- A row of v gets a text. -/
theorem fl_nd_setS (t : List Nd) (j : Nat) (s : ByteArray) : (fl encNd t).set (j * 2 + 1) (.string s) = fl encNd (t.set j (nP t j, s)) := by
  induction t generalizing j with
  | nil => simp [fl]
  | cons x t ih =>
    have e : ∀ (x : Nd) l, fl encNd (x :: l) = .int .i64 x.1 :: .string x.2 :: fl encNd l := fun x l => by simp [fl, encNd]
    cases j with
    | zero =>
      rw [Nat.zero_mul, Nat.zero_add]
      rw [e, List.set_cons_succ, List.set_cons_zero, List.set_cons_zero, e]
      rfl
    | succ j =>
      rw [show (j + 1) * 2 + 1 = (j * 2 + 1) + 1 + 1 by omega, e, List.set_cons_succ, List.set_cons_succ, List.set_cons_succ, ih, e]
      rfl
theorem TsW.setS {w : World} {base n : Nat} {v : Value} {T : Nat → List Nd} {rs : Nat → Rw} (h : TsW w base v n T rs) {i j b c : Nat} (hi : i < n) (hx : rs i = (some ⟨b, 0, none⟩, (T i).length, c)) (s : ByteArray) :
    TsW (w.setCell ⟨b, j * 2 + 1, none⟩ (.string s)) base v n (fun r => if r = i then (T i).set j (nP (T i) j, s) else T r) rs := by
  have hob : (slR (rs i)).ownBlock = some b := by rw [hx]; rfl
  refine ⟨?_, fun r hr => ?_, fun r hr => ?_, h.dis, h.far⟩
  · refine ownsRow_setCell_other (a := ⟨b, j * 2 + 1, none⟩) h.rows (fun e => ?_) _
    rcases h.far i hi with q | q
    · rw [hob] at q; cases q
    · exact q (by rw [hob, e])
  · by_cases e : r = i
    · subst e
      simp only [if_pos, List.length_set]
      have h1 := h.row r hr
      rw [hx] at h1 ⊢
      have h2 := (World.ownsRow.stored h1 (j * 2 + 1) (.string s)).1
      rw [fl_nd_setS] at h2
      exact h2
    · simp only [if_neg e]
      refine ownsRow_setCell_other (a := ⟨b, j * 2 + 1, none⟩) (h.row r hr) (fun e2 => ?_) _
      rcases h.dis r i hr hi e with h1 | h1
      · rw [h1] at e2; cases e2
      · exact h1 (by rw [hob]; exact e2)
  · by_cases e : r = i
    · subst e
      simp only [if_pos, List.length_set]; exact h.len r hr
    · simp only [if_neg e]; exact h.len r hr
theorem TsW.at {w : World} {base n : Nat} {v : Value} {T : Nat → List Nd} {rs : Nat → Rw} (h : TsW w base v n T rs) {i : Nat} (hi : i < n) (h0 : 0 < (T i).length) : ∃ b c, rs i = (some ⟨b, 0, none⟩, (T i).length, c) ∧ base ≤ b ∧ b < w.heap.size := by
  have h1 := h.row i hi
  have h2 := h.len i hi
  obtain ⟨x, hx⟩ : ∃ x, x = rs i := ⟨_, rfl⟩
  rw [← hx] at h1 h2 ⊢
  obtain ⟨A, m, cp⟩ := x
  have h2' : m = (T i).length := h2
  subst h2'
  obtain ⟨a', cap, he, h3⟩ := owns_slice h1
  rcases h3 with h3 | ⟨g', h4, h5, h6⟩
  · omega
  · have he' : Value.slice A (T i).length cp = .slice a' (T i).length cap := he
    injection he' with e1 e2 e3
    exact ⟨g', cp, by rw [e1, h6], h4, h5⟩
theorem prtT_set {m : Nat} {ps : List Int} {u : Nat} (hu : u < ps.length) : (prtT m ps u).set u (nP (prtT m ps u) u, nmV m u) = prtT m ps (u + 1) := by
  apply List.ext_getElem?
  intro i
  rw [List.getElem?_set]
  by_cases e : u = i
  · subst e
    rw [if_pos rfl, if_pos (by rw [prtT_len]; exact hu)]
    unfold prtT nP
    simp [hu]
  · rw [if_neg e]
    unfold prtT
    by_cases hi : i < ps.length
    · rw [List.getElem?_map, List.getElem?_map, List.getElem?_range hi]
      simp only [Option.map_some]
      by_cases q : i < u
      · rw [if_pos q, if_pos (by omega)]
      · rw [if_neg q, if_neg (by omega)]
    · rw [List.getElem?_eq_none (by simp; omega), List.getElem?_eq_none (by simp; omega)]
theorem nP_set {t : List Nd} {u : Nat} {p : Int} {s : ByteArray} (hu : u < t.length) : nP (t.set u (p, s)) u = p := by
  unfold nP
  rw [List.getD_eq_getElem?_getD, List.getElem?_set, if_pos rfl, if_pos hu]
  rfl
theorem prtT_set2 {m : Nat} {ps : List Int} {u : Nat} {s : ByteArray} (hu : u < ps.length) : ((prtT m ps u).set u (nP (prtT m ps u) u, s)).set u (nP ((prtT m ps u).set u (nP (prtT m ps u) u, s)) u, nmV m u) = prtT m ps (u + 1) := by
  rw [nP_set (by rw [prtT_len]; exact hu), List.set_set, prtT_set hu]
theorem trP_len (k : Nat) (h : k < 5) : 0 < (trP k).length ∧ (trP k).length ≤ 105 := by
  match k, h with
  | 0, _ => decide
  | 1, _ => decide
  | 2, _ => decide
  | 3, _ => decide
  | 4, _ => decide
set_option maxRecDepth 100000 in
theorem sgn_so (k : Nat) (h : k < 5) : sgnB (soP (k + 1)) = true := by
  match k, h with
  | 0, _ => decide +kernel
  | 1, _ => decide +kernel
  | 2, _ => decide +kernel
  | 3, _ => decide +kernel
  | 4, _ => decide +kernel
set_option maxRecDepth 100000 in
theorem trP_bd (k : Nat) (h : k < 5) : ((trP k).all fun ps => decide (ps.length = 2 * k + 1) && ps.all fun p => decide (-1 ≤ p) && decide (p ≤ 9)) = true := by
  match k, h with
  | 0, _ => decide +kernel
  | 1, _ => decide +kernel
  | 2, _ => decide +kernel
  | 3, _ => decide +kernel
  | 4, _ => decide +kernel
theorem trP_row {k i : Nat} (h : k < 5) (hi : i < (trP k).length) : ((trP k).getD i []).length = 2 * k + 1 ∧ ∀ j, -1 ≤ iA ((trP k).getD i []) j ∧ iA ((trP k).getD i []) j ≤ 9 := by
  have h1 := List.all_eq_true.1 (trP_bd k h) ((trP k).getD i []) (by rw [List.getD_eq_getElem?_getD, List.getElem?_eq_getElem hi]; exact List.getElem_mem hi)
  rw [Bool.and_eq_true, decide_eq_true_eq] at h1
  refine ⟨h1.1, fun j => ?_⟩
  unfold iA
  rw [List.getD_eq_getElem?_getD]
  cases hj : ((trP k).getD i [])[j]? with
  | none => exact ⟨by decide, by decide⟩
  | some x =>
    have hm : x ∈ (trP k).getD i [] := List.mem_of_getElem? hj
    have h2 := List.all_eq_true.1 h1.2 x hm
    rw [Bool.and_eq_true, decide_eq_true_eq, decide_eq_true_eq] at h2
    exact h2
/-- What Trees answers. -/
def trE (n : Int) : Int := if 1 ≤ n ∧ n ≤ 5 then 0 else 3
def trL (n : Int) : List (List Nd) := if 1 ≤ n ∧ n ≤ 5 then (soP n.toNat).map (nmT n.toNat) else []
end Go.Proofs.YtjmnakkkimgifaaGreatDoor
