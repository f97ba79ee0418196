/- A range over an iterator that turns a block of its own between two rounds (no program in sight). tree.check at every tree and node; tree.up's iterator. tree.Clade at a node of a tree. The sets of a tree's nodes: they fit one another; what is lost (plain). The longest lists without a conflict: plain facts for PhyloMost. The statement PhyloOnce: the walk. -/
import Derived.Test.YtnabbmdhhddfbaaDoorU4
import Derived.Test.YtnabbmdhhddfbaaDoorU7
import Derived.Test.YtnabbmdhhddfbaaDoorU9
import Derived.Test.YtnabbmdhhddfbaaDoorU2
import Derived.Test.YtnabbmdhhddfbaaDoorU8
namespace Go.Proofs.YtnabbmdhhddfbaaDoor
open Go Go.RowKit Go.Shelf
section law
variable {F : Fence} {n : Nat} {P : Program} {α : Type}
/-- An iterator's word: it gives xs, if what the caller holds is not turned by a store into block V. -/
def GivesV (F : Fence) (n : Nat) (P : Program) (gf : Nat) (lb : Array Value) (encs : α → Array Value) (Kp : World → World → Prop) (V : Nat) (xs : List α) (w : World) : Prop :=
  ∀ (l : Nat) (J : List α → World → Prop) (W : World), Below w.heap.size w W → (∀ pre W1 v, J pre W1 → J pre (W1.setCell ⟨V, 0, none⟩ v)) →
    (∀ pre x W1, J pre W1 → pre ++ [x] <+: xs → YieldAt F (n - 1) P l (encs x) W1 fun e W' => e = .returned (.bool true) ∧ J (pre ++ [x]) W' ∧ Kp W1 W') → J [] W →
    CallsIn F n P gf (#[.func (.yield l) #[] #[]] ++ lb) W fun e W' => (∃ v, e = .returned v) ∧ J xs W'
theorem wpIn_range_V {g : Operand} {ps : Array Tmp} {assign body : Code} {Q : Exit → Act → World → Prop} {a : Act} {w : World} (hro : F.round = none) (h1 : 1 ≤ n) {gf : Nat} {lb : Array Value}
    (hg : a.eval g = .func (.func gf) #[] lb) (hF : F.fn gf) (he : ∀ args W, (callFunc gf args).run P W = .ok (.enter gf args) W) {encs : α → Array Value} {Kp : World → World → Prop} {V : Nat} {xs : List α}
    (hseq : GivesV F (n - 1) P gf lb encs Kp V xs w) (hKt : ∀ {A B C : World}, Kp A B → Kp B C → Kp A C) (hKo : ∀ (W : World) (l : Nat) (o o' : Obj), w.heap.size ≤ l → W.heap[l]? = some o → o.isCells = false → Kp W (W.putObj l o'))
    (hV : V < w.heap.size) (hps : ∀ x, (encs x).size = ps.size) (I : List α → World → Prop) (hI : OwnFrom w.heap.size I) (hIV : ∀ pre W v, I pre W → I pre (W.setCell ⟨V, 0, none⟩ v)) (h0 : I [] w) (b : α → Act)
    (hassign : ∀ (l : Nat) (x : α) (W : World) (K : Act → World → Prop), K (b x) W → assign.wpIn (F.inRound l) (n - 1 - 1) P (Exit.then K fun _ _ _ => False) { tmps := (ps.zip (encs x)).foldl (fun t (p, v) => t.setIfInBounds p v) a.tmps, defers := [] } W)
    (hbody : ∀ (l : Nat) (pre : List α) (x : α) (W : World), I pre W → pre ++ [x] <+: xs → body.wpIn (F.inRound l) (n - 1 - 1) P (ownPostK Kp I (fun _ _ _ => False) (pre ++ [x]) W) (b x) W)
    (hdone : ∀ (D : Nat) (W : World), w.heap.size ≤ D → I xs W → W.heap[D]? = some (.deferred (some [])) → Q .normal { a with defers := { target := .collected D, args := #[] } :: a.defers } W) :
    (Code.rangeFunc g ps assign body).wpIn F n P Q a w := by
  apply wpIn_rangeFunc
  intro fn hfn
  rw [hro]
  -- the loop's record in its three states, and the two blocks' places
  let L : LoopState → Obj := fun s => .loop { state := s, pending := none, fn := fn, tmps := a.tmps, params := ps, assign := assign, body := body, defers := w.heap.size }
  have eD : ∀ W : World, W.heap.size = w.heap.size → True := fun _ _ => trivial
  obtain ⟨D, hD⟩ : ∃ D, D = w.heap.size := ⟨_, rfl⟩
  have hrun := run_enterLoop_outer (P := P) (w := w) fn a.tmps ps assign body
  let U : World := (w.alloc (.deferred (some []))).alloc (L .ready)
  have uD : U.heap[D]? = some (.deferred (some [])) := by
    rw [hD]
    exact (Below.heap_alloc (w.alloc (.deferred (some []))) (L .ready) _ (by simp)).trans (World.alloc_heap_new w _)
  have uL : U.heap[D + 1]? = some (L .ready) := by
    have h := World.alloc_heap_new (w.alloc (.deferred (some []))) (L .ready)
    rw [World.size_alloc, ← hD] at h; exact h
  have uB : Below w.heap.size w U := bl_alloc (bl_alloc (Below.refl _ _) _) _
  refine ⟨D + 1, [{ target := .collected D, args := #[] }], U, { target := .fn (.func gf) lb, args := #[.func (.yield (D + 1)) #[] #[]] }, U, gf, #[.func (.yield (D + 1)) #[] #[]] ++ lb, U, ?_, ?_, ?_, ?_, fun _ => h1, ?_⟩
  · rw [hD]; exact hrun
  · simp only [resolve, hg]; simp [go_sem]
  · intro f' hf'
    simp [Target.leads] at hf'
    rw [← hf']; exact hF
  · simp [invoke, go_sem, he]
  · -- what the caller holds between two rounds
    let J : List α → World → Prop := fun pre W => I pre W ∧ W.heap[D + 1]? = some (L .ready) ∧ W.heap[D]? = some (.deferred (some []))
    have put : ∀ {pre : List α} {W : World} (o o' : Obj), I pre W → W.heap[D + 1]? = some o → o.isCells = false → I pre (W.putObj (D + 1) o') := fun o o' h hl ho => hI.putObj o' h (by omega) hl ho
    refine (hseq (D + 1) J U uB ?_ ?_ ⟨?_, uL, uD⟩).mono ?_
    · rintro pre W v ⟨h, hl, hd⟩
      exact ⟨hIV pre W v h, (Below.heap_setCell W ⟨V, 0, none⟩ v (D + 1) (show D + 1 ≠ V by omega)).trans hl, (Below.heap_setCell W ⟨V, 0, none⟩ v D (show D ≠ V by omega)).trans hd⟩
    · rintro pre x W ⟨h, hl, hd⟩ hx
      have lt : D + 1 < W.heap.size := (Array.getElem?_eq_some_iff.1 hl).1
      refine ⟨fn, _, assign, body, run_yield hl (hps x), roundIn_of_wpIn hfn (hassign _ x W _ ⟨_, run_beginRound hl rfl, ?_⟩)⟩
      let W2 : World := W.putObj (D + 1) (L .busy)
      have hl2 : W2.heap[D + 1]? = some (L .busy) := World.putObj_heap_same lt
      have hd2 : W2.heap[D]? = some (.deferred (some [])) := (World.putObj_heap_other (by omega)).trans hd
      have k12 : Kp W W2 := hKo W (D + 1) _ _ (by omega) hl rfl
      refine wpIn_mono (hbody (D + 1) pre x W2 (put _ _ h hl rfl) hx) ?_
      intro e a3 W3 hp
      cases e with
      | normal =>
        obtain ⟨ko, k23, h3⟩ := hp
        have hl3 := ko.same _ _ hl2 rfl
        have hd3 := ko.same _ _ hd2 rfl
        have lt3 : D + 1 < W3.heap.size := (Array.getElem?_eq_some_iff.1 hl3).1
        refine ⟨_, _, run_endRound none hl3, rfl, ⟨put _ _ h3 hl3 rfl, World.putObj_heap_same lt3, (World.putObj_heap_other (by omega)).trans hd3⟩, ?_⟩
        exact hKt (hKt k12 k23) (hKo W3 (D + 1) _ _ (by omega) hl3 rfl)
      | ret => exact hp.2.elim
      | exit id => exact hp.2.elim
      | goto t => exact hp.2.elim
      | panic c => exact hp.elim
      | outgrown => exact hp.elim
    · exact hI.alloc _ (hI.alloc _ h0)
    · rintro e W2 ⟨⟨v, rfl⟩, h, hl, hd⟩
      refine ⟨none, _, run_endLoop hl (by simp), ?_⟩
      exact hdone D _ (by omega) (put _ _ h hl rfl) ((World.putObj_heap_other (by omega)).trans hd)
end law
/-- Whatever cells do not lie in block U lie as they lay. -/
def KpX (U : Nat) (W W' : World) : Prop := ∀ (B : Nat) (cs : Array Value) (t : TypeId) (fr : Nat × Nat), B ≠ U → W.heap[B]? = some (.cells cs t fr) → W'.heap[B]? = some (.cells cs t fr)
theorem KpX.refl (U : Nat) (W : World) : KpX U W W := fun _ _ _ _ _ h => h
theorem KpX.trans {U : Nat} {X Y Z : World} (h : KpX U X Y) (k : KpX U Y Z) : KpX U X Z := fun B cs t fr hB hx => k B cs t fr hB (h B cs t fr hB hx)
theorem KpX.put {U : Nat} (W : World) (l : Nat) (o o' : Obj) (h : W.heap[l]? = some o) (hc : o.isCells = false) : KpX U W (W.putObj l o') := fun B cs t fr _ hB => by
  have hg := grownBy_putObj' W l o'
  refine (hg.block B (Array.getElem?_eq_some_iff.1 hB).1 (fun e => ?_)).trans hB
  have := Option.some.inj e
  subst this
  rw [h] at hB
  cases hB
  cases hc
theorem KpX.set {U : Nat} (W : World) (i : Nat) (v : Value) : KpX U W (W.setCell ⟨U, i, none⟩ v) := fun B cs t fr hB hx => (Below.heap_setCell W ⟨U, i, none⟩ v B hB).trans hx
theorem KpX.blk {U : Nat} {W W' : World} (h : KpX U W W') {B : Nat} {cs : Array Value} {t : TypeId} (hB : B ≠ U) (hx : Blk W B cs t) : Blk W' B cs t := h B cs t _ hB hx
end Go.Proofs.YtnabbmdhhddfbaaDoor
namespace Go.Proofs.YtnabbmdhhddfbaaDoor
open Go Go.RowKit Go.Shelf
/-- What tree.check answers at one node. -/
def chkN (t : List Nd) (v : Int) : Int := if chkE t ≠ 0 then chkE t else if 0 ≤ v ∧ v < t.length then 0 else 3
set_option maxRecDepth 100000 in
set_option maxHeartbeats 1000000 in
theorem tcheck_any (a : Option Addr) (n c : Nat) (t : List Nd) (b : Option Addr) (cb : Nat) (v : Int) (w : World) (hn : t.length = n) (hN : n ≤ 1152921504606846976) (hA : Rd w a (fl encNd t)) (hB : Rd w b (fl encI [v])) (hS : ∀ v, v < n → (nS t v).size ≤ 9223372036854775807) :
    Calls Tryd.prog 59 #[.slice a n c, .slice b 1 cb] w fun e w' => e = .returned (.int .i64 (chkN t v)) ∧ Below w.heap.size w w' := by
  have HC := Lib.hid (check_any a n c t w hn hN hA hS)
  have HB := Lib.hid hB
  have HCN : Hid (chkN t v = if chkE t ≠ 0 then chkE t else if 0 ≤ v ∧ v < n then 0 else 3) := by show _ = _; unfold chkN; rw [hn]
  clear hn hA hB hS
  go_enter Tryd.func59, Tryd.ntmps59
  go_wp2_with fail
  refine HC.out.mono ?_
  rintro e w1 ⟨rfl, hb1⟩
  have HB1 := Lib.hid hb1
  have HR := Lib.hid (HB.out.bl hb1)
  clear hb1 HC HB
  by_cases h0 : chkE t = 0
  · rw [if_neg (fun h => h h0)] at HCN
    rw [h0]
    clear h0
    obtain ⟨b1, o1, rfl, _, hc1⟩ := rdI HR.out (by simp)
    have G := hc1 0 (by simp)
    have G0 : w1.cell? ⟨b1, o1, none⟩ = some (.int .i64 v) := G
    clear hc1 G
    go_wp2_with fail
    go_loopw [15] (fun x wr => ∃ k : Nat, k ≤ 1 ∧ x = .int .i64 k ∧ wr = w1 ∧ (k = 1 → 0 ≤ v ∧ v < n)) (fun x _ => 1 - (intOf x).toNat)
    case atStart => exact ⟨0, by omega, rfl, rfl, fun h => by omega⟩
    case round =>
      obtain ⟨k, hk, rfl, rfl, hv⟩ := hrel
      by_cases hlt : k < 1
      · obtain rfl : k = 0 := by omega
        by_cases q1 : v < 0
        · have d1 : decide (v < 0) = true := by simpa using q1
          have HV : Hid (chkN t v = 3) := by show _ = _; rw [HCN.out, if_neg (by omega)]
          clear q1 hv
          go_wp2_with fail
          go_ret
          exact ⟨by rw [HV.out] <;> rfl, HB1.out⟩
        · have d1 : decide (v < 0) = false := by simpa using q1
          by_cases q2 : v < n
          · have d2 : decide ((n : Int) ≤ v) = false := by simpa using q2
            have hv2 : 0 ≤ v ∧ v < n := by omega
            clear hv
            go_wp2_with fail
            go_roundw
            case rel => exact ⟨1, by omega, by go_num, by trivial, fun _ => hv2⟩
            case measure => simp [intOf] <;> omega
          · have d2 : decide ((n : Int) ≤ v) = true := by simp; omega
            have HV : Hid (chkN t v = 3) := by show _ = _; rw [HCN.out, if_neg (by omega)]
            clear q1 q2 hv
            go_wp2_with fail
            go_ret
            exact ⟨by rw [HV.out] <;> rfl, HB1.out⟩
      · obtain rfl : k = 1 := by omega
        have HV : Hid (chkN t v = 0) := by show _ = _; rw [HCN.out, if_pos (hv rfl)]
        clear hv
        go_wp2_with fail
        go_ret
        exact ⟨by rw [HV.out] <;> rfl, HB1.out⟩
  · have HV : Hid (chkN t v = chkE t) := by show _ = _; rw [HCN.out, if_pos h0]
    obtain ⟨E, hE⟩ : ∃ E, chkE t = E := ⟨_, rfl⟩
    rw [hE] at HV h0 ⊢
    have d0 : (E == 0) = false := by simp [h0]
    have d1 : (E != 0) = true := by simp [h0]
    clear hE h0 HCN
    go_wp2_with fail
    go_ret
    exact ⟨by rw [HV.out] <;> rfl, HB1.out⟩
theorem up_any (a : Option Addr) (n c : Nat) (v : Int) (w : World) :
    Calls Tryd.prog 60 #[.slice a n c, .int .i64 v] w fun e w' => e = .returned (.func (.func 79) #[] #[.pointer (some ⟨w.heap.size + 1, 0, none⟩), .pointer (some ⟨w.heap.size, 0, none⟩)]) ∧ w' = (w.alloc (.cells #[.slice a n c] 27)).alloc (.cells #[.int .i64 v] 3) := by
  go_enter Tryd.func60, Tryd.ntmps60
  go_wp2
  go_ret
  exact ⟨rfl, rfl⟩
theorem KpX.cell {U : Nat} {W W' : World} (h : KpX U W W') {p : Addr} (hp : p.block ≠ U) {v : Value} (hc : W.cell? p = some v) : W'.cell? p = some v := by
  have key : ∀ o, W.heap[p.block]? = some o → W'.heap[p.block]? = some o ∨ o.isCells = false := fun o ho => by
    cases o with
    | cells cs t fr => exact .inl (h p.block cs t fr hp ho)
    | _ => exact .inr rfl
  unfold World.cell? at hc ⊢
  cases ho : W.heap[p.block]? with
  | none => rw [ho] at hc; cases hc
  | some o =>
    rcases key o ho with h1 | h1
    · rw [h1]; rw [ho] at hc; exact hc
    · rw [ho] at hc
      cases o <;> first | (cases h1; done) | (simp at hc)
theorem cell_other {W : World} {b o V i : Nat} (h : b ≠ V) (v : Value) : (W.setCell ⟨V, i, none⟩ v).cell? ⟨b, o, none⟩ = W.cell? ⟨b, o, none⟩ := by
  unfold World.cell?
  rw [Below.heap_setCell W ⟨V, i, none⟩ v b h]
/-- V's number, as a measure. -/
def valV (V : Nat) (w : World) : Nat := match w.cell? ⟨V, 0, none⟩ with
  | some (.int _ x) => (x + 1).toNat
  | _ => 0
set_option maxRecDepth 100000 in
set_option maxHeartbeats 2000000 in
/-- tree.up's iterator gives the nodes on the way, the node first. -/
theorem up_gives (m n V T U c v : Nat) (a : Option Addr) (t : List Nd) (w : World) (hn : t.length = n) (hP : ∀ v, 0 < v → v < n → 0 ≤ nP t v ∧ nP t v < v) (h0 : nP t 0 = -1) (hv : v < n) (hm : 1 ≤ m)
    (hVB : Blk w V #[.int .i64 v] 3) (hTB : Blk w T #[.slice a n c] 27) (hR : Rd w a (fl encNd t)) (hVU : V ≠ U) (hTU : T ≠ U) (hVT : V ≠ T) (hbU : ∀ b o, a = some ⟨b, o, none⟩ → b ≠ U ∧ b ≠ V) :
    GivesV Fence.wide m Tryd.prog 79 #[.pointer (some ⟨V, 0, none⟩), .pointer (some ⟨T, 0, none⟩)] (fun x : Nat => #[.int .i64 x]) (KpX U) V (pthF t n v).reverse w := fun l J W hW hJV hY hJ0 => by
  obtain ⟨b, o, rfl, hb, hc⟩ := rdNd (hR.bl hW) (by omega)
  obtain ⟨hb1, hb2⟩ := hbU b o rfl
  have HY := Lib.hid hY
  have HN := Lib.hid hn
  have HP := Lib.hid hP
  have H0 := Lib.hid h0
  have HJ := Lib.hid hJ0
  have HJV := Lib.hid hJV
  have HV0 := Lib.hid (hVB.below hW)
  have HT0 := Lib.hid (hTB.below hW)
  have HC := Lib.hid (fun i (hi : i < n) => (hc i (by rw [hn]; exact hi)).1)
  clear hY hn hP h0 hJ0 hJV hVB hTB hR hc hbU hW
  refine callsIn_of_wp Tryd.func79 rfl trivial ?_ rfl
  simp only [Tryd.ntmps79, List.size_toArray, List.length_cons, List.length_nil, Nat.reduceAdd, Nat.reduceSub, Array.replicate_succ, Array.replicate_zero, List.push_toArray, List.append_toArray, List.nil_append, List.cons_append]
  gi_wp2
  gi_loopw [] (fun wx => ∃ (x : Int) (pre : List Nat), J pre wx ∧ Hid (Blk wx V #[.int .i64 x] 3) ∧ Hid (Blk wx T #[.slice (some ⟨b, o, none⟩) n c] 27) ∧ Hid (∀ i, i < n → wx.cell? ⟨b, o + i * 2, none⟩ = some (.int .i64 (nP t i))) ∧
    ((x = -1 ∧ pre = (pthF t n v).reverse) ∨ ∃ u : Nat, x = u ∧ u < n ∧ pre ++ (pthF t n u).reverse = (pthF t n v).reverse)) (fun wx => valV V wx)
  case atStart => exact ⟨v, [], HJ.out, HV0, HT0, HC, .inr ⟨v, rfl, hv, rfl⟩⟩
  case round =>
    clear HV0 HT0 HC HJ
    obtain ⟨x, pre, hJ, hV, hT, hC, h | ⟨u, rfl, hu, hpre⟩⟩ := hrel
    · obtain ⟨rfl, rfl⟩ := h
      have c1 : wr.cell? ⟨V, 0, none⟩ = some (.int .i64 (-1)) := hV.out.cell 0
      gi_wp2
      go_end0
      exact ⟨⟨_, rfl⟩, hJ⟩
    · have c1 : wr.cell? ⟨V, 0, none⟩ = some (.int .i64 u) := hV.out.cell 0
      have hsp : (pthF t n u).reverse = u :: (if u = 0 then [] else (pthF t n (nP t u).toNat).reverse) := by
        by_cases e : u = 0
        · subst e; rw [pth_zero, if_pos rfl]; rfl
        · rw [pth_succ HP.out (by omega) hu, if_neg e]; simp
      rw [hsp] at hpre
      have hpx : pre ++ [u] <+: (pthF t n v).reverse := ⟨_, by rw [← hpre]; simp; rfl⟩
      obtain ⟨fn, tmps, assign, body, hy, hR2⟩ := HY.out pre u wr hJ hpx
      have HPRE := Lib.hid hpre
      clear hpre hsp hpx
      gi_wp2
      refine hR2.mono ?_
      rintro e W3 ⟨rfl, hJ3, hk3⟩
      have hV3 := hk3.blk hVU hV.out
      have HT3 := Lib.hid (hk3.blk hTU hT.out)
      have HC3 : Hid (∀ i, i < n → W3.cell? ⟨b, o + i * 2, none⟩ = some (.int .i64 (nP t i))) := fun i hi => hk3.cell (p := ⟨b, o + i * 2, none⟩) hb1 (hC.out i hi)
      have e1 : W3.cell? ⟨V, 0, none⟩ = some (.int .i64 u) := hV3.cell 0
      have e2 : W3.cell? ⟨T, 0, none⟩ = some (.slice (some ⟨b, o, none⟩) n c) := HT3.out.cell 0
      have e3 := HC3.out u hu
      have f1 : W3.frozen? ⟨V, 0, none⟩ = false := hV3.free 0
      have HV3 := Lib.hid hV3
      have HM : Hid (valV V wr = u + 1) := by show _ = _; unfold valV; rw [c1]; show ((u : Int) + 1).toNat = u + 1; omega
      clear hV3 hk3 hV hT hC c1 hR2 hy hJ
      gi_wp2
      have hV4 : Hid (Blk (W3.setCell ⟨V, 0, none⟩ (.int .i64 (nP t u))) V #[.int .i64 (nP t u)] 3) := by
        have h := HV3.out.set 0 (.int .i64 (nP t u))
        show Blk _ _ _ _
        simpa using h
      have hT4 : Hid (Blk (W3.setCell ⟨V, 0, none⟩ (.int .i64 (nP t u))) T #[.slice (some ⟨b, o, none⟩) n c] 27) := HT3.out.other (Ne.symm hVT) _ _
      have hC4 : Hid (∀ i, i < n → (W3.setCell ⟨V, 0, none⟩ (.int .i64 (nP t u))).cell? ⟨b, o + i * 2, none⟩ = some (.int .i64 (nP t i))) := fun i hi => by
        rw [cell_other hb2]; exact HC3.out i hi
      have hM4 : Hid (valV V (W3.setCell ⟨V, 0, none⟩ (.int .i64 (nP t u))) = (nP t u + 1).toNat) := by
        show _ = _; unfold valV; rw [hV4.out.cell 0]; rfl
      have hJ4 := HJV.out _ _ (.int .i64 (nP t u)) hJ3
      go_roundw
      case rel =>
        refine ⟨nP t u, pre ++ [u], hJ4, hV4, hT4, hC4, ?_⟩
        by_cases e : u = 0
        · subst e
          left
          refine ⟨H0.out, ?_⟩
          rw [← HPRE.out, if_pos rfl]
        · right
          obtain ⟨p0, p1⟩ := HP.out u (by omega) hu
          refine ⟨(nP t u).toNat, by omega, by omega, ?_⟩
          rw [← HPRE.out, if_neg e]; simp
      case measure =>
        rw [hM4.out, HM.out]
        by_cases e : u = 0
        · subst e; rw [H0.out]; decide
        · obtain ⟨p0, p1⟩ := HP.out u (by omega) hu
          omega
end Go.Proofs.YtnabbmdhhddfbaaDoor
namespace Go.Proofs.YtnabbmdhhddfbaaDoor
open Go Go.RowKit Go.Shelf
attribute [local go_sem] Oper.semAt_some
/-- Blocks below w's end lie as they lay, but U and V. -/
structure But3 (U V : Nat) (w W : World) : Prop where
  os : W.os = w.os
  tape : W.tape = w.tape
  output : W.output = w.output
  size : w.heap.size ≤ W.heap.size
  block : ∀ k, k < w.heap.size → k ≠ U → k ≠ V → W.heap[k]? = w.heap[k]?
theorem But3.refl (U V : Nat) (w : World) : But3 U V w w := ⟨rfl, rfl, rfl, Nat.le_refl _, fun _ _ _ _ => rfl⟩
theorem But3.grown {U V : Nat} {w W W' : World} {row : Option Nat} (h : But3 U V w W) (hg : W.grownBy W' row) (hr : ∀ r, row = some r → w.heap.size ≤ r) : But3 U V w W' :=
  ⟨hg.os.trans h.os, hg.tape.trans h.tape, hg.output.trans h.output, Nat.le_trans h.size hg.size, fun k hk h1 h2 => (hg.block k (Nat.lt_of_lt_of_le hk h.size) (fun e => by have := hr k e.symm; omega)).trans (h.block k hk h1 h2)⟩
theorem But3.setV {U V : Nat} {w W : World} (h : But3 U V w W) (i : Nat) (v : Value) : But3 U V w (W.setCell ⟨V, i, none⟩ v) :=
  ⟨h.os, h.tape, h.output, by simp [World.setCell]; exact h.size, fun k hk h1 h2 => (Below.heap_setCell W ⟨V, i, none⟩ v k h2).trans (h.block k hk h1 h2)⟩
theorem But3.setU {U V : Nat} {w W : World} (h : But3 U V w W) (i : Nat) (v : Value) : But3 U V w (W.setCell ⟨U, i, none⟩ v) :=
  ⟨h.os, h.tape, h.output, by simp [World.setCell]; exact h.size, fun k hk h1 h2 => (Below.heap_setCell W ⟨U, i, none⟩ v k h1).trans (h.block k hk h1 h2)⟩
theorem But3.drewN {U V : Nat} {w W : World} (h : But3 U V w W) (n : Nat) : But3 U V w (W.drewN n) := ⟨h.os, h.tape, h.output, h.size, h.block⟩
/-- The set so far, with the k-th leaf if v is among the nodes. -/
def orK (A q v : Nat) (l : List Nat) : Nat := if v ∈ l then A ||| q else A
theorem orK_snoc (A q v : Nat) (l : List Nat) (x : Nat) : orK A q v (l ++ [x]) = if x = v then orK A q v l ||| q else orK A q v l := by
  unfold orK
  by_cases e : x = v
  · subst e
    by_cases h : x ∈ l
    · rw [if_pos (by simp), if_pos rfl, if_pos h]
      apply Nat.eq_of_testBit_eq
      intro i
      simp only [Nat.testBit_or, Bool.or_assoc, Bool.or_self]
    · rw [if_pos (by simp), if_pos rfl, if_neg h]
  · rw [if_neg e]
    by_cases h : v ∈ l
    · rw [if_pos (by simp [h]), if_pos h]
    · rw [if_neg (by simp [h]; exact fun h2 => e h2.symm), if_neg h]
/-- Clade's loop: the set so far, the deferred blocks of the ranges. -/
structure ClI (U : Nat) (w4 : World) (f : Nat) (Ds : List Nat) (W : World) : Prop where
  cu : Blk W U #[.int .u64 (f : Nat)] 44
  but : But3 U U w4 W
  ds : ∀ D ∈ Ds, w4.heap.size ≤ D ∧ W.heap[D]? = some (.deferred (some []))
  nd : Ds.Nodup
theorem But3.blk {U V : Nat} {w W : World} (h : But3 U V w W) {B : Nat} {cs : Array Value} {t : TypeId} (hx : Blk w B cs t) (h1 : B ≠ U) (h2 : B ≠ V) : Blk W B cs t := (h.block B hx.lt h1 h2).trans hx
theorem But3.cell {U V : Nat} {w W : World} (h : But3 U V w W) {p : Addr} (hp : p.block < w.heap.size) (h1 : p.block ≠ U) (h2 : p.block ≠ V) : W.cell? p = w.cell? p := by
  unfold World.cell?
  rw [h.block p.block hp h1 h2]
theorem But3.rd {U V : Nat} {w W : World} (h : But3 U V w W) {a : Option Addr} {cs : List Value} (hR : Rd w a cs) (hb : ∀ b o, a = some ⟨b, o, none⟩ → b ≠ U ∧ b ≠ V) : Rd W a cs := by
  intro h0
  obtain ⟨b, o, e, hlt, hc⟩ := hR h0
  obtain ⟨h1, h2⟩ := hb b o e
  exact ⟨b, o, e, Nat.lt_of_lt_of_le hlt h.size, fun i hi => (h.cell (p := ⟨b, o + i, none⟩) hlt h1 h2).trans (hc i hi)⟩
theorem ClI.next {U H f f' D : Nat} {w4 W w6 W' : World} {Ds : List Nat} (h : ClI U w4 f Ds W) (hU : U < w4.heap.size) (hH : H = W.heap.size) (h6 : Below W.heap.size W w6) (hb : But3 U (H + 1 + 1) w6 W') (hz : W.heap.size < w6.heap.size) (hu : Blk W' U #[.int .u64 (f' : Nat)] 44)
    (hD : w6.heap.size ≤ D) (hDD : W'.heap[D]? = some (.deferred (some []))) : ClI U w4 f' (D :: Ds) W' := by
  have hs := h.but.size
  have hs6 := h6.size
  have key : ∀ k, k < W.heap.size → k ≠ U → W'.heap[k]? = W.heap[k]? := fun k hk hku => (hb.block k (by omega) hku (by omega)).trans (h6.block k hk)
  refine ⟨hu, ⟨hb.os.trans (h6.os.trans h.but.os), hb.tape.trans (h6.tape.trans h.but.tape), hb.output.trans (h6.output.trans h.but.output), by have := hb.size; omega, fun k hk h1 _ => (key k (by omega) h1).trans (h.but.block k hk h1 h1)⟩, ?_, ?_⟩
  · intro D' hD'
    rcases List.mem_cons.1 hD' with rfl | hD'
    · exact ⟨by omega, hDD⟩
    · obtain ⟨d1, d2⟩ := h.ds D' hD'
      exact ⟨d1, (key D' (Array.getElem?_eq_some_iff.1 d2).1 (by omega)).trans d2⟩
  · refine List.nodup_cons.2 ⟨fun hx => ?_, h.nd⟩
    have := (Array.getElem?_eq_some_iff.1 (h.ds D hx).2).1
    omega
set_option maxRecDepth 100000 in
set_option maxHeartbeats 4000000 in
theorem clade_any (a : Option Addr) (n c v : Nat) (t : List Nd) (w : World) (hn : t.length = n) (hok : TreeOk t) (hL : (lvT t).length ≤ 64) (hv : v < n) (hA : Rd w a (fl encNd t)) (hS : ∀ v, v < n → (nS t v).size ≤ 9223372036854775807) :
    Calls Tryd.prog 33 #[.slice a n c, .int .i64 v] w fun e w' => e = .returned (.tuple #[.int .u64 (cl t v : Nat), .int .i64 0]) ∧ Below w.heap.size w w' := by
  have hn63 : n ≤ 63 := by have := hok.2.1; omega
  have hCN : chkN t v = 0 := by unfold chkN; rw [if_neg (fun h => h (chkE_good hok)), hn, if_pos (by omega)]
  have HPP : Hid (∀ v, 0 < v → v < n → 0 ≤ nP t v ∧ nP t v < v) := fun v h1 h2 => tree_par hok v h1 (by rw [hn]; exact h2)
  have HP0 : Hid (nP t 0 = -1) := by
    have h := hok.2.2 0 (by have := hok.1; omega)
    have h1 := h.1; have h2 := h.2.1
    show _ = _
    simp at h2; omega
  have HLL : Hid (lvT t = lvsL t n) := by show _ = _; unfold lvT; rw [if_pos (chkE_good hok), hn]
  have HLT : Hid (∀ k, k < (lvT t).length → vA (lvT t) k < n) := fun k hk => by
    rw [HLL.out] at hk ⊢
    exact (lvs_at t n k hk).1
  have hle : (lvT t).length ≤ n := by rw [HLL.out]; exact lvsL_le t n
  have HST : Hid (∀ k, k < (lvT t).length → clF t n v (k + 1) = orK (clF t n v k) (2 ^ k) v (pthF t n (vA (lvT t) k)).reverse) := fun k hk => by
    show (if _ then _ else _) = _
    unfold orK
    by_cases e : cmN t n (vA (lvT t) k) v = v
    · rw [if_pos e, if_pos (by rw [List.mem_reverse]; exact (cmN_iff HPP.out (HLT.out k hk) hv).1 e)]
    · rw [if_neg e, if_neg (by rw [List.mem_reverse]; exact fun h => e ((cmN_iff HPP.out (HLT.out k hk) hv).2 h))]
  have HLTC := Lib.hid (clF_lt t n v)
  have HFE := Lib.hid (clF_cl hn hok hv)
  obtain ⟨F, hF⟩ : ∃ F, clF t n v = F := ⟨_, rfl⟩
  have HF0 : Hid (F 0 = 0) := by show _ = _; rw [← hF]; rfl
  rw [hF] at HST HLTC HFE
  have hb0 := bl_alloc (bl_alloc (Below.refl _ w) (.cells #[.int .i64 v] 3)) (.cells #[.int .i64 v] 3)
  have HC := Lib.hid (tcheck_any a n c t (some ⟨w.heap.size + 1, 0, none⟩) 1 v ((w.alloc (.cells #[.int .i64 v] 3)).alloc (.cells #[.int .i64 v] 3)) hn (by omega) (hA.bl hb0) (by
    have hb := Blk.new2 w (.cells #[.int .i64 v] 3) #[.int .i64 v] 3
    intro _
    refine ⟨w.heap.size + 1, 0, rfl, hb.lt, fun i hi => ?_⟩
    obtain rfl : i = 0 := by simp [fl, encI] at hi; omega
    exact hb.cell 0) hS)
  rw [hCN] at HC
  have HN := Lib.hid hn
  have HA := Lib.hid (hA.bl hb0)
  have HV0 := Lib.hid ((Blk.new w #[.int .i64 v] 3).alloc (.cells #[.int .i64 v] 3))
  obtain ⟨ls, hls⟩ : ∃ x, x = lvT t := ⟨_, rfl⟩
  rw [← hls] at HLT hle HST hL HFE
  have HLS : Hid (ls = lvsL t n) := by show _ = _; rw [hls, HLL.out]
  obtain ⟨z, hz⟩ : ∃ x, x = ls.length := ⟨_, rfl⟩
  rw [← hz] at HLT hle HST hL HFE
  have HZ := Lib.hid hz
  clear hn hok hA hS hF hls hz HLL hCN
  refine (callsIn_wide (n := 10)).1 ?_
  refine callsIn_of_wp_marks Tryd.func33 rfl trivial ?_ rfl
  simp only [Tryd.ntmps33, List.size_toArray, List.length_cons, List.length_nil, Nat.reduceAdd, Nat.reduceSub, Array.replicate_succ, Array.replicate_zero, List.push_toArray, List.append_toArray, List.nil_append, List.cons_append]
  refine wpIn_wide.2 ?_
  go_wp2_with fail
  refine HC.out.mono ?_
  rintro e w2 ⟨rfl, hb2⟩
  have HB2 := Lib.hid (bl_trans hb0 hb2)
  have HR2 := Lib.hid (HA.out.bl hb2)
  have HV2 := Lib.hid (HV0.out.below hb2)
  obtain ⟨Bv, hBv⟩ : ∃ x, x = w.heap.size := ⟨_, rfl⟩
  rw [← hBv] at HV2 ⊢
  have HBV := Lib.hid hBv
  clear hb0 hb2 HC HA HV0 hBv
  go_wp2_with fail
  have hU := Blk.new w2 #[.int .u64 0] 44
  have hb3 := bl_alloc (Below.refl _ w2) (.cells #[.int .u64 0] 44)
  refine (leaves_any a n c t _ HN.out (by omega) (HR2.out.bl hb3) (fun v h1 h2 => by have := HPP.out v h1 h2; omega)).mono ?_
  rintro e w4 ⟨x4, rfl, ho4, hb4⟩
  rw [← HLS.out, ← HZ.out] at ho4
  obtain ⟨A4, c4, rfl, hA4⟩ := owns_slice ho4
  have HRL := Lib.hid (rd_of_owns ho4)
  have hU4 := hU.below hb4
  have HB4 := Lib.hid (bl_trans HB2.out (bl_trans hb3 hb4))
  have HR4 := Lib.hid (HR2.out.bl (bl_trans hb3 hb4))
  have HV4 := Lib.hid (HV2.out.below (bl_trans hb3 hb4))
  have hne : Bv < w2.heap.size := HV2.out.lt
  have hlow : Hid (∀ b o, a = some ⟨b, o, none⟩ → b < w2.heap.size) := fun b o e => by
    obtain ⟨b', o', e', hlt, _⟩ := rdNd HR2.out (by rw [HN.out]; omega)
    rw [e] at e'; cases e'; exact hlt
  have hws : w.heap.size ≤ w2.heap.size := HB2.out.size
  obtain ⟨U, hUe⟩ : ∃ U, U = w2.heap.size := ⟨_, rfl⟩
  have hA4' : Hid (∀ b o, A4 = some ⟨b, o, none⟩ → z ≠ 0 → U < b) := fun b o e hz0 => by
    rcases hA4 with h | ⟨g, hg1, hg2, e2⟩
    · exact absurd h hz0
    · rw [e2] at e; cases e; rw [World.size_alloc] at hg1; omega
  clear hA4
  rw [← hUe] at hU4 hne hlow hws ⊢
  have HU4 := Lib.hid hU4
  clear ho4 hb3 hb4 hU hU4 hUe
  go_wp2_with fail
  have hU4l : U < w4.heap.size := HU4.out.lt
  have HI0 : ClI U w4 (F 0) [] w4 := ⟨by rw [HF0.out]; exact HU4.out, But3.refl _ _ _, fun D h => (by cases h), List.nodup_nil⟩
  refine wp_loop_ghost_k (fun r act W => ∃ (k : Nat) (Ds : List Nat) (u : Nat → Value), r = z - k ∧ k ≤ z ∧ act = { tmps := #[.slice a n c, .int .i64 v, undef, .pointer (some ⟨Bv, 0, none⟩), .int .u64 0, .int .i64 0, .int .i64 0, .pointer (some ⟨U, 0, none⟩), u 8, u 9, u 10, .slice a n c, .int .i64 v, .slice (some ⟨Bv + 1, 0, none⟩) 1 1, .int .i64 0, .int .i64 0, .bool false, undef, .slice a n c, .slice A4 z c4, .int .i64 z, .int .i64 k, u 22, u 23, u 24, u 25, u 26, u 27, u 28, u 29, u 30, u 31, u 32, u 33, u 34, u 35, u 36, u 37, u 38], defers := dfs Ds } ∧ ClI U w4 (F k) Ds W) z ?start ?round
  case start => exact ⟨0, [], fun _ => undef, rfl, by omega, rfl, HI0⟩
  case round =>
    rintro r act W ⟨k, Ds, u, rfl, hk, rfl, hI⟩ J K hJ hK
    by_cases hlt : k < z
    · obtain ⟨b1, o1, rfl, hb1, hca⟩ := rdI (hI.but.rd HRL.out (fun b o e => by have := hA4'.out b o e (by omega); omega)) (by rw [iN_len, ← HZ.out]; omega)
      have G := hca k (by rw [iN_len, ← HZ.out]; exact hlt)
      rw [iN_get] at G
      have hyn := HLT.out k hlt
      have HSK := Lib.hid (HST.out k hlt)
      have hfk := HLTC.out k
      have h64 : 2 ^ k < 18446744073709551616 := Nat.pow_lt_pow_right (m := k) (n := 64) (by omega) (by omega)
      clear hca
      generalize vA ls k = y at *
      have HI := Lib.hid hI
      clear hI
      go_wp2_with fail
      refine (up_any a n c y _).mono ?_
      rintro e w6 ⟨rfl, rfl⟩
      obtain ⟨H, hH⟩ : ∃ H, H = W.heap.size := ⟨_, rfl⟩
      simp only [World.size_alloc]
      have hbK := ((Blk.new W #[.int .i64 k] 3).alloc (.cells #[.slice a n c] 27)).alloc (.cells #[.int .i64 y] 3)
      have hbT := (Blk.new2 W (.cells #[.int .i64 k] 3) #[.slice a n c] 27).alloc (.cells #[.int .i64 y] 3)
      have hbV := Blk.new ((W.alloc (.cells #[.int .i64 k] 3)).alloc (.cells #[.slice a n c] 27)) #[.int .i64 y] 3
      have hbl6 : Below W.heap.size W (((W.alloc (.cells #[.int .i64 k] 3)).alloc (.cells #[.slice a n c] 27)).alloc (.cells #[.int .i64 y] 3)) := bl_alloc (bl_alloc (bl_alloc (Below.refl _ _) _) _) _
      have hz6 : (((W.alloc (.cells #[.int .i64 k] 3)).alloc (.cells #[.slice a n c] 27)).alloc (.cells #[.int .i64 y] 3)).heap.size = H + 1 + 1 + 1 := by simp only [World.size_alloc, hH]
      simp only [World.size_alloc] at hbV
      obtain ⟨w6, hw6⟩ : ∃ x, x = (((W.alloc (.cells #[.int .i64 k] 3)).alloc (.cells #[.slice a n c] 27)).alloc (.cells #[.int .i64 y] 3)) := ⟨_, rfl⟩
      rw [← hw6] at hbK hbT hbV hbl6 hz6 ⊢
      rw [← hH] at hbK hbT hbV ⊢
      have HH := Lib.hid hH
      have HBK := Lib.hid hbK
      have HBT := Lib.hid hbT
      have HBV6 := Lib.hid hbV
      have HBL6 := Lib.hid hbl6
      have HZ6 := Lib.hid hz6
      have HUH : Hid (U < H) := by show _ < _; have := HI.out.but.size; omega
      have HU6 := Lib.hid (HI.out.cu.below hbl6)
      have HB6v := Lib.hid ((HI.out.but.blk HV4.out (by omega) (by omega)).below hbl6)
      have HR6 := Lib.hid ((HI.out.but.rd HR4.out (fun b o e => by have := hlow.out b o e; omega)).bl hbl6)
      clear hw6 hbK hbT hbV hbl6 hz6 hH G
      go_wp2_with fail
      refine (wpIn_wide (n := 10)).1 ?_
      refine wpIn_range_V rfl (by omega) (gf := 79) (lb := #[.pointer (some ⟨H + 1 + 1, 0, none⟩), .pointer (some ⟨H + 1, 0, none⟩)]) rfl trivial (enters_of Tryd.func79 (by kernel_rfl) rfl)
        (up_gives 9 n (H + 1 + 1) (H + 1) U c y a t w6 HN.out HPP.out HP0.out hyn (by omega) HBV6.out HBT.out HR6.out (by have := HUH.out; omega) (by have := HUH.out; omega) (by omega) (fun b o e => by have := hlow.out b o e; have := HUH.out; omega))
        KpX.trans (fun W l o o' _ h hc => KpX.put W l o o' h hc) (by have := HZ6.out; omega) (fun _ => rfl) (fun pre W' => Blk W' U #[.int .u64 (orK (F k) (2 ^ k) v pre : Nat)] 44 ∧ But3 U (H + 1 + 1) w6 W')
        (fun ys W W' row h hg hr => ⟨h.1.grown hg (fun e => by have := (hr U e.symm).1; have := HZ6.out; have := HUH.out; omega), h.2.grown hg (fun r e => (hr r e).1)⟩)
        (fun pre W' v' h => ⟨h.1.other (by have := HUH.out; omega) _ _, h.2.setV _ _⟩) ⟨by unfold orK; rw [if_neg (by simp)]; exact HU6.out, But3.refl _ _ _⟩
        (fun x => { tmps := #[.slice a n c, .int .i64 v, undef, .pointer (some ⟨Bv, 0, none⟩), .int .u64 0, .int .i64 0, .int .i64 0, .pointer (some ⟨U, 0, none⟩), .pointer (some ⟨H, 0, none⟩), .int .i64 y, .int .i64 (x : Int), .slice a n c, .int .i64 v, .slice (some ⟨Bv + 1, 0, none⟩) 1 1, .int .i64 0, .int .i64 0, .bool false, undef, .slice a n c, .slice (some ⟨b1, o1, none⟩) z c4, .int .i64 z, .int .i64 k, .bool true, .int .i64 k, .pointer (some ⟨b1, o1 + k, none⟩), .int .i64 y, .slice a n c, .int .i64 y, .func (.func 79) #[] #[.pointer (some ⟨H + 1 + 1, 0, none⟩), .pointer (some ⟨H + 1, 0, none⟩)], .int .i64 (x : Int), u 30, u 31, u 32, u 33, u 34, u 35, u 36, u 37, u 38], defers := [] }) ?assign ?body ?done
      case assign =>
        intro l x W' K hK
        gi_wp2
        exact hK
      case body =>
        rintro l pre x W' ⟨h1, h2⟩ _
        have hor := orK_snoc (F k) (2 ^ k) v pre x
        have hlt2 : orK (F k) (2 ^ k) v pre < 18446744073709551616 := by
          unfold orK
          split
          · exact Nat.or_lt_two_pow (n := 64) (by omega) h64
          · omega
        have hUl := HUH.out
        have hz6 := HZ6.out
        have c1 : W'.cell? ⟨Bv, 0, none⟩ = some (.int .i64 v) := (h2.blk HB6v.out (by omega) (by omega)).cell 0
        have c2 : W'.cell? ⟨U, 0, none⟩ = some (.int .u64 (orK (F k) (2 ^ k) v pre : Nat)) := h1.cell 0
        have c3 : W'.cell? ⟨H, 0, none⟩ = some (.int .i64 k) := (h2.blk HBK.out (by omega) (by omega)).cell 0
        have f2 : W'.frozen? ⟨U, 0, none⟩ = false := h1.free 0
        have HOR := Lib.hid hor
        have HB1 := Lib.hid h1
        have HB2 := Lib.hid h2
        clear hor h1 h2
        generalize orK (F k) (2 ^ k) v pre = A at *
        by_cases e : x = v
        · rw [if_pos e] at HOR
          have hbo := bits_or hlt2 h64
          have ew : ((2 : Int) ^ k) = ((2 ^ k : Nat) : Int) := by simp
          have HW : Hid (IntKind.u64.wrap (2 ^ k) = ((2 ^ k : Nat) : Int)) := by show _ = _; rw [ew, w64 _ h64]
          have hAU : ∀ nq, Blk ((W'.drewN nq).setCell ⟨U, 0, none⟩ (.int .u64 ((A ||| 2 ^ k : Nat) : Int))) U #[.int .u64 ((A ||| 2 ^ k : Nat) : Int)] 44 := fun nq => by
            have h := (HB1.out.drewN nq).set 0 (.int .u64 ((A ||| 2 ^ k : Nat) : Int))
            simpa using h
          have hAB : ∀ nq, But3 U (H + 1 + 1) w6 ((W'.drewN nq).setCell ⟨U, 0, none⟩ (.int .u64 ((A ||| 2 ^ k : Nat) : Int))) := fun nq => (HB2.out.drewN nq).setU _ _
          obtain ⟨r, hr⟩ : ∃ r, A ||| 2 ^ k = r := ⟨_, rfl⟩
          rw [hr] at hbo HOR hAU hAB
          obtain ⟨q, hq⟩ : ∃ q, 2 ^ k = q := ⟨_, rfl⟩
          rw [hq] at hbo HW
          have hw := HW.out
          have HAU := Lib.hid hAU
          have HAB := Lib.hid hAB
          have HE2 := Lib.hid e
          have HOX := HOR.out
          subst e
          clear hr hq ew hfk hlt2 hAU hAB HOR h64
          gi_wp2
          have hmo : Tryd.prog.follows .mixedOrders = true := by kernel_rfl
          gi_region_with_o (fail)
          all_goals exact ⟨(keeps_drewN W' 1).trans (KeepsOthers.setCell _ _ _), KpX.set (W'.drewN 1) 0 _, by rw [HOX]; exact HAU.out 1, HAB.out 1⟩
        · rw [if_neg e] at HOR
          have t1 : ((x : Int) == (v : Int)) = false := by simp; omega
          have t2 : decide ((x : Int) = (v : Int)) = false := by simp; omega
          clear e
          gi_wp2
          exact ⟨KeepsOthers.refl _, KpX.refl _ _, by rw [HOR.out]; exact HB1.out, HB2.out⟩
      case done =>
        rintro D W' hD ⟨h1, h2⟩ hKD
        have hNX := HI.out.next hU4l HH.out HBL6.out h2 (by have := HZ6.out; have := HH.out; omega) (by rw [← HSK.out] at h1; exact h1) hD hKD
        clear h1 h2 hKD
        simp only [Exit.inBlock, Exit.then]
        go_wp2_with fail
        exact Handed.intro (z - (k + 1)) (by omega) (hJ _ _ _ ⟨k + 1, D :: Ds, ex_u rfl (by omega) hNX rfl⟩)
    · obtain rfl : k = z := by omega
      have HI := Lib.hid hI
      have c1 : W.cell? ⟨U, 0, none⟩ = some (.int .u64 (F k : Nat)) := hI.cu.cell 0
      clear hI
      go_wp2_with fail
      refine leaves_all Ds _ HI.out.nd (fun D hD => (HI.out.ds D hD).2) fun w' ht => ⟨_, results_tmp2 rfl _ _ _, ?_⟩
      refine ⟨by rw [HFE.out]; rfl, ht.below ?_ fun D hD => by have := (HI.out.ds D hD).1; have := HB4.out.size; omega⟩
      have hb := HI.out.but
      exact ⟨hb.os.trans HB4.out.os, hb.tape.trans HB4.out.tape, hb.output.trans HB4.out.output, Nat.le_trans HB4.out.size hb.size, fun q hq => (hb.block q (by have := HB4.out.size; omega) (by omega) (by omega)).trans (HB4.out.block q hq)⟩
end Go.Proofs.YtnabbmdhhddfbaaDoor
namespace Go.Proofs.YtnabbmdhhddfbaaDoor
open Go Go.RowKit Go.Shelf
theorem tok_par {t : List Nd} {n : Nat} (hn : t.length = n) (hok : TreeOk t) : ∀ v, 0 < v → v < n → 0 ≤ nP t v ∧ nP t v < v := fun v h1 h2 => tree_par hok v h1 (by rw [hn]; exact h2)
theorem tok_root {t : List Nd} (hok : TreeOk t) : nP t 0 < 0 := (hok.2.2 0 (by have := hok.1; omega)).1
theorem tok_lv {t : List Nd} {n : Nat} (hn : t.length = n) (hok : TreeOk t) : lvT t = lvsL t n := by unfold lvT; rw [if_pos (chkE_good hok), hn]
theorem tok_bit {t : List Nd} {n k v : Nat} (hn : t.length = n) (hok : TreeOk t) (hk : k < (lvT t).length) (hv : v < n) : (cl t v).testBit k = true ↔ v ∈ pthF t n (vA (lvT t) k) := by
  rw [tok_lv hn hok] at hk ⊢
  exact cl_bit hn (tok_par hn hok) (tok_root hok) hk hv
theorem tok_leaf {t : List Nd} {n k : Nat} (hn : t.length = n) (hok : TreeOk t) (hk : k < (lvT t).length) : vA (lvT t) k < n ∧ leafB t (vA (lvT t) k) = true := by
  rw [tok_lv hn hok] at hk ⊢
  exact ⟨(lvs_at t n k hk).1, (lvs_at t n k hk).2.1⟩
theorem tok_lt {t : List Nd} {n v : Nat} (hn : t.length = n) (hok : TreeOk t) (hv : v < n) : cl t v < 2 ^ (lvT t).length := by
  rw [tok_lv hn hok]
  exact cl_lt (n := (lvsL t n).length) (by rw [hn]; exact Nat.le_refl _) v (by rw [hn]; exact hv)
theorem bit_lt {x k m : Nat} (hx : x < 2 ^ m) (h : x.testBit k = true) : k < m := by
  rcases Nat.lt_or_ge k m with q | q
  · exact q
  · have hp : 2 ^ m ≤ 2 ^ k := Nat.pow_le_pow_right (by omega) q
    rw [Nat.testBit_lt_two_pow (by omega)] at h; cases h
/-- What lies below has fewer leaves. -/
theorem cl_sub {t : List Nd} {n u v : Nat} (hn : t.length = n) (hok : TreeOk t) (hv : v < n) (h : u ∈ pthF t n v) : cl t u &&& cl t v = cl t v := by
  have hP := tok_par hn hok
  have hu : u < n := Nat.lt_of_le_of_lt (pth_lt hP v v (Nat.le_refl _) hv u h) hv
  apply Nat.eq_of_testBit_eq
  intro k
  rw [Nat.testBit_and]
  cases hb : (cl t v).testBit k with
  | false => simp
  | true =>
    have hk := bit_lt (tok_lt hn hok hv) hb
    have h1 := (tok_bit hn hok hk hv).1 hb
    have h2 := (pth_prefix hP _ _ (Nat.le_refl _) (tok_leaf hn hok hk).1 h1).subset h
    rw [(tok_bit hn hok hk hu).2 h2]; rfl
theorem sub_bit {a b k : Nat} (h : a &&& b = b) (hb : b.testBit k = true) : a.testBit k = true := by
  have := congrArg (fun y => y.testBit k) h
  simp only [Nat.testBit_and, hb, Bool.and_true] at this
  exact this
/-- Two nodes with a common leaf: the one with the smaller number is above. -/
theorem cl_chain {t : List Nd} {n u v k : Nat} (hn : t.length = n) (hok : TreeOk t) (hu : u < n) (hv : v < n) (h1 : (cl t u).testBit k = true) (h2 : (cl t v).testBit k = true) (huv : u ≤ v) : u ∈ pthF t n v := by
  have hk := bit_lt (tok_lt hn hok hu) h1
  exact pth_chain (tok_par hn hok) _ _ (Nat.le_refl _) (tok_leaf hn hok hk).1 u v ((tok_bit hn hok hk hu).1 h1) ((tok_bit hn hok hk hv).1 h2) huv
theorem and_bit {a b : Nat} (h : a &&& b ≠ 0) : ∃ k, a.testBit k = true ∧ b.testBit k = true := by
  obtain ⟨k, hk⟩ := bit_of_ne h
  rw [Nat.testBit_and, Bool.and_eq_true] at hk
  exact ⟨k, hk⟩
/-- The sets of two nodes fit. -/
theorem cl_fit {t : List Nd} {n u v : Nat} (hn : t.length = n) (hok : TreeOk t) (hu : u < n) (hv : v < n) : fitB (cl t u) (cl t v) = true := by
  unfold fitB
  by_cases h0 : cl t u &&& cl t v = 0
  · rw [decide_eq_true h0]; rfl
  · obtain ⟨k, h1, h2⟩ := and_bit h0
    rcases Nat.le_total u v with q | q
    · have := cl_sub hn hok hv (cl_chain hn hok hu hv h1 h2 q)
      rw [decide_eq_true this]; simp
    · have := cl_sub hn hok hu (cl_chain hn hok hv hu h2 h1 q)
      rw [Nat.and_comm] at this
      rw [decide_eq_true this]; simp
theorem leaf_end {t : List Nd} {n l : Nat} (hn : t.length = n) (hok : TreeOk t) (hl : leafB t l = true) : ∀ k y, y ≤ k → y < n → l ∈ pthF t n y → y = l := by
  have hP := tok_par hn hok
  intro k
  induction k with
  | zero =>
    intro y hy hyn h
    obtain rfl : y = 0 := by omega
    rw [pth_zero, List.mem_singleton] at h; exact h.symm
  | succ k ih =>
    intro y hy hyn h
    by_cases e : y = 0
    · subst e; rw [pth_zero, List.mem_singleton] at h; exact h.symm
    · obtain ⟨h1, h2⟩ := hP y (by omega) hyn
      rw [pth_succ hP (by omega) hyn, List.mem_append] at h
      rcases h with h | h
      · have e2 := ih (nP t y).toNat (by omega) (by omega) h
        have hk : kidB t l y = true := by unfold kidB; rw [decide_eq_true (by omega), decide_eq_true (by omega)]; rfl
        rw [leafB_in] at hl
        have : inB t t.length l = true := List.any_eq_true.2 ⟨y, List.mem_range.2 (by omega), hk⟩
        rw [this] at hl; cases hl
      · rw [List.mem_singleton] at h; exact h.symm
theorem leaf_at {t : List Nd} {n l : Nat} (hn : t.length = n) (hok : TreeOk t) (hl : leafB t l = true) (hln : l < n) : ∃ k, k < (lvT t).length ∧ vA (lvT t) k = l := by
  rw [tok_lv hn hok]
  have hm : l ∈ lvsL t n := List.mem_filter.2 ⟨List.mem_range.2 hln, hl⟩
  obtain ⟨k, hk, e⟩ := List.mem_iff_getElem.1 hm
  exact ⟨k, hk, by rw [vA_get hk]; exact e⟩
/-- Each node has a leaf. -/
theorem cl_ne {t : List Nd} {n : Nat} (hn : t.length = n) (hok : TreeOk t) : ∀ j v, n - v ≤ j → v < n → cl t v ≠ 0 := by
  have hP := tok_par hn hok
  intro j
  induction j with
  | zero => intro v h1 h2; omega
  | succ j ih =>
    intro v h1 hv
    by_cases q : leafB t v = true
    · obtain ⟨k, hk, e⟩ := leaf_at hn hok q hv
      have hb : (cl t v).testBit k = true := (tok_bit hn hok hk hv).2 (by rw [e]; exact pth_self hP hv)
      intro h; rw [h, Nat.zero_testBit] at hb; cases hb
    · rw [leafB_in, hn] at q
      have q2 : inB t n v = true := by cases h : inB t n v <;> simp_all
      obtain ⟨c, hc, hk⟩ := List.any_eq_true.1 q2
      have hcn := List.mem_range.1 hc
      unfold kidB at hk
      rw [Bool.and_eq_true, decide_eq_true_eq, decide_eq_true_eq] at hk
      obtain ⟨hc0, hcp⟩ := hk
      obtain ⟨p0, p1⟩ := hP c hc0 hcn
      have hz := ih c (by omega) hcn
      have hm : v ∈ pthF t n c := by
        rw [pth_succ hP hc0 hcn]
        refine List.mem_append_left _ ?_
        rw [hcp, Int.toNat_natCast]; exact pth_self hP hv
      have hs := cl_sub hn hok hcn hm
      intro h; rw [h, Nat.zero_and] at hs; exact hz hs.symm
theorem lAt_ge {f : Nat → Nat} {x u : Nat} (h : f u &&& x = x) : ∀ k, u < k → u ≤ lAt f x k := by
  intro k
  induction k with
  | zero => intro h; omega
  | succ k ih =>
    intro hu
    unfold lAt
    by_cases e : f k &&& x = x
    · rw [if_pos e]; omega
    · rw [if_neg e]
      by_cases q : u = k
      · subst q; exact absurd h e
      · exact ih (by omega)
theorem lCnt_zero {t : List Nd} {f : Nat → Nat} {x a : Nat} : ∀ k, lCnt t f x a k = 0 ↔ ∀ v, v < k → lossB t f x a v = false := by
  intro k
  induction k with
  | zero => exact ⟨fun _ v hv => by omega, fun _ => rfl⟩
  | succ k ih =>
    unfold lCnt
    constructor
    · intro h v hv
      by_cases e : v = k
      · subst e
        cases hb : lossB t f x a v with
        | false => rfl
        | true => rw [hb] at h; simp at h
      · exact ih.1 (by omega) v (by omega)
    · intro h
      rw [ih.2 fun v hv => h v (by omega), h k (by omega)]; rfl
/-- The set of a node is never lost. -/
theorem loss_node {t : List Nd} {n u : Nat} (hn : t.length = n) (hok : TreeOk t) (hu : u < n) : lossN t (cl t u) = 0 := by
  have hP := tok_par hn hok
  have hx := tok_lt hn hok hu
  unfold lossN
  rw [hn, lCnt_zero]
  intro v hv
  by_cases hv0 : v = 0
  · subst hv0; exact lossB_root t _ _ _
  rw [← loss_eq hn hok hx (by omega) hv]
  have hat := lAt_has (cl_root hn hok hx) n
  have hatn := lAt_lt' (cl t) (cl t u) n (by omega)
  have hge := lAt_ge (f := cl t) (x := cl t u) (u := u) (Nat.and_self _) n hu
  generalize lAt (cl t) (cl t u) n = A at *
  have hne := cl_ne hn hok n u (by omega) hu
  obtain ⟨k, hk⟩ := bit_of_ne hne
  have h1 := cl_chain hn hok hu hatn hk (sub_bit hat hk) hge
  unfold rlossB
  rw [belB_eq hP (by omega) hv]
  obtain ⟨p0, p1⟩ := hP v (by omega) hv
  by_cases q : A ∈ pthF t n (nP t v).toNat
  · have h2 : A ∈ pthF t n v := by rw [pth_succ hP (by omega) hv]; exact List.mem_append_left _ q
    have h3 : u ∈ pthF t n v := (pth_prefix hP v v (Nat.le_refl _) hv h2).subset h1
    have h4 := cl_sub hn hok hv h3
    rw [Nat.and_comm] at h4
    rw [h4, decide_eq_false (cl_ne hn hok n v (by omega) hv)]; simp
  · rw [decide_eq_false q]; rfl
/-- What is never lost is the set of a node. -/
theorem node_of_loss {t : List Nd} {n x : Nat} (hn : t.length = n) (hok : TreeOk t) (hx : x < 2 ^ (lvT t).length) (h0 : x ≠ 0) (hz : lossN t x = 0) : ∃ u, u < n ∧ cl t u = x := by
  have hP := tok_par hn hok
  have hn1 : 0 < n := by have := hok.1; omega
  unfold lossN at hz
  rw [hn, lCnt_zero] at hz
  have hat := lAt_has (cl_root hn hok hx) n
  have hatn := lAt_lt' (cl t) x n hn1
  have hle : ∀ v, 0 < v → v < n → rlossB t n x (lAt (cl t) x n) v = false := fun v h1 h2 => by rw [loss_eq hn hok hx h1 h2]; exact hz v h2
  generalize lAt (cl t) x n = A at *
  refine ⟨A, hatn, Classical.byContradiction fun hne => ?_⟩
  have hd : ∃ k, (cl t A).testBit k = true ∧ x.testBit k = false := by
    refine Classical.byContradiction fun hno => hne ?_
    apply Nat.eq_of_testBit_eq
    intro k
    cases hb : x.testBit k with
    | true => exact sub_bit hat hb
    | false =>
      cases hc : (cl t A).testBit k with
      | false => rfl
      | true => exact absurd ⟨k, hc, hb⟩ hno
  obtain ⟨k, hk1, hk2⟩ := hd
  have hk := bit_lt (tok_lt hn hok hatn) hk1
  obtain ⟨hl1, hl2⟩ := tok_leaf hn hok hk
  have hA := (tok_bit hn hok hk hatn).1 hk1
  have hleaf : cl t (vA (lvT t) k) &&& x = 0 := by
    refine Classical.byContradiction fun hnz => ?_
    obtain ⟨j, j1, j2⟩ := and_bit hnz
    have hj := bit_lt hx j2
    have h1 := (tok_bit hn hok hj hl1).1 j1
    have h2 := leaf_end hn hok hl2 _ _ (Nat.le_refl _) (tok_leaf hn hok hj).1 h1
    have h3 : j = k := by
      rw [tok_lv hn hok] at h2 hj hk
      have e1 := (lvs_at t n j hj).2.2
      have e2 := (lvs_at t n k hk).2.2
      rw [h2] at e1; omega
    rw [h3, hk2] at j2; cases j2
  have key : ∀ m y, y ≤ m → y < n → A ∈ pthF t n y → cl t y &&& x = 0 → False := by
    intro m
    induction m with
    | zero =>
      intro y hy hyn hm h
      obtain rfl : y = 0 := by omega
      rw [pth_zero, List.mem_singleton] at hm
      subst hm
      rw [hat] at h; exact h0 h
    | succ m ih =>
      intro y hy hyn hm h
      by_cases e : y = A
      · subst e; rw [hat] at h; exact h0 h
      · have hy0 : y ≠ 0 := by
          intro e2; subst e2
          rw [pth_zero, List.mem_singleton] at hm; exact e hm.symm
        obtain ⟨p0, p1⟩ := hP y (by omega) hyn
        rw [pth_succ hP (by omega) hyn, List.mem_append] at hm
        rcases hm with hm | hm
        · by_cases hp : cl t (nP t y).toNat &&& x = 0
          · exact ih (nP t y).toNat (by omega) (by omega) hm hp
          · have := hle y (by omega) hyn
            unfold rlossB at this
            rw [belB_eq hP (by omega) hyn, decide_eq_true hm, decide_eq_true h, decide_eq_false hp] at this
            cases this
        · rw [List.mem_singleton] at hm; exact e hm.symm
  exact key _ _ (Nat.le_refl _) hl1 hA hleaf
/-- On finds a node with the set, if there is one. -/
theorem onN_at {f : Nat → Nat} {x : Nat} : ∀ k, 0 ≤ onN f x k → f (onN f x k).toNat = x ∧ (onN f x k).toNat < k := by
  intro k
  induction k with
  | zero => intro h; exact absurd h (by show ¬ (0 : Int) ≤ -1; decide)
  | succ k ih =>
    intro h
    unfold onN at h ⊢
    by_cases q : 0 ≤ onN f x k
    · rw [if_pos q]; have := ih q; exact ⟨this.1, by omega⟩
    · rw [if_neg q] at h ⊢
      by_cases e : f k = x
      · rw [if_pos e]; exact ⟨by rw [Int.toNat_natCast]; exact e, by rw [Int.toNat_natCast]; omega⟩
      · rw [if_neg e] at h; omega
theorem onN_iff {f : Nat → Nat} {x n : Nat} : 0 ≤ onN f x n ↔ ∃ u, u < n ∧ f u = x := by
  constructor
  · intro h
    obtain ⟨h1, h2⟩ := onN_at n h
    exact ⟨_, h2, h1⟩
  · rintro ⟨u, hu, e⟩
    refine Classical.byContradiction fun hn => ?_
    have key : ∀ k, ¬ 0 ≤ onN f x k → ∀ v, v < k → f v ≠ x := by
      intro k
      induction k with
      | zero => intro _ v hv; omega
      | succ k ih =>
        intro h v hv
        unfold onN at h
        by_cases q : 0 ≤ onN f x k
        · rw [if_pos q] at h; exact absurd q h
        · rw [if_neg q] at h
          by_cases e2 : f k = x
          · rw [if_pos e2] at h; omega
          · by_cases e3 : v = k
            · subst e3; exact e2
            · exact ih q v (by omega)
    exact key n hn u hu e
end Go.Proofs.YtnabbmdhhddfbaaDoor
namespace Go.Proofs.YtnabbmdhhddfbaaDoor
open Go.RowKit Go.Shelf
theorem bigLen : ∀ (l : List Nat) (n : Nat), l.Pairwise (· < ·) → (∀ k, k ∈ l → k < n) → l.length ≤ n := by
  intro l n h1 h2
  have h3 : ∀ j, ∀ h : j < l.length, j ≤ l[j] := by
    intro j
    induction j with
    | zero => intro _; omega
    | succ j ih =>
      intro h
      have := ih (by omega)
      have := List.pairwise_iff_getElem.1 h1 j (j + 1) (by omega) h (by omega)
      omega
  rcases Nat.lt_or_ge n l.length with h | h
  · have := h3 n h
    have := h2 _ (List.getElem_mem h)
    omega
  · exact h
def Fits (has : List Nat) (l : List Nat) : Prop := l.Pairwise fun a b => fitB (vA has a) (vA has b) = true
theorem fitB_self (x : Nat) : fitB x x = true := by unfold fitB; simp [Nat.and_self]
theorem okL_iff {has l : List Nat} {i : Nat} : okL has l i = true ↔ ∀ k, k ∈ l → fitB (vA has k) (vA has i) = true := by
  unfold okL; rw [List.all_eq_true]
theorem fits_snoc {has l : List Nat} {i : Nat} (h : Fits has l) (ho : okL has l i = true) : Fits has (l ++ [i]) := by
  unfold Fits
  rw [List.pairwise_append]
  exact ⟨h, List.pairwise_singleton _ _, fun a ha b hb => by rw [List.mem_singleton.1 hb]; exact okL_iff.1 ho a ha⟩
/-- Every list of the search is increasing and has no conflict. -/
theorem dsc_sound (has : List Nat) : ∀ r l x, r ≤ has.length → x ∈ dsc has r l → l.Pairwise (· < ·) → (∀ k, k ∈ l → k < has.length - r) → Fits has l → x.Pairwise (· < ·) ∧ (∀ k, k ∈ x → k < has.length) ∧ Fits has x := by
  intro r
  induction r with
  | zero =>
    intro l x _ hx h1 h2 h3
    rw [dsc, List.mem_singleton] at hx
    subst hx
    exact ⟨h1, fun k hk => by have := h2 k hk; omega, h3⟩
  | succ r ih =>
    intro l x hr hx h1 h2 h3
    rw [dsc, List.mem_append] at hx
    rcases hx with hx | hx
    · by_cases q : okL has l (has.length - (r + 1)) = true
      · rw [if_pos q] at hx
        refine ih _ x (by omega) hx ?_ ?_ (fits_snoc h3 q)
        · rw [List.pairwise_append]
          exact ⟨h1, List.pairwise_singleton _ _, fun a ha b hb => by rw [List.mem_singleton.1 hb]; exact h2 a ha⟩
        · intro k hk
          rcases List.mem_append.1 hk with hk | hk
          · have := h2 k hk; omega
          · rw [List.mem_singleton.1 hk]; omega
      · rw [if_neg q] at hx; cases hx
    · exact ih l x (by omega) hx h1 (fun k hk => by have := h2 k hk; omega) h3
/-- Every set of numbers without a conflict is among them. -/
theorem dsc_all (has : List Nat) (p : Nat → Bool) (hp : ∀ a b, p a = true → p b = true → fitB (vA has a) (vA has b) = true) : ∀ r l, r ≤ has.length → (∀ k, k ∈ l → p k = true) → l ++ (List.range' (has.length - r) r).filter p ∈ dsc has r l := by
  intro r
  induction r with
  | zero => intro l _ _; simp [dsc]
  | succ r ih =>
    intro l hr hl
    have e : List.range' (has.length - (r + 1)) (r + 1) = (has.length - (r + 1)) :: List.range' (has.length - r) r := by
      rw [List.range'_succ]; congr 2; omega
    rw [e, dsc, List.mem_append]
    by_cases q : p (has.length - (r + 1)) = true
    · rw [List.filter_cons_of_pos q]
      refine .inl ?_
      rw [if_pos (okL_iff.2 fun k hk => hp k _ (hl k hk) q)]
      have := ih (l ++ [has.length - (r + 1)]) (by omega) (fun k hk => by
        rcases List.mem_append.1 hk with hk | hk
        · exact hl k hk
        · rw [List.mem_singleton.1 hk]; exact q)
      rw [List.append_assoc] at this
      exact this
    · rw [List.filter_cons_of_neg q]
      exact .inr (ih l (by omega) hl)
theorem filter_le (p : Nat → Bool) (i : Nat) : ∀ l : List Nat, (l.filter p).length ≤ (l.filter (fun a => p a || decide (a = i))).length := by
  intro l
  induction l with
  | nil => simp
  | cons a l ih =>
    by_cases q : p a = true
    · rw [List.filter_cons_of_pos q, List.filter_cons_of_pos (by simp [q])]; simp only [List.length_cons]; omega
    · rw [List.filter_cons_of_neg q]
      refine Nat.le_trans ih ?_
      rw [List.filter_cons]
      split
      · simp only [List.length_cons]; omega
      · exact Nat.le_refl _
theorem filter_more (p : Nat → Bool) (i : Nat) (hp : p i = false) : ∀ l : List Nat, i ∈ l → (l.filter p).length + 1 ≤ (l.filter (fun a => p a || decide (a = i))).length := by
  intro l
  induction l with
  | nil => intro h; cases h
  | cons a l ih =>
    intro h
    by_cases e : a = i
    · subst e
      rw [List.filter_cons_of_neg (by simp [hp]), List.filter_cons_of_pos (by simp)]
      have := filter_le p a l
      simp only [List.length_cons]; omega
    · have hi : i ∈ l := by
        rcases List.mem_cons.1 h with h | h
        · exact absurd h.symm e
        · exact h
      have := ih hi
      by_cases q : p a = true
      · rw [List.filter_cons_of_pos q, List.filter_cons_of_pos (by simp [q])]; simp only [List.length_cons]; omega
      · rw [List.filter_cons_of_neg q, List.filter_cons_of_neg (by simp [q, e])]; exact this
theorem big_mem (has : List Nat) : bigL has ∈ dsc has has.length [] := by
  rw [bigL_dsc]
  rcases fold_mem (dsc has has.length []) [] with h | h
  · rw [h]; exact dsc_self has _ _
  · exact h
theorem big_sound (has : List Nat) : (bigL has).Pairwise (· < ·) ∧ (∀ k, k ∈ bigL has → k < has.length) ∧ Fits has (bigL has) :=
  dsc_sound has has.length [] _ (Nat.le_refl _) (big_mem has) List.Pairwise.nil (fun k hk => by cases hk) List.Pairwise.nil
/-- One more number has a conflict with some of the longest list. -/
theorem big_max {has : List Nat} {i : Nat} (hi : i < has.length) (hn : i ∉ bigL has) : ∃ k, k ∈ bigL has ∧ fitB (vA has k) (vA has i) = false := by
  obtain ⟨h1, h2, h3⟩ := big_sound has
  by_cases q : ∃ k, k ∈ bigL has ∧ fitB (vA has k) (vA has i) = false
  · exact q
  · exfalso
    have hq : ∀ k, k ∈ bigL has → fitB (vA has k) (vA has i) = true := fun k hk => by
      cases hf : fitB (vA has k) (vA has i) with
      | true => rfl
      | false => exact absurd ⟨k, hk, hf⟩ q
    have hfit : ∀ a b, a ∈ bigL has → b ∈ bigL has → fitB (vA has a) (vA has b) = true := by
      intro a b ha hb
      obtain ⟨x, hx, rfl⟩ := List.mem_iff_getElem.1 ha
      obtain ⟨y, hy, rfl⟩ := List.mem_iff_getElem.1 hb
      have hp := List.pairwise_iff_getElem.1 h3
      rcases Nat.lt_trichotomy x y with h | h | h
      · exact hp x y hx hy h
      · subst h; exact fitB_self _
      · rw [fitB_symm]; exact hp y x hy hx h
    have hall := dsc_all has (fun a => decide (a ∈ bigL has) || decide (a = i)) (by
      intro a b ha hb
      simp only [Bool.or_eq_true, decide_eq_true_eq] at ha hb
      rcases ha with ha | rfl
      · rcases hb with hb | rfl
        · exact hfit a b ha hb
        · exact hq a ha
      · rcases hb with hb | rfl
        · rw [fitB_symm]; exact hq b hb
        · exact fitB_self _) has.length [] (Nat.le_refl _) (fun k hk => by cases hk)
    have hge := (fold_ge (dsc has has.length []) []).2 _ hall
    rw [← bigL_dsc, List.nil_append, Nat.sub_self] at hge
    have hm := filter_more (fun a => decide (a ∈ bigL has)) i (by simp [hn]) (List.range' 0 has.length) (by rw [List.mem_range'_1]; omega)
    have hsub : (bigL has).length ≤ ((List.range' 0 has.length).filter fun a => decide (a ∈ bigL has)).length := by
      have hb : bigL has = (List.range' 0 has.length).filter fun a => decide (a ∈ bigL has) := by
        refine sorted_ext (R := fun a b : Nat => a < b) (fun x => Nat.lt_irrefl x) (fun x y h1 h2 => by omega) h1 ?_ fun x => ?_
        · exact List.Pairwise.filter _ List.pairwise_lt_range'
        · rw [List.mem_filter, List.mem_range'_1]
          constructor
          · intro hx; exact ⟨by have := h2 x hx; omega, by simp [hx]⟩
          · rintro ⟨_, hx⟩; simpa using hx
      rw [← hb]; exact Nat.le_refl _
    omega
/-- No conflict: all fit. -/
theorem conf_fits {l : List Nat} (h : confE l = none) {i j : Nat} (hij : i < j) (hj : j < l.length) : fitB (vA l i) (vA l j) = true := by
  cases hf : fitB (vA l i) (vA l j) with
  | true => rfl
  | false =>
    exfalso
    have hr : ∀ k, (∃ m, m < l.length ∧ cfR l k m = true) → ((List.range l.length).find? (cfR l k)).isSome = true := fun k ⟨m, hm, hc⟩ => by
      rw [List.find?_isSome]
      exact ⟨m, List.mem_range.2 hm, hc⟩
    have h1 : cfRow l i = true := by
      unfold cfRow
      rw [List.any_eq_true]
      exact ⟨j, List.mem_range.2 hj, by unfold cfR; rw [hf]; simp [hij]⟩
    have h2 : ((List.range l.length).find? (cfRow l)).isSome = true := by
      rw [List.find?_isSome]
      exact ⟨i, List.mem_range.2 (by omega), h1⟩
    obtain ⟨k, hk⟩ := Option.isSome_iff_exists.1 h2
    have h3 := List.find?_some hk
    unfold cfRow at h3
    rw [List.any_eq_true] at h3
    obtain ⟨m, hm, hc⟩ := h3
    obtain ⟨q, hq⟩ := Option.isSome_iff_exists.1 (hr k ⟨m, List.mem_range.1 hm, hc⟩)
    unfold confE at h
    rw [hk] at h
    simp only [Option.bind_some] at h
    rw [hq] at h
    cases h
def someL (has : List Nat) : List Nat := (bigL has).map (vA has)
theorem someL_len (has : List Nat) : (someL has).length = (bigL has).length := by simp [someL]
theorem someL_at (has : List Nat) {j : Nat} (h : j < (bigL has).length) : vA (someL has) j = vA has (vA (bigL has) j) := by
  simp [vA, someL, h]
theorem someL_conf (has : List Nat) : confE (someL has) = none := by
  refine conf_no fun i hi => cfRow_no fun j hij hj => ?_
  rw [someL_len] at hi hj
  rw [someL_at has hi, someL_at has hj, vA_get hi, vA_get hj]
  exact List.pairwise_iff_getElem.1 (big_sound has).2.2 i j hi hj hij
theorem moreL_conf {has : List Nat} {i : Nat} (hi : i < has.length) (hn : i ∉ bigL has) : confE (someL has ++ [vA has i]) ≠ none := by
  intro h
  obtain ⟨k, hk, hf⟩ := big_max hi hn
  obtain ⟨x, hx, rfl⟩ := List.mem_iff_getElem.1 hk
  have h1 := conf_fits h (i := x) (j := (bigL has).length) hx (by rw [List.length_append, someL_len]; simp)
  have e1 : vA (someL has ++ [vA has i]) x = vA has (bigL has)[x] := by
    rw [← vA_get hx, ← someL_at has hx]
    simp [vA, List.getElem?_append_left (show x < (someL has).length by rw [someL_len]; exact hx)]
  have e2 : vA (someL has ++ [vA has i]) (bigL has).length = vA has i := by
    simp [vA, List.getElem?_append_right (show (someL has).length ≤ (bigL has).length by rw [someL_len]; exact Nat.le_refl _), someL_len]
  rw [e1, e2, hf] at h1
  cases h1
theorem big_nd {has : List Nat} {j k : Nat} (hj : j < (bigL has).length) (hk : k < j) : vA (bigL has) k < vA (bigL has) j := by
  rw [vA_get (by omega), vA_get hj]
  exact List.pairwise_iff_getElem.1 (big_sound has).1 k j (by omega) hj hk
theorem big_lt {has : List Nat} {j : Nat} (hj : j < (bigL has).length) : vA (bigL has) j < has.length := by
  rw [vA_get hj]; exact (big_sound has).2.1 _ (List.getElem_mem hj)
theorem big_le (has : List Nat) : (bigL has).length ≤ has.length := by
  have h := bigLen (bigL has) has.length (big_sound has).1 (big_sound has).2.1
  exact h
theorem chk_sub {L : Int} {has l : List Nat} (h : chkT L has = 0) (hl : l.length ≤ 64) (hs : ∀ x, x ∈ l → x ∈ has) : chkT L l = 0 := by
  unfold chkT at h ⊢
  by_cases q : L < 0 ∨ 32 < L
  · rw [if_pos q] at h; omega
  · rw [if_neg q] at h ⊢
    by_cases q2 : 64 < has.length
    · rw [if_pos q2] at h; omega
    · rw [if_neg q2] at h
      by_cases q3 : has.any (wide L.toNat) = true
      · rw [if_pos q3] at h; omega
      · rw [if_neg (by omega), if_neg ?_]
        intro h4
        obtain ⟨x, hx, hw⟩ := List.any_eq_true.1 h4
        exact q3 (List.any_eq_true.2 ⟨x, hs x hx, hw⟩)
theorem someL_sub (has : List Nat) : ∀ x, x ∈ someL has → x ∈ has := by
  intro x hx
  obtain ⟨k, hk, rfl⟩ := List.mem_map.1 hx
  have h := (big_sound has).2.1 k hk
  rw [vA_get h]; exact List.getElem_mem h
end Go.Proofs.YtnabbmdhhddfbaaDoor
namespace Go.Proofs.YtnabbmdhhddfbaaDoor
open Go Go.RowKit Go.Shelf
theorem conf_fit {l : List Nat} (h : ∀ i j, i < j → j < l.length → fitB (vA l i) (vA l j) = true) : confE l = none :=
  conf_no fun i _ => cfRow_no fun j h1 h2 => h i j h1 h2
/-- Was none of the first k lost? -/
def allF (t : List Nd) (l : List Nat) (k : Nat) : Bool := (l.take k).all fun x => decide (lossN t x = 0)
theorem allF_succ {t : List Nd} {l : List Nat} {k : Nat} (hk : k < l.length) : allF t l (k + 1) = (allF t l k && decide (lossN t (vA l k) = 0)) := by
  unfold allF
  rw [List.take_succ_eq_append_getElem hk, List.all_append, vA_get hk]; simp
theorem fits_all {L : Int} {l : List Nat} {t : List Nd} (h : chkP L l t = 0) : fitsB L l t = allF t l l.length := by
  unfold fitsB allF
  rw [decide_eq_true h, Bool.true_and, List.take_length]
  have e : lossL L l t = l.map (lossN t) := if_pos h
  rw [e, Bool.eq_iff_iff, Bool.not_eq_true', Bool.eq_false_iff, List.all_eq_true]
  constructor
  · intro hn x hx
    rw [decide_eq_true_eq]
    refine Classical.byContradiction fun h0 => hn ?_
    obtain ⟨j, hj, e2⟩ := List.mem_iff_getElem.1 hx
    refine any_iN.2 ⟨j, by simpa using hj, ?_⟩
    rw [vA_get (by simpa using hj), List.getElem_map, e2]; omega
  · intro ha h2
    obtain ⟨j, hj, hp⟩ := any_iN.1 h2
    rw [List.length_map] at hj
    rw [vA_get (by simpa using hj), List.getElem_map] at hp
    have := ha _ (List.getElem_mem hj)
    rw [decide_eq_true_eq] at this; omega
theorem fit_zero (x : Nat) : fitB 0 x = true ∧ fitB x 0 = true := by unfold fitB; simp
theorem all_conf {t : List Nd} {n : Nat} {l : List Nat} (hn : t.length = n) (hok : TreeOk t) (hx : ∀ k, k < l.length → vA l k < 2 ^ (lvT t).length) (h : allF t l l.length = true) : confE l = none := by
  unfold allF at h
  rw [List.take_length, List.all_eq_true] at h
  have key : ∀ k, k < l.length → vA l k = 0 ∨ ∃ u, u < n ∧ cl t u = vA l k := fun k hk => by
    by_cases e : vA l k = 0
    · exact .inl e
    · have := h (vA l k) (by rw [vA_get hk]; exact List.getElem_mem hk)
      rw [decide_eq_true_eq] at this
      exact .inr (node_of_loss hn hok (hx k hk) e this)
  refine conf_fit fun i j hij hj => ?_
  rcases key i (by omega) with e | ⟨u, hu, e⟩
  · rw [e]; exact (fit_zero _).1
  · rcases key j hj with e2 | ⟨v, hv, e2⟩
    · rw [e2]; exact (fit_zero _).2
    · rw [← e, ← e2]; exact cl_fit hn hok hu hv
set_option maxRecDepth 100000 in
set_option maxHeartbeats 4000000 in
theorem oclaw_any (L : Int) (a : Option Addr) (N c : Nat) (l : List Nat) (b : Option Addr) (n d : Nat) (t : List Nd) (w : World) (hl : l.length = N) (hN : N ≤ 1152921504606846976) (hNc : N ≤ c) (hc : c ≤ 9223372036854775807) (hA : Rd w a (fl encV l)) (hF : FitV l)
    (ht : t.length = n) (hn60 : n ≤ 1152921504606846976) (hnd : n ≤ d) (hd : d ≤ 9223372036854775807) (hB : Rd w b (fl encNd t)) (hS : ∀ v, v < n → (nS t v).size ≤ 9223372036854775807) :
    Calls Tryd.prog 11 #[.agg #[.int .i64 L, .slice a N c], .slice b n d] w fun e w' => e = .returned (.bool true) ∧ Below w.heap.size w w' := by
  have hb0 := bl_alloc (Below.refl _ w) (.cells #[.int .i64 L, .slice a N c] 24)
  have hX := Blk.new w #[.int .i64 L, .slice a N c] 24
  have HL := Lib.hid hl
  have HF := Lib.hid hF
  have HT := Lib.hid ht
  have HS := Lib.hid hS
  have HA := Lib.hid (hA.bl hb0)
  have HB := Lib.hid (hB.bl hb0)
  have HB0 := Lib.hid hb0
  have HBX := Lib.hid hX
  have HW := Lib.hid works_any
  have HNC := Lib.hid hNc
  have HCC := Lib.hid hc
  clear hl hA hF ht hB hS hb0 hX hNc hc
  obtain ⟨X, hX⟩ : ∃ x, x = w.heap.size := ⟨_, rfl⟩
  rw [← hX] at HBX
  go_enter Tryd.func11, Tryd.ntmps11
  go_wp2_with fail
  refine (on_any L a N c l b n d t _ HL.out hN HA.out HF.out HT.out hn60 hnd hd HB.out HS.out).mono ?_
  rintro e w1 ⟨x1, rfl, ho1, hb1⟩
  have HB1 := Lib.hid (bl_trans HB0.out hb1)
  have HA1 := Lib.hid (HA.out.bl hb1)
  have HT1 := Lib.hid (HB.out.bl hb1)
  have HBX1 := Lib.hid (HBX.out.below hb1)
  obtain ⟨A1, c1, rfl, _⟩ := owns_slice ho1
  have HO1 := Lib.hid ho1
  rw [← hX]
  have HX := Lib.hid hX
  clear hb1 hX HB0 HA HBX HB ho1
  have e0 : w1.cell? ⟨X, 0, none⟩ = some (.int .i64 L) := HBX1.out.cell 0
  have e1 : w1.cell? ⟨X, 1, none⟩ = some (.slice a N c) := HBX1.out.cell 1
  by_cases hq : N ≤ 20 ∧ n ≤ 70 ∧ chkP L l t = 0
  · obtain ⟨hN20, hn70, h0⟩ := hq
    have d1 : decide (20 < (N : Int)) = false := decide_eq_false (by omega)
    have d1n : decide (20 < N) = false := decide_eq_false (by omega)
    have d2 : decide (70 < (n : Int)) = false := decide_eq_false (by omega)
    have d2n : decide (70 < n) = false := decide_eq_false (by omega)
    obtain ⟨k0, hok, k2⟩ := chkP_ok h0
    have hLL : Hid (lossL L l t = l.map (lossN t)) := if_pos h0
    have hOL : Hid (onL L l t = l.map (fun x => onN (cl t) x n)) := by show _ = _; unfold onL; rw [if_pos h0, HT.out]
    have HFA := Lib.hid (fits_all h0)
    have HC0 := Lib.hid h0
    rw [h0]
    have hOlen : Hid ((onL L l t).length = N) := by show _ = _; rw [hOL.out, List.length_map, HL.out]
    have hLlen : Hid ((lossL L l t).length = N) := by show _ = _; rw [hLL.out, List.length_map, HL.out]
    rw [hOlen.out] at HO1 ⊢
    have hlt := fun M (hM : L = (M : Nat)) => (chk_lt (show chkT ((M : Nat) : Int) l = 0 by rw [← hM]; exact k0)).2.2
    have HXB : Hid (∀ k, k < N → vA l k < 2 ^ (lvT t).length) := fun k hk => by
      have h := hlt (lvT t).length k2.symm (vA l k) (by rw [vA_get (by rw [HL.out]; exact hk)]; exact List.getElem_mem _)
      exact h
    have HCONF : Hid (allF t l N = true → confE l = none) := fun h => by
      rw [← HL.out] at h
      exact all_conf HT.out hok (fun k hk => HXB.out k (by rw [← HL.out]; exact hk)) h
    have HK0 := Lib.hid k0
    have HOK := Lib.hid hok
    have HLV : Hid ((lvT t).length ≤ 64) := by show _ ≤ _; rw [tok_lv HT.out hok]; have := lvsL_le t n; have := hok.2.1; have := HT.out; omega
    clear h0 k0 k2 hok hlt
    go_wp2_with fail
    refine (losses_any L a N c l b n d t w1 HL.out hN HA1.out HF.out HT.out hn60 hnd hd HT1.out HS.out).mono ?_
    rintro e w2 ⟨v, rfl, ho, hb2⟩
    obtain ⟨A2, c2, rfl, _⟩ := owns_slice ho
    rw [HC0.out]
    rw [hLlen.out] at ho ⊢
    have HB2 := Lib.hid (bl_trans HB1.out hb2)
    have HA2 := Lib.hid (HA1.out.bl hb2)
    have HT2 := Lib.hid (HT1.out.bl hb2)
    have HBX2 := Lib.hid (HBX1.out.below hb2)
    have HO2 := Lib.hid (owns_below HO1.out hb2)
    have HP2 := Lib.hid ho
    have f0 : w2.cell? ⟨X, 0, none⟩ = some (.int .i64 L) := HBX2.out.cell 0
    have f1 : w2.cell? ⟨X, 1, none⟩ = some (.slice a N c) := HBX2.out.cell 1
    clear ho hb2 e0 e1 HB1 HA1 HT1 HBX1 HO1
    go_wp2_with fail
    refine (pfits_any L a N c l b n d t w2 HL.out hN HA2.out HF.out HT.out hn60 hnd hd HT2.out HS.out).mono ?_
    rintro e w3 ⟨rfl, hb3⟩
    rw [HC0.out]
    have HB3 := Lib.hid (bl_trans HB2.out hb3)
    have HA3 := Lib.hid (HA2.out.bl hb3)
    have HT3 := Lib.hid (HT2.out.bl hb3)
    have HBX3 := Lib.hid (HBX2.out.below hb3)
    have HO3 := Lib.hid (owns_below HO2.out hb3)
    have HP3 := Lib.hid (owns_below HP2.out hb3)
    clear hb3 f0 f1 HB2 HA2 HT2 HBX2 HO2 HP2
    have f1 : w3.cell? ⟨X, 1, none⟩ = some (.slice a N c) := HBX3.out.cell 1
    rw [HFA.out, HL.out]
    obtain ⟨fb, hfb⟩ : ∃ x, x = allF t l N := ⟨_, rfl⟩
    rw [← hfb]
    have HFB := Lib.hid hfb
    clear hfb
    go_wp2_with fail
    clear f1
    go_loopw [12, 11] (fun x y wr => ∃ k : Nat, k ≤ N ∧ x = .int .i64 k ∧ y = .bool (allF t l k) ∧ Hid (Below w3.heap.size w3 wr)) (fun x _ _ => N - (intOf x).toNat)
    case atStart => exact ⟨0, by omega, rfl, rfl, Below.refl _ _⟩
    case round =>
      obtain ⟨k, hk, rfl, rfl, hbl⟩ := hrel
      by_cases hkN : k < N
      · have HX4 := Lib.hid (HBX3.out.below hbl.out)
        obtain ⟨b1, o1, rfl, _, hc1⟩ := rdI (rd_of_owns (owns_below HO3.out hbl.out)) (by rw [hOlen.out]; omega)
        obtain ⟨b2, o2, rfl, _, hc2⟩ := rdI (rd_of_owns (owns_below HP3.out hbl.out)) (by rw [iN_len, hLlen.out]; omega)
        obtain ⟨ba, oa, rfl, hba, hca⟩ := rdV (HA3.out.bl hbl.out) (by rw [HL.out]; omega)
        have G1 := hc1 k (by rw [hOlen.out]; exact hkN)
        have G2 := hc2 k (by rw [iN_len, hLlen.out]; exact hkN)
        have G3 := hca k (by rw [HL.out]; exact hkN)
        have g1 : iA (onL L l t) k = onN (cl t) (vA l k) n := by
          rw [hOL.out]
          have hkl : k < l.length := by rw [HL.out]; exact hkN
          simp [iA, List.getD_eq_getElem?_getD, hkl, vA]
        have g2 : iA (iN (lossL L l t)) k = (lossN t (vA l k) : Nat) := by
          rw [iN_get, hLL.out]
          have hkl : k < l.length := by rw [HL.out]; exact hkN
          simp [List.getD_eq_getElem?_getD, hkl, vA]
        rw [g1] at G1
        rw [g2] at G2
        have f1 : wr.cell? ⟨X, 1, none⟩ = some (.slice (some ⟨ba, oa, none⟩) N c) := HX4.out.cell 1
        have HST := Lib.hid (allF_succ (t := t) (show k < l.length by rw [HL.out]; exact hkN))
        have HRT := Lib.hid (HT3.out.bl hbl.out)
        have HXK := Lib.hid (HXB.out k hkN)
        obtain ⟨ak, hak⟩ : ∃ x, allF t l k = x := ⟨_, rfl⟩
        rw [hak] at HST ⊢
        have HON := Lib.hid (onN_iff (f := cl t) (x := vA l k) (n := n))
        have HAT := Lib.hid (onN_at (f := cl t) (x := vA l k) n)
        clear hc1 hc2 hca g1 g2 hak HX4
        generalize vA l k = x at *
        have HND : Hid (x ≠ 0 → lossN t x = 0 → 0 ≤ onN (cl t) x n) := fun h1 h2 => HON.out.2 (node_of_loss HT.out HOK.out HXK.out h1 h2)
        obtain ⟨o, ho⟩ : ∃ o, onN (cl t) x n = o := ⟨_, rfl⟩
        rw [ho] at G1 HAT HND
        by_cases ho0 : 0 ≤ o
        · obtain ⟨hcl, hun⟩ := HAT.out ho0
          obtain ⟨u, rfl⟩ : ∃ u : Nat, o = u := ⟨o.toNat, by omega⟩
          rw [Int.toNat_natCast] at hcl hun
          have hl0 := loss_node HT.out HOK.out hun
          rw [hcl] at hl0
          rw [hl0] at G2 HST
          have HS1 : Hid (allF t l (k + 1) = ak) := by show _ = _; rw [HST.out]; simp
          have HCL := Lib.hid (clade_any b n d u t wr HT.out HOK.out HLV.out hun HRT.out HS.out)
          rw [hcl] at HCL
          have HXX := Lib.hid (HBX3.out.below hbl.out)
          have HG3 := Lib.hid G3
          have s1 : decide (0 ≤ (u : Int)) = true := by simp
          clear hl0 hcl hun HST HON HAT HND ho ho0
          rcases ak with _ | _
          all_goals
            go_wp2_with fail
            refine HCL.out.mono ?_
            rintro e w4 ⟨rfl, hb4⟩
            have HB4 := Lib.hid (bl_trans hbl.out hb4)
            have f1 : w4.cell? ⟨X, 1, none⟩ = some (.slice (some ⟨ba, oa, none⟩) N c) := (HXX.out.below hb4).cell 1
            have G4 : w4.cell? ⟨ba, oa + k, none⟩ = some (.int .u64 x) := (hb4.cell (p := ⟨ba, oa + k, none⟩) hba).trans HG3.out
            have t1 : ((x : Int) != (x : Int)) = false := by simp
            clear hb4 hbl HCL HXX G1 G2
            go_wp2_with fail
            go_roundw
            case rel => exact ⟨k + 1, by omega, by go_num, by rw [HS1.out] <;> simp, HB4⟩
            case measure => simp [intOf]; omega
        · have s1 : decide (0 ≤ o) = false := decide_eq_false ho0
          by_cases hx0 : x = 0
          · subst hx0
            have hl0 : lossN t 0 = 0 := by unfold lossN; exact loss_zero t _ _ _
            rw [hl0] at G2 HST
            have HS1 : Hid (allF t l (k + 1) = ak) := by show _ = _; rw [HST.out]; simp
            clear hl0 HST HON HAT HND ho ho0
            rcases ak with _ | _
            all_goals
              go_wp2_with fail
              go_roundw
              case rel => exact ⟨k + 1, by omega, by go_num, by rw [HS1.out] <;> simp, hbl⟩
              case measure => simp [intOf]; omega
          · have hnz : lossN t x ≠ 0 := fun h => ho0 (HND.out hx0 h)
            have HS1 : Hid (allF t l (k + 1) = false) := by show _ = _; rw [HST.out, decide_eq_false hnz]; simp
            obtain ⟨m, hm⟩ : ∃ m, lossN t x = m := ⟨_, rfl⟩
            rw [hm] at G2 hnz
            have t1 : ((x : Int) == 0) = false := by simp [hx0]
            have t2 : decide ((x : Int) = 0) = false := by simp [hx0]
            have t3 : ((m : Int) == 0) = false := by simp [hnz]
            have t4 : decide ((m : Int) = 0) = false := by simp [hnz]
            have t5 : decide ((m : Int) < 0) = false := decide_eq_false (by omega)
            clear hm hnz hx0 HST HON HAT HND ho ho0
            rcases ak with _ | _
            all_goals
              go_wp2_with fail
              go_roundw
              case rel => exact ⟨k + 1, by omega, by go_num, by rw [HS1.out] <;> simp, hbl⟩
              case measure => simp [intOf]; omega
      · obtain rfl : k = N := by omega
        rw [← HFB.out]
        have e0 : wr.cell? ⟨X, 0, none⟩ = some (.int .i64 L) := (HBX3.out.below hbl.out).cell 0
        have e1 : wr.cell? ⟨X, 1, none⟩ = some (.slice a k c) := (HBX3.out.below hbl.out).cell 1
        have HB4 := Lib.hid (bl_trans HB3.out hbl.out)
        have HCF := Lib.hid (conf_any L a k c l wr HL.out hN HNC.out HCC.out (HA3.out.bl hbl.out) HF.out)
        have HCV : Hid ((fb = true → confE l = none) ∧ chkT L l = 0) := ⟨fun h => HCONF.out (by rw [← HFB.out]; exact h), HK0.out⟩
        clear hbl
        have t1 : (fb != fb) = false := by simp
        go_wp2_with fail
        refine HCF.out.mono ?_
        rintro e w5 ⟨rfl, hb5⟩
        have HB5 := Lib.hid (bl_trans HB4.out hb5)
        obtain ⟨hcv1, hcv2⟩ := HCV.out
        clear hb5 HCF HCV e0 e1
        cases fb with
        | true =>
          rw [cfV_no hcv2 (hcv1 rfl)]
          go_wp2_with fail
          refine (HW.out _).mono ?_
          rintro e w6 ⟨rfl, hb6⟩
          go_wp2_with fail
          go_ret
          exact ⟨rfl, bl_trans HB5.out hb6⟩
        | false =>
          cases hce : confE l with
          | none =>
            rw [cfV_no hcv2 hce]
            go_wp2_with fail
            refine (HW.out _).mono ?_
            rintro e w6 ⟨rfl, hb6⟩
            go_wp2_with fail
            go_ret
            exact ⟨rfl, bl_trans HB5.out hb6⟩
          | some p =>
            obtain ⟨i, j⟩ := p
            rw [cfV_yes hcv2 hce]
            go_wp2_with fail
            refine (HW.out _).mono ?_
            rintro e w6 ⟨rfl, hb6⟩
            go_wp2_with fail
            go_ret
            exact ⟨rfl, bl_trans HB5.out hb6⟩
  · have key : (decide (20 < (N : Int)) = true ∧ decide (20 < N) = true) ∨ ((decide (20 < (N : Int)) = false ∧ decide (20 < N) = false) ∧ ((decide (70 < (n : Int)) = true ∧ decide (70 < n) = true) ∨ ((decide (70 < (n : Int)) = false ∧ decide (70 < n) = false) ∧ chkP L l t ≠ 0))) := by
      by_cases h1 : 20 < N
      · exact .inl ⟨decide_eq_true (by omega), decide_eq_true h1⟩
      · refine .inr ⟨⟨decide_eq_false (by omega), decide_eq_false h1⟩, ?_⟩
        by_cases h2 : 70 < n
        · exact .inl ⟨decide_eq_true (by omega), decide_eq_true h2⟩
        · exact .inr ⟨⟨decide_eq_false (by omega), decide_eq_false h2⟩, fun h => hq ⟨by omega, by omega, h⟩⟩
    clear hq
    obtain ⟨E, hE⟩ : ∃ E, chkP L l t = E := ⟨_, rfl⟩
    rw [hE] at key ⊢
    clear hE
    rcases key with ⟨p1, p2⟩ | ⟨⟨p1, p2⟩, ⟨q1, q2⟩ | ⟨⟨q1, q2⟩, hE0⟩⟩
    rotate_left 2
    · have r1 : (E == 0) = false := by simp [hE0]
      have r2 : (E != 0) = true := by simp [hE0]
      clear hE0
      go_wp2_with fail
      refine (HW.out _).mono ?_
      rintro e w2 ⟨rfl, hb2⟩
      go_wp2_with fail
      go_ret
      exact ⟨rfl, bl_trans HB1.out hb2⟩
    all_goals
      go_wp2_with fail
      refine (HW.out _).mono ?_
      rintro e w2 ⟨rfl, hb2⟩
      go_wp2_with fail
      go_ret
      exact ⟨rfl, bl_trans HB1.out hb2⟩
end Go.Proofs.YtnabbmdhhddfbaaDoor
