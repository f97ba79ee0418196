/- (*etym.Graph).Path. The closed graph of the examples. The ways, so that they can be computed; what the examples give. works. ablautref02.Equal; a graph that is none. EtymKnown. From a walk to a row: a statement's post; arguments that came in read as tables and trees. -/
import Derived.Test.YtmfomjaomhohkaaDoorZF
import Derived.Test.YtmfomjaomhohkaaDoorZE
import Derived.Test.YtmfomjaomhohkaaDoorZD
import Derived.Deep.QuietTactic
import Derived.BigQuiet
import Derived.Test.YtmfomjaomhohkaaDoorZA
import Derived.ChangeSame
import Derived.OpenShut
import Derived.ProofKit
import Derived.Deep.Slices
import Derived.Test.YtmfomjaomhohkaaDoorCards
import Derived.Test.YtmfomjaomhohkaaDoorTie
import Derived.Deep.DeepHandedRow
import Derived.Lib.LaidTab
import Derived.Lib.SmallJoins
namespace Go.Proofs.YtmfomjaomhohkaaDoor
open Go Go.RowKit Go.Shelf
attribute [local go_sem] Oper.semAt_some
/-- The links of the way, one after another. -/
def pthK (ls : List Lk) (f : Nat → Int) (n : Nat) : Nat → Nat → List Nat
  | 0, _ => []
  | m + 1, a => if a = n then [] else match (toK ls a).find? fun k => decide (f (tW ls k) = f a - 1) with
    | none => []
    | some k => k :: pthK ls f n m (tW ls k)
theorem pth_step {ls : List Lk} {f : Nat → Int} {n m a j : Nat} (ha : a ≠ n) (hj : j < (toK ls a).length) (hp : f (tW ls ((toK ls a).getD j 0)) = f a - 1) (hn : ∀ i, i < j → f (tW ls ((toK ls a).getD i 0)) ≠ f a - 1) :
    pthK ls f n (m + 1) a = (toK ls a).getD j 0 :: pthK ls f n m (tW ls ((toK ls a).getD j 0)) := by
  rw [pthK, if_neg ha, find_first hj (by simpa using hp) fun i hi => by simpa using hn i hi]
def lkD : Lk := (0, 0, 0)
/-- What Path answers. -/
noncomputable def pthL (ls : List Lk) (N n s : Nat) : List Lk := if s ∈ abL ls N n then (pthK ls (farL ls N n) n (dst ls n s) s).map fun k => ls.getD k lkD else []
noncomputable def pthO (ls : List Lk) (N : Nat) (n s : Int) : List Lk := if hasB n N && hasB s N then pthL ls N n.toNat s.toNat else []
noncomputable def pthB (ls : List Lk) (N : Nat) (n s : Int) : Bool := hasB n N && hasB s N && decide (s.toNat ∈ abL ls N n.toNat)
def PthPost (w : World) (l : List Lk) (b : Bool) (c : Int) (e : Ending) (w' : World) : Prop :=
  ∃ v, e = .returned (.tuple #[v, .bool b, .int .i64 c]) ∧ w'.ownsRow w.heap.size 33 3 v l.length (fl encLk l) ∧ Below w.heap.size w w'
set_option maxHeartbeats 4000000 in
set_option maxRecDepth 100000 in
theorem path_any {w : World} {O : Nat → Prop} {g : Nat} {r : GrA} {es : List Et} {ls : List Lk} (h : GrAt w O g r es ls) (n s : Int) :
    Calls Tryd.prog 19 #[.pointer (some ⟨g, 0, none⟩), .int .i64 n, .int .i64 s] w (PthPost w (pthO ls es.length n s) (pthB ls es.length n s) (ckE es.length [n, s])) := by
  have hb0 := bl_alloc (bl_alloc (bl_alloc (Below.refl _ w) (.cells #[.pointer (some ⟨g, 0, none⟩)] 23)) (.cells #[.int .i64 n] 3)) (.cells #[.int .i64 n, .int .i64 s] 3)
  have hX0 := ((Blk.new w #[.pointer (some ⟨g, 0, none⟩)] 23).alloc (.cells #[.int .i64 n] 3)).alloc (.cells #[.int .i64 n, .int .i64 s] 3)
  have hR0 := (Blk.new2 w (.cells #[.pointer (some ⟨g, 0, none⟩)] 23) #[.int .i64 n] 3).alloc (.cells #[.int .i64 n, .int .i64 s] 3)
  have hz1 : ((w.alloc (.cells #[.pointer (some ⟨g, 0, none⟩)] 23)).alloc (.cells #[.int .i64 n] 3)).heap.size = w.heap.size + 2 := by simp
  have hC0 : Rd (((w.alloc (.cells #[.pointer (some ⟨g, 0, none⟩)] 23)).alloc (.cells #[.int .i64 n] 3)).alloc (.cells #[.int .i64 n, .int .i64 s] 3)) (some ⟨w.heap.size + 2, 0, none⟩) (fl encI [n, s]) := by
    rw [← hz1]; exact rd_of_blkQ (cs := fl encI [n, s]) (t := 3) (Blk.new _ _ _)
  have hC := check_yes (h.bl hb0) (some ⟨w.heap.size + 2, 0, none⟩) 2 2 [n, s] rfl (by omega) hC0
  have c0 := ((Blk.new w #[.pointer (some ⟨g, 0, none⟩)] 23).alloc (.cells #[.int .i64 n] 3)).cell 0
  have c1 := (Blk.new2 w (.cells #[.pointer (some ⟨g, 0, none⟩)] 23) #[.int .i64 n] 3).cell 0
  obtain ⟨w4, hw4⟩ : ∃ y, y = ((w.alloc (.cells #[.pointer (some ⟨g, 0, none⟩)] 23)).alloc (.cells #[.int .i64 n] 3)).alloc (.cells #[.int .i64 n, .int .i64 s] 3) := ⟨_, rfl⟩
  have hz4 : w4.heap.size = w.heap.size + 3 := by rw [hw4]; simp
  rw [← hw4] at hb0 hX0 hR0 hC
  have HX1 := Lib.hid hX0
  have HR1 := Lib.hid hR0
  have HB1 := Lib.hid hb0
  have HZ1 := Lib.hid hz4
  have HG := Lib.hid h
  have HC := Lib.hid hC
  have hnE := h.nE
  have hck := ckE_two es.length n s
  clear h hb0 hX0 hR0 hz1 hz4 hC0 hC
  refine (callsIn_wide (n := 10)).1 ?_
  refine callsIn_of_wp_marks Tryd.func19 rfl trivial ?_ rfl
  simp only [Tryd.ntmps19, List.size_toArray, List.length_cons, List.length_nil, Nat.reduceAdd, Nat.reduceSub, Array.replicate_succ, Array.replicate_zero, List.push_toArray, List.append_toArray, List.nil_append, List.cons_append]
  refine wpIn_wide.2 ?_
  obtain ⟨H, hH⟩ : ∃ H, H = w.heap.size := ⟨_, rfl⟩
  have HHH := Lib.hid hH
  cases hx : (hasB n es.length && hasB s es.length) with
  | false =>
    have hS : Hid (pthO ls es.length n s = []) := by show _ = _; unfold pthO; rw [hx]; rfl
    have hT : Hid (pthB ls es.length n s = false) := by show _ = _; unfold pthB; rw [hx]; rfl
    rw [hx] at hck
    have hck : ckE es.length [n, s] = 3 := hck
    rw [hck] at HC ⊢
    clear hck hx hH
    go_wp2_with fail
    rw [← hw4]
    refine HC.out.mono ?_
    rintro e w5 ⟨rfl, hw⟩
    subst w5
    clear hw4 HC
    go_wp2_with fail
    refine leaves_all [] _ List.nodup_nil (fun D h => by cases h) fun W' ht => ⟨_, results_tmp3 rfl _ _ _, ?_⟩
    exact ⟨_, by rw [hT.out]; rfl, by rw [hS.out]; exact World.ownsRow_nil _ _ _ _, ht.below HB1.out (fun D h => by cases h)⟩
  | true =>
    obtain ⟨h1, h2⟩ := Bool.and_eq_true_iff.1 hx
    obtain ⟨p, rfl, hp⟩ := has_nat h1
    obtain ⟨q, rfl, hq⟩ := has_nat h2
    have hS : Hid (pthO ls es.length (p : Int) (q : Int) = pthL ls es.length p q) := by show _ = _; unfold pthO; rw [hx]; rfl
    have hT : Hid (pthB ls es.length (p : Int) (q : Int) = decide (q ∈ abL ls es.length p)) := by show _ = _; unfold pthB; rw [hx]; rfl
    rw [hx] at hck
    have hck : ckE es.length [(p : Int), (q : Int)] = 0 := hck
    rw [hck] at HC ⊢
    clear hck hx h1 h2
    go_wp2_with fail
    rw [← hw4]
    refine HC.out.mono ?_
    rintro e w5 ⟨rfl, hw⟩
    subst w5
    have hba0 := own_off (HG.out.bl HB1.out).list (by omega)
    have hG4 := HG.out.bl HB1.out
    have d3 : w4.cell? ⟨w.heap.size, 0, none⟩ = some (.pointer (some ⟨g, 0, none⟩)) := HX1.out.cell 0
    have hbA := bl_alloc (Below.refl _ w4) (.cells #[.int .i64 (-1)] 3)
    have e3 : (w4.alloc (.cells #[.int .i64 (-1)] 3)).cell? ⟨w.heap.size, 0, none⟩ = some (.pointer (some ⟨g, 0, none⟩)) := (HX1.out.below hbA).cell 0
    obtain ⟨ba, hba⟩ := hba0
    have hcA := own_capQ hG4.list
    have e4 : (w4.alloc (.cells #[.int .i64 (-1)] 3)).cell? ⟨g, 0, none⟩ = some (.slice (some ⟨ba, 0, none⟩) es.length r.c) := by rw [← hba]; exact (hG4.blk.below hbA).cell 0
    have hRP := repI_any w4.heap.size 0 1 es.length (-1) (w4.alloc (.cells #[.int .i64 (-1)] 3)) (by omega) (by omega) (rd_of_blkQ (cs := fl encI [(-1 : Int)]) (t := 3) (Blk.new w4 _ _))
    have HRP := Lib.hid hRP
    clear hRP hck
    have HBA := Lib.hid hbA
    have HBAE := Lib.hid hba
    clear hw4 hG4 hbA c0 c1 hba
    obtain ⟨N, hN⟩ : ∃ y, y = es.length := ⟨_, rfl⟩
    obtain ⟨cA, hcAe⟩ : ∃ y, y = r.c := ⟨_, rfl⟩
    rw [← hN, ← hcAe] at e4 hcA
    rw [← hN] at HRP hp hq hnE
    have HN := Lib.hid hN
    have HCA := Lib.hid hcAe
    clear hN hcAe
    go_wp2_with first | fail | (go_at_call 38; refine HRP.out.mono ?_; rintro e w5 ⟨Fb, rfl, hF1, hF2, hF3⟩; have HF1 := Lib.hid hF1; have HF2 := Lib.hid hF2; have HF3 := Lib.hid hF3; have hb5 := HBA.out.trans (hF3.mono HBA.out.size); have hbT := bl_alloc hb5 (.cells #[.slice (some ⟨Fb, 0, none⟩) N N] 31); have g3 := (HX1.out.below hbT).cell 0; have g4 := (HR1.out.below hbT).cell 0; have HB5 := Lib.hid hb5; have HBT := Lib.hid hbT; clear hF1 hF2 hF3 hb5 hbT)
    refine (above_any g p _).mono ?_
    rintro e w6 ⟨rfl, hw6⟩
    have hT5 := Blk.new w5 #[.slice (some ⟨Fb, 0, none⟩) N N] 31
    have hz5 : (w5.alloc (.cells #[.slice (some ⟨Fb, 0, none⟩) N N] 31)).heap.size = w5.heap.size + 1 := by simp
    have hF5 : Blk (w5.alloc (.cells #[.slice (some ⟨Fb, 0, none⟩) N N] 31)) Fb (ofF N fun _ => .int .i64 (-1)) 3 := by
      rw [ofF_I, ← rep_range]
      exact (owns_blk HF2.out).alloc _
    have hFl := (owns_blk HF2.out).lt
    have hFg : w.heap.size + 3 ≤ Fb := by
      have h1 := HF1.out
      have h2 : (w4.alloc (.cells #[.int .i64 (-1)] 3)).heap.size = w4.heap.size + 1 := by simp
      have := HZ1.out
      omega
    obtain ⟨wT, hwT⟩ : ∃ y, y = w5.alloc (.cells #[.slice (some ⟨Fb, 0, none⟩) N N] 31) := ⟨_, rfl⟩
    rw [← hwT] at hw6 hz5 hT5 hF5 HBT g3 g4 ⊢
    have hbwT : Below w.heap.size w wT := HB1.out.trans (HBT.out.mono HB1.out.size)
    have h46 : Below wT.heap.size wT w6 := by rw [hw6]; exact bl_alloc (bl_alloc (Below.refl _ _) _) _
    have hgb : Blk w6 wT.heap.size #[.pointer (some ⟨g, 0, none⟩)] 23 := by rw [hw6]; exact (Blk.new wT #[.pointer (some ⟨g, 0, none⟩)] 23).alloc _
    have hnb : Blk w6 (wT.heap.size + 1) #[.int .i64 p] 3 := by rw [hw6]; exact Blk.new2 _ _ _ _
    obtain ⟨T, hT⟩ : ∃ T, T = w5.heap.size := ⟨_, rfl⟩
    rw [← hT] at hT5 hz5 hFl ⊢
    have hz6 : w6.heap.size = T + 3 := by rw [hw6]; simp [hz5]
    have hb6 := hbwT.trans (h46.mono hbwT.size)
    have HX6 := Lib.hid ((HX1.out.below HBT.out).below h46)
    have HR6 := Lib.hid ((HR1.out.below HBT.out).below h46)
    have HT6 := Lib.hid (hT5.below h46)
    have HF6 := Lib.hid (hF5.below h46)
    have HG6 := Lib.hid (HG.out.bl hb6)
    have HGV := Lib.hid (above_gives (m := 9) (by omega) HG6.out hgb hnb (by rw [← HN.out]; exact hp))
    rw [hz5] at hgb hnb HGV ⊢
    have HB6 := Lib.hid hb6
    have HZ6 := Lib.hid hz6
    have hFgv : Hid (∀ B, AbFx g (T + 1) (T + 1 + 1) r es ls B → B < w.heap.size ∨ T < B) := fun B hB => by
      rcases hB with rfl | rfl | rfl | hB | hB | ⟨i, hi, hB⟩
      · right; omega
      · right; omega
      · left; exact HG.out.lt _ HG.out.oG
      · left; exact (HG.out.list.lt B hB).2
      · left; exact (HG.out.lks.lt B hB).2
      · left; exact ((HG.out.frs i hi).lt B hB).2
    clear hwT hw6 hz5 hT5 hF5 hbwT h46 hgb hnb hT hz6 hb6 d3 e3 e4 g3 g4 hcA HBT HB5 HF1 HF2 HF3 HBA HX1 HR1 HC HRP
    have hN6 := ab_len HG6.out.inr (by rw [← HN.out]; exact hp)
    rw [← HN.out] at HGV hN6
    rw [← hH] at HX6 HR6 hFg hFgv ⊢
    clear hH
    go_wp2_with fail
    refine (wpIn_wide (n := 10)).1 ?_
    refine wpIn_range_Q (b := ?frm) rfl (by omega) rfl trivial (enters_of Tryd.func50 (by kernel_rfl) rfl) HGV.out rfl
      (fun k O' W => FarI w6 Fb N (((abL ls N p).take k).foldl (farA ls p) fun _ => -1) O' W)
      (fun c k W => False)
      ?hI (fun k O' W h B hB => ?hIO) (fun c k W1 W2 h => h.elim) (fun B => B = Fb) (fun B hB => ⟨by have := HZ6.out; omega, fun hf => by rcases hFgv.out B hf with q | q <;> omega⟩) ⟨fun B => Iff.rfl, HF6.out, Keeps.refl _ _⟩ ?assign ?body ?done ?stop
    case assign =>
      intro l x W K hK
      gi_wp2
      exact hK
    case hI =>
      rintro k O' W1 W2 k1 hk
      exact k1.kp hk (Nat.le_refl _)
    case hIO =>
      rw [(h.1 B).1 hB]
      exact ⟨_, _, _, h.2.1⟩
    case stop =>
      rintro D c k W hD hk hf
      exact hf.elim
    case body =>
      rintro l k O' x W hI hx _
      obtain ⟨a, ha, rfl⟩ : ∃ a : Nat, (abL ls N p)[k]? = some a ∧ x = .int .i64 (a : Int) := by
        unfold yI at hx
        rw [List.getElem?_map] at hx
        cases hq : (abL ls N p)[k]? with
        | none => rw [hq] at hx; cases hx
        | some a => rw [hq] at hx; exact ⟨a, rfl, (Option.some.inj hx).symm⟩
      have hin : LkIn ls N := by rw [HN.out]; exact HG.out.inr
      have haN : a < N := ab_lt hin hp a (List.mem_of_getElem? ha)
      have hkl : k ≤ (abL ls N p).length := by
        rcases Nat.lt_or_ge k (abL ls N p).length with h | h
        · omega
        · rw [List.getElem?_eq_none h] at ha; cases ha
      have hnew := far_new hin hp ha
      have hbd := far_bd ls p (abL ls N p) k hkl
      have hsn := fold_snoc (farA ls p) (fun _ => (-1 : Int)) (abL ls N p) k a ha
      obtain ⟨f, hf⟩ : ∃ f, f = ((abL ls N p).take k).foldl (farA ls p) fun _ => -1 := ⟨_, rfl⟩
      rw [← hf] at hI hnew hbd hsn
      have hk6 : ∀ B, B ≠ Fb → B < w6.heap.size → W.heap[B]? = w6.heap[B]? := fun B h1 h2 => hI.2.2.block B h2 fun e => by rcases e with e | e <;> omega
      have hBW : Below w.heap.size w W := ⟨hI.2.2.os.trans HB6.out.os, hI.2.2.tape.trans HB6.out.tape, hI.2.2.output.trans HB6.out.output, Nat.le_trans HB6.out.size hI.2.2.size, fun k k1 => (hk6 k (by have := HHH.out; omega) (Nat.lt_of_lt_of_le k1 HB6.out.size)).trans (HB6.out.block k k1)⟩
      have hGW := HG.out.bl hBW
      have d1 : W.cell? ⟨H + 1, 0, none⟩ = some (.int .i64 p) := (show Blk W (H + 1) _ _ from (hk6 (H + 1) (by omega) (by have := HZ6.out; omega)).trans HR6.out).cell 0
      have dT : W.cell? ⟨T, 0, none⟩ = some (.slice (some ⟨Fb, 0, none⟩) N N) := (show Blk W T _ _ from (hk6 T (by omega) (by have := HZ6.out; omega)).trans HT6.out).cell 0
      have dH : W.cell? ⟨H, 0, none⟩ = some (.pointer (some ⟨g, 0, none⟩)) := (show Blk W H _ _ from (hk6 H (by omega) (by have := HZ6.out; omega)).trans HX6.out).cell 0
      have HI := Lib.hid hI
      have HSN := Lib.hid hsn
      have HNEW := Lib.hid hnew
      have HBD := Lib.hid hbd
      have HK6 := Lib.hid hk6
      clear hx ha hin hnew hbd hsn hf hI hk6
      by_cases e : a = p
      · subst e
        have q0 : W.cell? ⟨Fb, a, none⟩ = some (.int .i64 (f a)) := HI.out.2.1.getF a haN
        have q1 : W.frozen? ⟨Fb, a, none⟩ = false := HI.out.2.1.free a
        have t1 : ((a : Int) == (a : Int)) = true := by simp
        clear hBW hGW
        gi_wp2
        have hput := HI.out.put a 0
        refine ⟨KeepsOthers.setCell _ _ _, O', ?_, HI.out.step hput (Keeps.of_set W Fb a _ rfl)⟩
        show FarI w6 Fb N _ O' _
        rw [HSN.out]
        unfold farA
        rw [if_pos rfl]
        exact hput
      · have t1 : ((a : Int) == (p : Int)) = false := by simp; omega
        have t2 : decide ((a : Int) = (p : Int)) = false := by simp; omega
        have HE := Lib.hid e
        obtain ⟨ta, tc, htr, hct⟩ := hGW.ab_tos (x := a) (by rw [← HN.out]; exact haN)
        obtain ⟨ba', hba'⟩ := own_off hGW.list (by rw [← HN.out]; omega)
        have hcA := own_capQ hGW.list
        have g0 : W.cell? ⟨g, 0, none⟩ = some (.slice (some ⟨ba', 0, none⟩) es.length r.c) := by rw [← hba']; exact hGW.blk.cell 0
        have g1 : W.cell? ⟨g, 1, none⟩ = some (.slice r.B ls.length r.d) := hGW.blk.cell 1
        have g2 : W.cell? ⟨ba', a * 4 + 3, none⟩ = some (.slice ta (toK ls a).length tc) := by
          obtain ⟨b', o', e', _, hc⟩ := rdEn (rd_of_owns hGW.list) (by rw [hGW.len, ← HN.out]; omega)
          rw [hba'] at e'
          cases e'
          have h4 := (hc a (by rw [hGW.len, ← HN.out]; omega)).2.2.2
          rw [Nat.zero_add, htr] at h4
          exact h4
        have HCK : Hid (0 < ls.length → ∃ bb, r.B = some ⟨bb, 0, none⟩ ∧ bb < w.heap.size ∧ ∀ k, k < ls.length → W.cell? ⟨bb, k * 3 + 2, none⟩ = some (.int .i64 (lT ls k))) := fun h1 => by
          obtain ⟨bb, hbb⟩ := own_off hGW.lks h1
          obtain ⟨_, _, e, _, hck⟩ := rdLk (rd_of_owns hGW.lks) h1
          rw [hbb] at e
          cases e
          refine ⟨bb, hbb, (HG.out.lks.lt bb (by rw [hbb]; rfl)).2, fun k hk => ?_⟩
          have := (hck k hk).2.2
          rw [Nat.zero_add] at this
          exact this
        have HCF := Lib.hid hct
        have hbA : ba' < w.heap.size := (HG.out.list.lt ba' (by rw [hba']; rfl)).2
        have hgl : g < w.heap.size := HG.out.lt _ HG.out.oG
        have HFbt : Hid (∀ tb, ta = some ⟨tb, 0, none⟩ → tb < w.heap.size) := fun tb e => by
          refine ((HG.out.tos a (by rw [← HN.out]; exact haN)).lt tb ?_).2
          rw [htr, e]; rfl
        have HINR : Hid (∀ k, k < ls.length → 0 ≤ lT ls k ∧ lT ls k < (N : Int)) := fun k hk => by rw [HN.out]; exact (HG.out.inr k hk).2
        have HTM : Hid (∀ j, j < (toK ls a).length → (toK ls a).getD j 0 < ls.length) := fun j hj => (toK_mem.1 (by rw [List.getD_eq_getElem?_getD, List.getElem?_eq_getElem hj]; exact List.getElem_mem hj)).1
        have htl := toK_len ls a
        have hnL := hGW.nL
        have hcd := own_capQ hGW.lks
        have HFS : Hid (∀ j, j < (toK ls a).length → ((toK ls a).take (j + 1)).foldl (farK ls a) f = farK ls a (((toK ls a).take j).foldl (farK ls a) f) ((toK ls a).getD j 0)) := fun j hj => fold_snoc _ _ _ _ _ (by rw [List.getD_eq_getElem?_getD, List.getElem?_eq_getElem hj]; rfl)
        have HFB2 : Hid (∀ l : List Nat, ∀ x, -1 ≤ (l.foldl (farK ls a) f) x ∧ (l.foldl (farK ls a) f) x ≤ (k : Int) + 1) := fun l => farK_bd HBD.out HNEW.out l
        have HEND : Hid (((toK ls a).take (toK ls a).length).foldl (farK ls a) f = ((abL ls N p).take (k + 1)).foldl (farA ls p) fun _ => -1) := by
          show _ = _
          rw [HSN.out, List.take_length]
          unfold farA
          rw [if_neg HE.out]
        obtain ⟨tn, htn⟩ : ∃ y, y = (toK ls a).length := ⟨_, rfl⟩
        obtain ⟨L, hL⟩ : ∃ y, y = ls.length := ⟨_, rfl⟩
        rw [← htn] at g2 HCF htl HTM HFS HEND
        rw [← hL] at g1 HCK HINR HTM htl hnL hcd
        have hNN : es.length = N := HN.out.symm
        rw [hNN] at g0 hcA
        have hHle : H ≤ w.heap.size := Nat.le_of_eq HHH.out
        have hHge : w.heap.size ≤ H := Nat.le_of_eq HHH.out.symm
        have hkN : (k : Int) ≤ 1024 := by omega
        clear hct htr hba' hGW hBW e htn hL hNN HSN HNEW HBD HE
        gi_wp2
        have HI0 : Hid (FarI w6 Fb N (((toK ls a).take 0).foldl (farK ls a) f) O' W) := HI.out
        have HQ0 : Hid (Keeps (fun B => B = Fb) W W) := Keeps.refl _ _
        have HO0 : Hid (KeepsOthers W W) := KeepsOthers.refl _
        gi_loopw [53] (fun y wr => ∃ j : Nat, j ≤ tn ∧ y = .int .i64 j ∧ Hid (FarI w6 Fb N (((toK ls a).take j).foldl (farK ls a) f) O' wr) ∧ Hid (Keeps (fun B => B = Fb) W wr) ∧ Hid (KeepsOthers W wr)) (fun y _ => tn - (intOf y).toNat)
        case atStart => exact ⟨0, by omega, rfl, HI0, HQ0, HO0⟩
        case round =>
          clear HI0 HQ0 HO0
          obtain ⟨j, hj, rfl, hI, hQ, hO⟩ := hrel
          by_cases hlt : j < tn
          · obtain ⟨tb, rfl, hcj⟩ := HCF.out (by omega)
            have hck6 : ∀ b o v, b < w.heap.size → W.cell? ⟨b, o, none⟩ = some v → wr.cell? ⟨b, o, none⟩ = some v := fun b o v hb hv => (World.cell?_of_block (a := ⟨b, o, none⟩) (hQ.out.block b (by have := HI.out.2.2.size; have := HZ6.out; omega) (by omega))).trans hv
            have hckH : ∀ b o v, b < Fb → W.cell? ⟨b, o, none⟩ = some v → wr.cell? ⟨b, o, none⟩ = some v := fun b o v hb hv => (World.cell?_of_block (a := ⟨b, o, none⟩) (hQ.out.block b (by have := HI.out.2.2.size; have := HZ6.out; omega) (by omega))).trans hv
            have c1 := hck6 _ _ _ (HFbt.out tb rfl) (hcj j hlt)
            have hiL := HTM.out j hlt
            obtain ⟨bb, hbb, hbbl, hck⟩ := HCK.out (by omega)
            have hfs := HFS.out j hlt
            obtain ⟨i, hi⟩ : ∃ i, i = (toK ls a).getD j 0 := ⟨_, rfl⟩
            rw [← hi] at c1 hiL hfs
            have c2 := hck6 _ _ _ hbbl (hck i hiL)
            have hir := HINR.out i hiL
            obtain ⟨b, hb⟩ : ∃ b : Nat, lT ls i = b := ⟨(lT ls i).toNat, by omega⟩
            have hbt : tW ls i = b := by unfold tW; rw [hb]; rfl
            rw [hb] at c2 hir
            have hbN : b < N := by omega
            rw [hbb] at g1
            have g0' := hck6 _ _ _ hgl g0
            have g1' := hck6 _ _ _ hgl g1
            have dH' := hckH H 0 _ (by omega) dH
            have dT' : wr.cell? ⟨T, 0, none⟩ = some (.slice (some ⟨Fb, 0, none⟩) N N) := (World.cell?_of_block (a := ⟨T, 0, none⟩) (hQ.out.block T (by have := HI.out.2.2.size; have := HZ6.out; omega) (by omega))).trans dT
            obtain ⟨fj, hfj⟩ : ∃ y, y = ((toK ls a).take j).foldl (farK ls a) f := ⟨_, rfl⟩
            have hbd1 := HFB2.out ((toK ls a).take j) b
            have hbd2 := HFB2.out ((toK ls a).take j) a
            rw [← hfj] at hI hbd1 hbd2 hfs
            have c3 : wr.cell? ⟨Fb, b, none⟩ = some (.int .i64 (fj b)) := hI.out.2.1.getF b hbN
            have c4 : wr.cell? ⟨Fb, a, none⟩ = some (.int .i64 (fj a)) := hI.out.2.1.getF a haN
            have f4 : wr.frozen? ⟨Fb, a, none⟩ = false := hI.out.2.1.free a
            have hw1 : IntKind.i64.wrap ((j : Int) + 1) = ((j + 1 : Nat) : Int) := wrap_nat _ _ (by omega) (by omega)
            have hfs2 : ((toK ls a).take (j + 1)).foldl (farK ls a) f = if 0 ≤ fj b ∧ (fj a < 0 ∨ fj b + 1 < fj a) then updI fj a (fj b + 1) else fj := by rw [hfs]; unfold farK; rw [hbt]
            have HFS2 := Lib.hid hfs2
            obtain ⟨d, hd⟩ : ∃ d, d = fj b := ⟨_, rfl⟩
            obtain ⟨v, hv⟩ : ∃ v, v = fj a := ⟨_, rfl⟩
            rw [← hd] at c3 hbd1 HFS2
            rw [← hv] at c4 hbd2 HFS2
            clear hcj hck6 hckH hck hi hbb hb hbt hfs hfs2 hfj hd hv hir HCF
            gi_wp2
            refine wpIn_region_calm (by kernel_rfl) (by kernel_rfl) (by kernel_rfl) ?_
            repeat (go_big_quiet_step (fail))
            refine wpQuiet_nil ?_
            intro _ hw'
            obtain ⟨nq, hw''⟩ := hw'
            subst hw''
            have hI3 := hI.out.drewN nq
            have hQ3 : Keeps (fun B => B = Fb) W (wr.drewN nq) := hQ.out.trans (Keeps.of_below (O := fun _ => False) (bl_drewN (Below.refl _ _) nq)) fun _ hx => hx.elim
            have hO3 : KeepsOthers W (wr.drewN nq) := hO.out.trans (keeps_drewN _ _)
            have dT3 : (wr.drewN nq).cell? ⟨T, 0, none⟩ = some (.slice (some ⟨Fb, 0, none⟩) N N) := dT'
            have c43 : (wr.drewN nq).cell? ⟨Fb, a, none⟩ = some (.int .i64 v) := c4
            have f43 : (wr.drewN nq).frozen? ⟨Fb, a, none⟩ = false := f4
            obtain ⟨w3, hw3⟩ : ∃ z, z = wr.drewN nq := ⟨_, rfl⟩
            rw [← hw3] at hI3 hQ3 hO3 dT3 c43 f43 ⊢
            have HI3 := Lib.hid hI3
            have HQ3 := Lib.hid hQ3
            have HO3 := Lib.hid hO3
            clear hw3 hI3 hQ3 hO3 c1 c2 c3 c4 f4 g0' g1' dH' dT' hI hQ hO
            have hwd : IntKind.i64.wrap (d + 1) = d + 1 := IntWalk.i64_in _ ⟨by omega, by omega⟩
            have HPUT := Lib.hid (HI3.out.put a (d + 1))
            have HKS : Hid (Keeps (fun B => B = Fb) W (w3.setCell ⟨Fb, a, none⟩ (.int .i64 (d + 1)))) := HQ3.out.trans (Keeps.of_set (O := fun B => B = Fb) w3 Fb a _ rfl) fun _ hx => .inl hx
            have HOS : Hid (KeepsOthers W (w3.setCell ⟨Fb, a, none⟩ (.int .i64 (d + 1)))) := HO3.out.trans (KeepsOthers.setCell _ _ _)
            by_cases q0 : 0 ≤ d
            · by_cases q1 : v < 0
              · have e5 : Hid (((toK ls a).take (j + 1)).foldl (farK ls a) f = updI fj a (d + 1)) := by have h := HFS2.out; rw [if_pos ⟨q0, .inl q1⟩] at h; exact h
                gi_wp2
                go_roundw
                case rel => exact ⟨j + 1, by omega, by go_num, by rw [e5.out]; exact HPUT, HKS, HOS⟩
                case measure => simp [intOf]; omega
              · by_cases q2 : d + 1 < v
                · have e5 : Hid (((toK ls a).take (j + 1)).foldl (farK ls a) f = updI fj a (d + 1)) := by have h := HFS2.out; rw [if_pos ⟨q0, .inr q2⟩] at h; exact h
                  gi_wp2
                  go_roundw
                  case rel => exact ⟨j + 1, by omega, by go_num, by rw [e5.out]; exact HPUT, HKS, HOS⟩
                  case measure => simp [intOf]; omega
                · have e5 : Hid (((toK ls a).take (j + 1)).foldl (farK ls a) f = fj) := by have h := HFS2.out; rw [if_neg (fun h2 => h2.2.elim q1 q2)] at h; exact h
                  gi_wp2
                  go_roundw
                  case rel => exact ⟨j + 1, by omega, by go_num, by rw [e5.out]; exact HI3, HQ3, HO3⟩
                  case measure => simp [intOf]; omega
            · have e5 : Hid (((toK ls a).take (j + 1)).foldl (farK ls a) f = fj) := by have h := HFS2.out; rw [if_neg (fun h2 => q0 h2.1)] at h; exact h
              gi_wp2
              go_roundw
              case rel => exact ⟨j + 1, by omega, by go_num, by rw [e5.out]; exact HI3, HQ3, HO3⟩
              case measure => simp [intOf]; omega
          · obtain rfl : j = tn := by omega
            have HI9 := hI.out
            rw [HEND.out] at HI9
            have HI9 := Lib.hid HI9
            clear hI HEND HFS HFB2 HCF HCK
            gi_wp2
            exact ⟨hO.out, O', HI9.out, HI.out.step HI9.out hQ.out⟩
    case done =>
      rintro D O' W hD hI hDD
      have hin : LkIn ls N := by rw [HN.out]; exact HG.out.inr
      have e1 : (yI (abL ls N p)).length = (abL ls N p).length := by unfold yI; rw [List.length_map]
      have hI2 : FarI w6 Fb N (farL ls N p) O' W := by
        have h := hI
        rw [e1, List.take_length] at h
        exact h
      have hfar := fun x => far_eq hin hp x
      obtain ⟨f, hf⟩ : ∃ f, f = farL ls N p := ⟨_, rfl⟩
      rw [← hf] at hI2 hfar
      have hk6 : ∀ B, B ≠ Fb → B < w6.heap.size → W.heap[B]? = w6.heap[B]? := fun B h1 h2 => hI2.2.2.block B h2 fun e => by rcases e with e | e <;> omega
      have hBW : Below w.heap.size w W := ⟨hI2.2.2.os.trans HB6.out.os, hI2.2.2.tape.trans HB6.out.tape, hI2.2.2.output.trans HB6.out.output, Nat.le_trans HB6.out.size hI2.2.2.size, fun k k1 => (hk6 k (by have := HHH.out; omega) (Nat.lt_of_lt_of_le k1 HB6.out.size)).trans (HB6.out.block k k1)⟩
      have hb1 : Blk W (H + 1) #[.int .i64 p] 3 := (hk6 (H + 1) (by omega) (by have := HZ6.out; omega)).trans HR6.out
      have hbT : Blk W T #[.slice (some ⟨Fb, 0, none⟩) N N] 31 := (hk6 T (by omega) (by have := HZ6.out; omega)).trans HT6.out
      have hbH : Blk W H #[.pointer (some ⟨g, 0, none⟩)] 23 := (hk6 H (by omega) (by have := HZ6.out; omega)).trans HX6.out
      have dT : W.cell? ⟨T, 0, none⟩ = some (.slice (some ⟨Fb, 0, none⟩) N N) := hbT.cell 0
      have cq : W.cell? ⟨Fb, q, none⟩ = some (.int .i64 (f q)) := hI2.2.1.getF q hq
      have hfbk := hI2.2.1
      have HFBK := Lib.hid hfbk
      have HB1W := Lib.hid hb1
      have HBTW := Lib.hid hbT
      have HBHW := Lib.hid hbH
      have HBW := Lib.hid hBW
      have HGW := Lib.hid (HG.out.bl hBW)
      have HFAR := Lib.hid hfar
      have HIN := Lib.hid hin
      have HF := Lib.hid hf
      have HDD := Lib.hid hDD
      have hDl : D < W.heap.size := (Array.getElem?_eq_some_iff.1 hDD).1
      have hDw : w.heap.size ≤ D := Nat.le_trans HB6.out.size hD
      clear hI hI2 hfar hk6 hBW hb1 hbT hbH hfbk hf hDD e1 hin HX6 HR6 HT6 HF6 HG6 HGV
      simp only [Exit.inBlock, Exit.then]
      by_cases hqm : q ∈ abL ls N p
      · have hfq := HFAR.out q
        rw [if_pos hqm] at hfq
        rw [hfq] at cq
        have HQM := Lib.hid hqm
        have t0 : ¬ ((dst ls p q : Nat) : Int) < 0 := by omega
        have hN6b := ab_len HIN.out hp
        have hdqN : dst ls p q < 1048576 := by
          obtain ⟨i, hi, ei⟩ := mem_getD hqm
          have h1 := far_bd ls p (abL ls N p) (abL ls N p).length (Nat.le_refl _) q
          rw [List.take_length] at h1
          have h2 := HF.out
          have h3 : f q = _ := rfl
          rw [h2] at hfq
          unfold farL at hfq
          omega
        obtain ⟨dq, hdq⟩ : ∃ d, d = dst ls p q := ⟨_, rfl⟩
        rw [← hdq] at cq t0 hdqN
        obtain ⟨tot, htot⟩ : ∃ t, t = pthK ls f p dq q := ⟨_, rfl⟩
        have HTOT : Hid (([] : List Nat) ++ pthK ls f p dq q = tot) := by show _ = _; rw [List.nil_append, htot]
        have HTE := Lib.hid htot
        have HDQ := Lib.hid hdq
        clear hfq hqm htot hdq
        go_wp2_with fail
        have HO0 : Hid (W.ownsRow W.heap.size 33 3 (.slice none 0 0) ([] : List Nat).length (fl encLk (([] : List Nat).map fun k => ls.getD k lkD))) := World.ownsRow_nil _ _ _ _
        have HW0 : Hid (Below W.heap.size W W) := Below.refl _ _
        go_loopg [16, 15] dq (fun k va vo wr => ∃ (a : Nat) (done : List Nat), va = .int .i64 (a : Int) ∧ Hid (k = dst ls p a) ∧ Hid (a ∈ abL ls N p) ∧ Hid (done ++ pthK ls f p k a = tot) ∧ Hid (done.length + k = dq) ∧ Hid (wr.ownsRow W.heap.size 33 3 vo done.length (fl encLk (done.map fun k => ls.getD k lkD))) ∧ Hid (Below W.heap.size W wr))
        case atStart => exact ⟨q, [], rfl, HDQ, HQM, HTOT, (by show _ = _; simp), HO0, HW0⟩
        case round =>
          clear HTOT HO0 HW0 cq t0
          obtain ⟨a, dn, rfl, hk, ham, htt, hdl, hown, hbw⟩ := hrel
          have haN := ab_lt HIN.out hp a ham.out
          have d1 : wr.cell? ⟨H + 1, 0, none⟩ = some (.int .i64 p) := (HB1W.out.below hbw.out).cell 0
          obtain ⟨va, vc, rfl, _⟩ := owns_slice hown.out
          by_cases e : a = p
          · have HE := Lib.hid e
            have t1 : ((a : Int) == (p : Int)) = true := by simp [e]
            have t2 : decide ((a : Int) = (p : Int)) = true := by simp [e]
            have hend : Hid (dn = tot) := by
              have h1 := htt.out
              have h2 : gk = 0 := by rw [hk.out, e, dst_self]
              rw [h2] at h1
              show _ = _
              simpa [pthK] using h1
            clear e
            go_wp2_with fail
            have HDW : wr.heap[D]? = some (Obj.deferred (some [])) := (hbw.out.block D hDl).trans HDD.out
            refine leaves_all [D] _ (by simp) (fun D' h => by rw [List.mem_singleton] at h; subst h; exact HDW) fun w' ht => ⟨_, results_tmp3 rfl _ _ _, ?_⟩
            refine ⟨_, by rw [hT.out, ← HN.out, decide_eq_true HQM.out]; rfl, ?_, ht.below (HBW.out.trans (hbw.out.mono HBW.out.size)) fun D' h => by rw [List.mem_singleton] at h; subst h; exact hDw⟩
            have h9 : pthO ls es.length (p : Int) (q : Int) = dn.map fun k => ls.getD k lkD := by
              rw [hS.out]
              unfold pthL
              rw [← HN.out, if_pos HQM.out, ← HF.out, ← HDQ.out, ← HTE.out, ← hend.out]
            rw [h9, List.length_map]
            exact owns_mono (ht.owns (fun D' h => by rw [List.mem_singleton] at h; subst h; exact HDW) hown.out) HBW.out.size
          · have t1 : ((a : Int) == (p : Int)) = false := by simp; omega
            have t2 : decide ((a : Int) = (p : Int)) = false := by simp; omega
            have HE := Lib.hid e
            have hgW := HGW.out.bl hbw.out
            obtain ⟨ta, tc, htr, hct⟩ := hgW.ab_tos (x := a) (by rw [← HN.out]; exact haN)
            obtain ⟨ba', hba'⟩ := own_off hgW.list (by rw [← HN.out]; omega)
            have hcA := own_capQ hgW.list
            have g0 : wr.cell? ⟨g, 0, none⟩ = some (.slice (some ⟨ba', 0, none⟩) es.length r.c) := by rw [← hba']; exact hgW.blk.cell 0
            have g1 : wr.cell? ⟨g, 1, none⟩ = some (.slice r.B ls.length r.d) := hgW.blk.cell 1
            have g2 : wr.cell? ⟨ba', a * 4 + 3, none⟩ = some (.slice ta (toK ls a).length tc) := by
              obtain ⟨b', o', e', _, hc⟩ := rdEn (rd_of_owns hgW.list) (by rw [hgW.len, ← HN.out]; omega)
              rw [hba'] at e'
              cases e'
              have h4 := (hc a (by rw [hgW.len, ← HN.out]; omega)).2.2.2
              rw [Nat.zero_add, htr] at h4
              exact h4
            have dH : wr.cell? ⟨H, 0, none⟩ = some (.pointer (some ⟨g, 0, none⟩)) := (HBHW.out.below hbw.out).cell 0
            have htl := toK_len ls a
            have hnL := hgW.nL
            have hcd := own_capQ hgW.lks
            have hau : Up ls a p := (ab_iff HIN.out hp).1 ham.out
            have hd0 : gk ≠ 0 := fun h => HE.out (dst_zero hau (by rw [← hk.out, h]))
            obtain ⟨d, rfl⟩ : ∃ d, gk = d + 1 := ⟨gk - 1, by omega⟩
            have hfa : f a = ((d + 1 : Nat) : Int) := by have h := HFAR.out a; rw [if_pos ham.out, ← hk.out] at h; exact h
            have HSTEP : Hid (∀ j, j < (toK ls a).length → f (tW ls ((toK ls a).getD j 0)) = f a - 1 → (∀ i, i < j → f (tW ls ((toK ls a).getD i 0)) ≠ f a - 1) →
                d = dst ls p (tW ls ((toK ls a).getD j 0)) ∧ tW ls ((toK ls a).getD j 0) ∈ abL ls N p ∧ (dn ++ [(toK ls a).getD j 0]) ++ pthK ls f p d (tW ls ((toK ls a).getD j 0)) = tot ∧ (dn ++ [(toK ls a).getD j 0]).length + d = dq) := fun j hj h1 h2 => by
              have h3 := htt.out
              rw [pth_step HE.out hj h1 h2] at h3
              have h4 := HFAR.out (tW ls ((toK ls a).getD j 0))
              rw [h1, hfa] at h4
              by_cases hm : tW ls ((toK ls a).getD j 0) ∈ abL ls N p
              · rw [if_pos hm] at h4
                refine ⟨by omega, hm, by rw [← h3]; simp, by have := hdl.out; simp; omega⟩
              · rw [if_neg hm] at h4; omega
            have HEX : Hid (∃ j, j < (toK ls a).length ∧ f (tW ls ((toK ls a).getD j 0)) = f a - 1) := by
              obtain ⟨b, hb1, hb2, hb3⟩ := dst_down hau hk.out.symm
              obtain ⟨k, hk1, hk2⟩ := up_to HIN.out hb1
              obtain ⟨j, hj, ej⟩ := mem_getD hk1
              refine ⟨j, hj, ?_⟩
              rw [ej, hk2, hfa]
              have h := HFAR.out b
              rw [if_pos ((ab_iff HIN.out hp).2 hb2), hb3] at h
              omega
            obtain ⟨ta2, tc2, htr2, hctW⟩ := HGW.out.ab_tos (x := a) (by rw [← HN.out]; exact haN)
            obtain ⟨rfl, rfl⟩ : ta = ta2 ∧ tc = tc2 := by rw [htr] at htr2; simp at htr2; exact htr2
            have HFBT : Hid (∀ tb, ta = some ⟨tb, 0, none⟩ → tb < W.heap.size) := fun tb e => ((HGW.out.tos a (by rw [← HN.out]; exact haN)).lt tb (by rw [htr, e]; rfl)).2
            have HCF := Lib.hid hctW
            have HBA' := Lib.hid hba'
            obtain ⟨tn, htn⟩ : ∃ y, y = (toK ls a).length := ⟨_, rfl⟩
            obtain ⟨L, hL⟩ : ∃ y, y = ls.length := ⟨_, rfl⟩
            rw [← htn] at g2 HCF htl HSTEP HEX
            rw [← hL] at g1 htl hnL hcd
            have hNN : es.length = N := HN.out.symm
            rw [hNN] at g0 hcA
            have HTN := Lib.hid htn
            have HLL := Lib.hid hL
            have HFA := Lib.hid hfa
            have hdnl : dn.length + (d + 1) = dq := hdl.out
            obtain ⟨m, hm⟩ : ∃ m, m = dn.length := ⟨_, rfl⟩
            rw [← hm] at hdnl hown ⊢
            have HMM := Lib.hid hm
            clear hct htr hba' hgW e htn hL hNN hfa hd0 hau hm htr2 hctW
            go_wp2_with fail
            clear d1 g0 g1 g2 dH
            have HI0 : Hid (∀ i, i < 0 → f (tW ls ((toK ls a).getD i 0)) ≠ f a - 1) := fun i h => absurd h (Nat.not_lt_zero _)
            go_loopw [117, 15] (fun y vo wx => ∃ j : Nat, j ≤ tn ∧ y = .int .i64 j ∧ vo = .slice va m vc ∧ Hid (∀ i, i < j → f (tW ls ((toK ls a).getD i 0)) ≠ f a - 1) ∧ Hid (wx.ownsRow W.heap.size 33 3 (.slice va m vc) m (fl encLk (dn.map fun k => ls.getD k lkD))) ∧ Hid (Below W.heap.size W wx)) (fun y _ _ => tn - (intOf y).toNat)
            case atStart => exact ⟨0, by omega, rfl, rfl, HI0, hown, hbw⟩
            case round =>
              clear hown hbw HI0
              obtain ⟨j, hj, rfl, rfl, hno, hown, hbw⟩ := hrel
              by_cases hlt : j < tn
              · obtain ⟨tb, rfl, hcj⟩ := HCF.out (by omega)
                have hck6 : ∀ b o v, b < W.heap.size → W.cell? ⟨b, o, none⟩ = some v → wr.cell? ⟨b, o, none⟩ = some v := fun b o v hb hv => (hbw.out.cell (p := ⟨b, o, none⟩) hb).trans hv
                have c1 := hck6 _ _ _ (HFBT.out tb rfl) (hcj j hlt)
                have htm := (toK_mem.1 (show (toK ls a).getD j 0 ∈ toK ls a from getD_mem (by rw [← HTN.out]; exact hlt)))
                have hst := HSTEP.out j hlt
                have hnx : Hid (f (tW ls ((toK ls a).getD j 0)) ≠ f a - 1 → ∀ i, i < j + 1 → f (tW ls ((toK ls a).getD i 0)) ≠ f a - 1) := fun h i hi => by
                  by_cases ei : i = j
                  · subst ei; exact h
                  · exact hno.out i (by omega)
                have hst2 : Hid (f (tW ls ((toK ls a).getD j 0)) = f a - 1 → d = dst ls p (tW ls ((toK ls a).getD j 0)) ∧ tW ls ((toK ls a).getD j 0) ∈ abL ls N p ∧ (dn ++ [(toK ls a).getD j 0]) ++ pthK ls f p d (tW ls ((toK ls a).getD j 0)) = tot ∧ (dn ++ [(toK ls a).getD j 0]).length + d = dq) := fun h => hst h hno.out
                obtain ⟨i, hi⟩ : ∃ i, i = (toK ls a).getD j 0 := ⟨_, rfl⟩
                rw [← hi] at c1 htm hnx hst2
                have hiL : i < ls.length := htm.1
                have hir := HIN.out i hiL
                obtain ⟨b, hb⟩ : ∃ b : Nat, lT ls i = b := ⟨(lT ls i).toNat, by omega⟩
                have hbt : tW ls i = b := by unfold tW; rw [hb]; rfl
                rw [hbt] at hnx hst2
                have hbN : b < N := by omega
                obtain ⟨bb, hbb⟩ := own_off HGW.out.lks (by omega)
                have hbbl : bb < W.heap.size := (HGW.out.lks.lt bb (by rw [hbb]; rfl)).2
                obtain ⟨c2a, c2b, c2c⟩ : W.cell? ⟨bb, i * 3, none⟩ = some (.int .i64 (lK ls i)) ∧ W.cell? ⟨bb, i * 3 + 1, none⟩ = some (.int .i64 (lF ls i)) ∧ W.cell? ⟨bb, i * 3 + 2, none⟩ = some (.int .i64 (lT ls i)) := by
                  obtain ⟨_, _, e, _, hck⟩ := rdLk (rd_of_owns HGW.out.lks) (by omega)
                  rw [hbb] at e
                  cases e
                  have := hck i hiL
                  rw [Nat.zero_add] at this
                  exact this
                have d2a := hck6 _ _ _ hbbl c2a
                have d2b := hck6 _ _ _ hbbl c2b
                have d2c := hck6 _ _ _ hbbl c2c
                have hEL : ls.getD i lkD = (lK ls i, lF ls i, lT ls i) := by unfold lK lF lT lkD; rfl
                rw [hb] at d2c hEL
                have HEL := Lib.hid hEL
                obtain ⟨z1, hz1⟩ : ∃ z, z = lK ls i := ⟨_, rfl⟩
                obtain ⟨z2, hz2⟩ : ∃ z, z = lF ls i := ⟨_, rfl⟩
                rw [← hz1] at d2a HEL
                rw [← hz2] at d2b HEL
                have hgl : g < W.heap.size := HGW.out.blk.lt
                have g1 : wr.cell? ⟨g, 1, none⟩ = some (.slice (some ⟨bb, 0, none⟩) L r.d) := hck6 _ _ _ hgl (by rw [← hbb, HLL.out]; exact HGW.out.blk.cell 1)
                have dH : wr.cell? ⟨H, 0, none⟩ = some (.pointer (some ⟨g, 0, none⟩)) := (HBHW.out.below hbw.out).cell 0
                have dT' : wr.cell? ⟨T, 0, none⟩ = some (.slice (some ⟨Fb, 0, none⟩) N N) := (HBTW.out.below hbw.out).cell 0
                have c3 : wr.cell? ⟨Fb, b, none⟩ = some (.int .i64 (f b)) := (HFBK.out.below hbw.out).getF b hbN
                have c4 : wr.cell? ⟨Fb, a, none⟩ = some (.int .i64 (f a)) := (HFBK.out.below hbw.out).getF a haN
                have hA := HFA.out
                have hiL2 : i < L := by rw [HLL.out]; exact hiL
                have HI2 := Lib.hid hi
                obtain ⟨A, hAe⟩ : ∃ A, A = f a := ⟨_, rfl⟩
                obtain ⟨x, hxe⟩ : ∃ x, x = f b := ⟨_, rfl⟩
                rw [← hAe] at c4 hnx hst2 hA
                rw [← hxe] at c3 hnx hst2
                have hwA : IntKind.i64.wrap (A - 1) = A - 1 := IntWalk.i64_in _ ⟨by omega, by omega⟩
                have hw1 : IntKind.i64.wrap ((j : Int) + 1) = ((j + 1 : Nat) : Int) := wrap_nat _ _ (by omega) (by omega)
                have HA2 := Lib.hid hA
                have HAE := Lib.hid hAe
                have HBT2 := Lib.hid hbt
                clear hcj hck6 hst hi htm hir hb hbt hbb hbbl c2a c2b c2c hEL hz1 hz2 hA hAe hxe hgl hiL
                by_cases hm2 : x = A - 1
                · have t1 : (x == A - 1) = true := by simp [hm2]
                  have t2 : decide (x = A - 1) = true := by simp [hm2]
                  have HS2 := Lib.hid (hst2.out hm2)
                  clear hm2 hnx hst2 HSTEP HEX
                  go_wp2_with fail
                  go_quiet (fail)
                  have k1 : (wr.drewN nq).cell? ⟨H, 0, none⟩ = some (.pointer (some ⟨g, 0, none⟩)) := dH
                  have k2 : (wr.drewN nq).cell? ⟨g, 1, none⟩ = some (.slice (some ⟨bb, 0, none⟩) L r.d) := g1
                  have k3 : (wr.drewN nq).cell? ⟨bb, i * 3, none⟩ = some (.int .i64 z1) := d2a
                  have k4 : (wr.drewN nq).cell? ⟨bb, i * 3 + 1, none⟩ = some (.int .i64 z2) := d2b
                  have k5 : (wr.drewN nq).cell? ⟨bb, i * 3 + 2, none⟩ = some (.int .i64 (b : Int)) := d2c
                  have ho3 : (wr.drewN nq).ownsRow W.heap.size 33 3 (.slice va m vc) m (fl encLk (dn.map fun k => ls.getD k lkD)) := hown.out
                  have hb3 := bl_drewN hbw.out nq
                  obtain ⟨w3, hw3⟩ : ∃ y, y = wr.drewN nq := ⟨_, rfl⟩
                  rw [← hw3] at k1 k2 k3 k4 k5 ho3 hb3 ⊢
                  have hb4 := bl_alloc hb3 (.cells #[.int .i64 z1, .int .i64 z2, .int .i64 (b : Int)] 33)
                  have ho4 := ho3.alloc (.cells #[.int .i64 z1, .int .i64 z2, .int .i64 (b : Int)] 33)
                  have hR4 : Rd (w3.alloc (.cells #[.int .i64 z1, .int .i64 z2, .int .i64 (b : Int)] 33)) (some ⟨w3.heap.size, 0, none⟩) (fl encLk [(z1, z2, (b : Int))]) := rd_of_blkQ (t := 33) (Blk.new w3 _ _)
                  have HB4 := Lib.hid hb4
                  have HO4 := Lib.hid ho4
                  have HR4 := Lib.hid hR4
                  have HLN : Hid (m = (dn.map fun k => ls.getD k lkD).length) := by show _ = _; rw [List.length_map]; exact HMM.out
                  have hbs4 : W.heap.size ≤ (w3.alloc (.cells #[.int .i64 z1, .int .i64 z2, .int .i64 (b : Int)] 33)).heap.size := hb4.size
                  have hw9 : IntKind.i64.wrap ((m : Int) + 1 - 1) = (m : Int) := wrap_nat _ _ (by omega) (by omega)
                  clear hw3 dH g1 d2a d2b d2c hown hbw c1 c3 c4 dT' ho3 hb3 hb4 ho4 hR4
                  go_wp2_with (at_builtin; refine wpList_pushs rfl encLk_len (by decide) encLk_one Tryd.underlying24 infoLk rfl (.tmp 138) (.tmp 146) rfl (.slice va m vc) (dn.map fun k => ls.getD k lkD) m HLN.out rfl HO4.out (some ⟨w3.heap.size, 0, none⟩) 1 1 [(z1, z2, (b : Int))] rfl rfl HR4.out (fun e => by cases e) (by omega) (by decide) hbs4 ?_; intro v8 w8 h81 h82 h83; obtain ⟨A8, c8, rfl, _⟩ := owns_slice h81; have H81 := Lib.hid h81; have H82 := Lib.hid h82; obtain ⟨b8, hb8e⟩ := own_off h81 (by omega); subst hb8e; have hc8 := own_capQ h81; have e8 : w8.cell? ⟨b8, m * 3 + 2, none⟩ = some (.int .i64 (b : Int)) := (by
                    obtain ⟨_, _, e, _, hck⟩ := rdLk (rd_of_owns h81) (by rw [List.length_append, List.length_singleton]; omega)
                    cases e
                    have h := (hck m (by rw [List.length_append, List.length_singleton, ← HLN.out]; omega)).2.2
                    rw [Nat.zero_add] at h
                    rw [h]
                    unfold lT
                    rw [List.getD_eq_getElem?_getD, List.getElem?_append_right (by rw [← HLN.out]; exact Nat.le_refl _), ← HLN.out, Nat.sub_self]; rfl); clear h81 h82 h83)
                  obtain ⟨s1, s2, s3, s4⟩ := HS2.out
                  have HB8 : Hid (Below W.heap.size W w8) := bl_grown HB4.out H82.out fun r e => (HO4.out.lt r e).1
                  have hrow : w8.ownsRow W.heap.size 33 3 (.slice (some ⟨b8, 0, none⟩) (m + 1) c8) (dn ++ [i]).length (fl encLk ((dn ++ [i]).map fun k => ls.getD k lkD)) := by
                    have e1 : (dn ++ [i]).length = m + 1 := by rw [List.length_append, ← HMM.out]; rfl
                    rw [e1, List.map_append, List.map_cons, List.map_nil, HEL.out]
                    exact H81.out
                  go_roundg d
                  case measure => omega
                  case rel => exact ⟨b, dn ++ [i], rfl, s1, s2, s3, s4, hrow, HB8⟩
                · have t1 : (x == A - 1) = false := by simp [hm2]
                  have t2 : decide (x = A - 1) = false := by simp [hm2]
                  have hnx2 := Lib.hid (hnx.out hm2)
                  clear hm2 hnx hst2 HSTEP HEX
                  go_wp2_with fail
                  go_quiet (fail)
                  have HOW : Hid ((wr.drewN nq).ownsRow W.heap.size 33 3 (.slice va m vc) m (fl encLk (dn.map fun k => ls.getD k lkD))) := hown.out
                  have HBWN := Lib.hid (bl_drewN hbw.out nq)
                  go_wp2_with fail
                  go_roundw
                  case rel => exact ⟨j + 1, by omega, by go_num, rfl, by rw [← HAE.out]; exact hnx2, HOW, HBWN⟩
                  case measure => simp [intOf]; omega
              · exfalso
                obtain ⟨i, hi, hfi⟩ := HEX.out
                exact hno.out i (by omega) hfi
      · have hfq := HFAR.out q
        rw [if_neg hqm] at hfq
        rw [hfq] at cq
        have HQM := Lib.hid hqm
        clear hfq hqm
        go_wp2_with fail
        refine leaves_all [D] _ (by simp) (fun D' h => by rw [List.mem_singleton] at h; subst h; exact HDD.out) fun w' ht => ⟨_, results_tmp3 rfl _ _ _, ?_⟩
        refine ⟨_, by rw [hT.out, ← HN.out, decide_eq_false HQM.out]; rfl, ?_, ht.below HBW.out fun D' h => by rw [List.mem_singleton] at h; subst h; exact hDw⟩
        rw [hS.out]
        unfold pthL
        rw [← HN.out, if_neg HQM.out]
        exact World.ownsRow_nil _ _ _ _
end Go.Proofs.YtmfomjaomhohkaaDoor
namespace Go.Proofs.YtmfomjaomhohkaaDoor
open Go Go.RowKit Go.Shelf
def cA : Obj := .cells #[.int .u32 5, .int .u32 2] 57
def cB : Obj := .cells #[.int .u32 3, .int .u32 4] 57
def cP : Obj := .cells #[.int .u32 2, .int .u32 5] 57
set_option maxHeartbeats 1000000 in
theorem a_any (w : World) : Calls Tryd.prog 26 #[] w fun e w' => e = .returned (.agg #[.int .u32 5, .int .u32 2]) ∧ w' = w.alloc cA := by
  go_enter Tryd.func26, Tryd.ntmps26
  go_wp2_with fail
  exact bodyPost_ret (v := .agg #[.int .u32 5, .int .u32 2]) (by simp [results, Tryd.results26, go_sem]) rfl ⟨rfl, rfl⟩
set_option maxHeartbeats 1000000 in
theorem b_any (w : World) : Calls Tryd.prog 27 #[] w fun e w' => e = .returned (.agg #[.int .u32 3, .int .u32 4]) ∧ w' = w.alloc cB := by
  go_enter Tryd.func27, Tryd.ntmps27
  go_wp2_with fail
  exact bodyPost_ret (v := .agg #[.int .u32 3, .int .u32 4]) (by simp [results, Tryd.results27, go_sem]) rfl ⟨rfl, rfl⟩
set_option maxHeartbeats 1000000 in
theorem p_any (w : World) : Calls Tryd.prog 30 #[] w fun e w' => e = .returned (.agg #[.int .u32 2, .int .u32 5]) ∧ w' = w.alloc cP := by
  go_enter Tryd.func30, Tryd.ntmps30
  go_wp2_with fail
  exact bodyPost_ret (v := .agg #[.int .u32 2, .int .u32 5]) (by simp [results, Tryd.results30, go_sem]) rfl ⟨rfl, rfl⟩
theorem Blk.newN {w : World} {B : Nat} (cs : Array Value) (t : TypeId) (h : B = w.heap.size) : Blk (w.alloc (.cells cs t)) B cs t := h ▸ Blk.new w cs t
def nOld : ByteArray := { data := #[111, 108, 100] }
def nWest : ByteArray := { data := #[119, 101, 115, 116] }
def nEast : ByteArray := { data := #[101, 97, 115, 116] }
def exE : List Et := [(nOld, [(5, 2), (2, 5), (5, 2)]), (nWest, [(5, 2), (3, 4), (5, 2)]), (nEast, [(5, 2), (2, 5)]), (nWest, [(5, 2), (2, 5)]), (nWest, [(3, 4)])]
def exL : List Lk := [(1, 0, 1), (1, 0, 2), (2, 2, 3), (3, 1, 3)]
theorem ex_add : ∀ i, i < 5 → addE (exE.take i) (exE.getD i etD).1 (exE.getD i etD).2 = 0 := by decide +kernel
theorem ex_lk : ∀ i, i < 4 → lkE 5 (exL.take i) (exL.getD i (0, 0, 0)) = 0 := by decide +kernel
/-- A word of few small sounds is found by a key at any time. -/
def Small (lang : ByteArray) (l : List Sd) : Prop := lang.size < 100 ∧ l.length ≤ 1048576 ∧ ∀ i, i < l.length → sP l i < 100 ∧ sM l i < 100
instance (lang : ByteArray) (l : List Sd) : Decidable (Small lang l) := by unfold Small; infer_instance
theorem Small.ky {lang : ByteArray} {l : List Sd} (h : Small lang l) (B : Nat) (w : World) : KyB B w lang l :=
  ⟨by have := h.1; omega, h.2.1, fun i hi => by
    have h1 := h.2.2 i hi
    omega, fun W _ => ItAt.small W h.1, fun W _ i hi => ⟨FmtAt.small W (h.2.2 i hi).1, FmtAt.small W (h.2.2 i hi).2⟩⟩
theorem ex_small : ∀ i, i < 5 → Small (exE.getD i etD).1 (exE.getD i etD).2 := by decide +kernel
set_option maxHeartbeats 4000000 in
set_option maxRecDepth 100000 in
theorem example_any (w : World) : Calls Tryd.prog 25 #[] w fun e w' => ∃ (O : Nat → Prop) (g : Nat) (r : GrA), e = .returned (.pointer (some ⟨g, 0, none⟩)) ∧ GrAt w' O g r exE exL ∧ (∀ k, O k → w.heap.size ≤ k) ∧ Below w.heap.size w w' := by
  have HNW := Lib.hid (new_any w)
  have HA := Lib.hid a_any
  have HB := Lib.hid b_any
  have HP := Lib.hid p_any
  go_enter Tryd.func25, Tryd.ntmps25
  go_wp2_with fail
  refine HNW.out.mono ?_
  rintro e w1 ⟨O1, g, r1, rfl, hg1, hO1, hb1⟩
  have HG1 := Lib.hid hg1
  have HO1 := Lib.hid hO1
  have HB1 := Lib.hid hb1
  clear hg1 hO1 hb1
  go_wp2_with first | fail | (go_at_call 26; refine (HA.out _).mono ?_; rintro e wx ⟨rfl, rfl⟩) | (go_at_call 27; refine (HB.out _).mono ?_; rintro e wx ⟨rfl, rfl⟩) | (go_at_call 30; refine (HP.out _).mono ?_; rintro e wx ⟨rfl, rfl⟩)
  generalize hWL : World.alloc _ _ = WL
  have HBL : Hid (Below w1.heap.size w1 WL) := by rw [← hWL]; show Below _ _ _; repeat (first | exact Below.refl _ _ | refine bl_alloc ?_ _)
  have hS0 : Blk WL (w1.heap.size + 1 + 1 + 1) (fl encSd (exE.getD 0 etD).2).toArray 57 := by rw [← hWL]; repeat (first | (refine Blk.newN _ _ ?_; simp; done) | refine Blk.alloc ?_ _)
  have hS1 : Blk WL (w1.heap.size + 1 + 1 + 1 + 1 + 1 + 1 + 1) (fl encSd (exE.getD 1 etD).2).toArray 57 := by rw [← hWL]; repeat (first | (refine Blk.newN _ _ ?_; simp; done) | refine Blk.alloc ?_ _)
  have hS2 : Blk WL (w1.heap.size + 1 + 1 + 1 + 1 + 1 + 1 + 1 + 1 + 1 + 1) (fl encSd (exE.getD 2 etD).2).toArray 57 := by rw [← hWL]; repeat (first | (refine Blk.newN _ _ ?_; simp; done) | refine Blk.alloc ?_ _)
  have hS3 : Blk WL (w1.heap.size + 1 + 1 + 1 + 1 + 1 + 1 + 1 + 1 + 1 + 1 + 1 + 1 + 1) (fl encSd (exE.getD 3 etD).2).toArray 57 := by rw [← hWL]; repeat (first | (refine Blk.newN _ _ ?_; simp; done) | refine Blk.alloc ?_ _)
  have hS4 : Blk WL (w1.heap.size + 1 + 1 + 1 + 1 + 1 + 1 + 1 + 1 + 1 + 1 + 1 + 1 + 1 + 1 + 1) (fl encSd (exE.getD 4 etD).2).toArray 57 := by rw [← hWL]; repeat (first | (refine Blk.newN _ _ ?_; simp; done) | refine Blk.alloc ?_ _)
  obtain ⟨tL, hL⟩ : ∃ t, Blk WL (w1.heap.size + 1 + 1 + 1 + 1 + 1 + 1 + 1 + 1 + 1 + 1 + 1 + 1 + 1 + 1 + 1 + 1) #[.string nOld, .slice (some ⟨w1.heap.size + 1 + 1 + 1, 0, none⟩) 3 3, .string nWest, .slice (some ⟨w1.heap.size + 1 + 1 + 1 + 1 + 1 + 1 + 1, 0, none⟩) 3 3, .string nEast, .slice (some ⟨w1.heap.size + 1 + 1 + 1 + 1 + 1 + 1 + 1 + 1 + 1 + 1, 0, none⟩) 2 2, .string nWest, .slice (some ⟨w1.heap.size + 1 + 1 + 1 + 1 + 1 + 1 + 1 + 1 + 1 + 1 + 1 + 1 + 1, 0, none⟩) 2 2, .string nWest, .slice (some ⟨w1.heap.size + 1 + 1 + 1 + 1 + 1 + 1 + 1 + 1 + 1 + 1 + 1 + 1 + 1 + 1 + 1, 0, none⟩) 1 1] t := by refine ⟨?t, ?h⟩; case h => (rw [← hWL]; refine Blk.newN _ _ ?_; simp; done)
  clear hWL
  obtain ⟨L, hLe⟩ : ∃ y, y = w1.heap.size + 1 + 1 + 1 + 1 + 1 + 1 + 1 + 1 + 1 + 1 + 1 + 1 + 1 + 1 + 1 + 1 := ⟨_, rfl⟩
  rw [← hLe] at hL ⊢
  obtain ⟨S4, hS4e⟩ : ∃ y, y = w1.heap.size + 1 + 1 + 1 + 1 + 1 + 1 + 1 + 1 + 1 + 1 + 1 + 1 + 1 + 1 + 1 := ⟨_, rfl⟩
  rw [← hS4e] at hS4 hL ⊢
  obtain ⟨S3, hS3e⟩ : ∃ y, y = w1.heap.size + 1 + 1 + 1 + 1 + 1 + 1 + 1 + 1 + 1 + 1 + 1 + 1 + 1 := ⟨_, rfl⟩
  rw [← hS3e] at hS3 hL ⊢
  obtain ⟨S2, hS2e⟩ : ∃ y, y = w1.heap.size + 1 + 1 + 1 + 1 + 1 + 1 + 1 + 1 + 1 + 1 := ⟨_, rfl⟩
  rw [← hS2e] at hS2 hL ⊢
  obtain ⟨S1, hS1e⟩ : ∃ y, y = w1.heap.size + 1 + 1 + 1 + 1 + 1 + 1 + 1 := ⟨_, rfl⟩
  rw [← hS1e] at hS1 hL ⊢
  obtain ⟨S0, hS0e⟩ : ∃ y, y = w1.heap.size + 1 + 1 + 1 := ⟨_, rfl⟩
  rw [← hS0e] at hS0 hL ⊢
  have HSB : Hid (∀ n, n < 5 → w1.heap.size ≤ [S0, S1, S2, S3, S4].getD n 0) := fun n hn => by
    match n, hn with
    | 0, _ => show _ ≤ S0; omega
    | 1, _ => show _ ≤ S1; omega
    | 2, _ => show _ ≤ S2; omega
    | 3, _ => show _ ≤ S3; omega
    | 4, _ => show _ ≤ S4; omega
  have HLL : Hid (w1.heap.size ≤ L) := by show _ ≤ L; omega
  have HSR : Hid (∀ n, n < 5 → Rd WL (some ⟨[S0, S1, S2, S3, S4].getD n 0, 0, none⟩) (fl encSd (exE.getD n etD).2)) := fun n hn => by
    match n, hn with
    | 0, _ => exact rd_of_blkQ hS0
    | 1, _ => exact rd_of_blkQ hS1
    | 2, _ => exact rd_of_blkQ hS2
    | 3, _ => exact rd_of_blkQ hS3
    | 4, _ => exact rd_of_blkQ hS4
  have HSZ : Hid (∀ n, n < 5 → [S0, S1, S2, S3, S4].getD n 0 < WL.heap.size) := fun n hn => by
    match n, hn with
    | 0, _ => exact hS0.lt
    | 1, _ => exact hS1.lt
    | 2, _ => exact hS2.lt
    | 3, _ => exact hS3.lt
    | 4, _ => exact hS4.lt
  have HLC : Hid (∀ n, n < 5 → L < WL.heap.size ∧ WL.cell? ⟨L, n * 2, none⟩ = some (.string (exE.getD n etD).1) ∧ WL.cell? ⟨L, n * 2 + 1, none⟩ = some (.slice (some ⟨[S0, S1, S2, S3, S4].getD n 0, 0, none⟩) (exE.getD n etD).2.length (exE.getD n etD).2.length)) := fun n hn => by
    match n, hn with
    | 0, _ => exact ⟨hL.lt, hL.cell 0, hL.cell 1⟩
    | 1, _ => exact ⟨hL.lt, hL.cell 2, hL.cell 3⟩
    | 2, _ => exact ⟨hL.lt, hL.cell 4, hL.cell 5⟩
    | 3, _ => exact ⟨hL.lt, hL.cell 6, hL.cell 7⟩
    | 4, _ => exact ⟨hL.lt, hL.cell 8, hL.cell 9⟩
  have HLT1 : Hid (∀ k, O1 k → k < w1.heap.size) := HG1.out.lt
  have HG0 : Hid (GrAt WL O1 g r1 (exE.take 0) []) := HG1.out.bl HBL.out
  have HBW : Hid (Below w.heap.size w WL) := HB1.out.trans (HBL.out.mono HB1.out.size)
  have HK0 : Hid (Keeps O1 WL WL) := Keeps.refl _ _
  have HO0 : Hid (∀ k, O1 k → O1 k ∨ WL.heap.size ≤ k) := fun k q => .inl q
  clear hS0 hS1 hS2 hS3 hS4 hL hLe hS4e hS3e hS2e hS1e hS0e HG1 HBL HNW HA HB HP
  go_loopw [32] (fun x wr => ∃ (n : Nat) (On : Nat → Prop) (rn : GrA), n ≤ 5 ∧ x = .int .i64 n ∧ Hid (GrAt wr On g rn (exE.take n) []) ∧ Hid (Keeps O1 WL wr) ∧ Hid (∀ k, On k → O1 k ∨ WL.heap.size ≤ k)) (fun x _ => 5 - (intOf x).toNat)
  case atStart => exact ⟨0, O1, r1, by omega, rfl, HG0, HK0, HO0⟩
  case round =>
    clear HG0 HK0 HO0
    obtain ⟨n, On, rn, hn, rfl, hG, hK, hOn⟩ := hrel
    by_cases hlt : n < 5
    · have hln : (exE.take n).length = n := by rw [List.length_take]; show min n 5 = n; omega
      have HLN := Lib.hid hln
      obtain ⟨hLt, c0, c1⟩ := HLC.out n hlt
      have hnoL : ¬ O1 L := fun q => by have := HLT1.out L q; have := HLL.out; omega
      have c0 : wr.cell? ⟨L, n * 2, none⟩ = some (.string (exE.getD n etD).1) := (World.cell?_of_block (a := ⟨L, n * 2, none⟩) (hK.out.block L hLt hnoL)).trans c0
      have c1 : wr.cell? ⟨L, n * 2 + 1, none⟩ = some (.slice (some ⟨[S0, S1, S2, S3, S4].getD n 0, 0, none⟩) (exE.getD n etD).2.length (exE.getD n etD).2.length) := (World.cell?_of_block (a := ⟨L, n * 2 + 1, none⟩) (hK.out.block L hLt hnoL)).trans c1
      have hR := (HSR.out n hlt).kp hK.out (fun b o s e q => by
        have e1 : [S0, S1, S2, S3, S4].getD n 0 = b := by cases e; rfl
        have := HLT1.out b q
        have := HSB.out n hlt
        omega)
      have hnb : ∀ b o s, (some ⟨[S0, S1, S2, S3, S4].getD n 0, 0, none⟩ : Option Addr) = some ⟨b, o, s⟩ → ¬ On b := fun b o s e q => by
        have e1 : [S0, S1, S2, S3, S4].getD n 0 = b := by cases e; rfl
        rcases hOn.out b q with q | q
        · have := HLT1.out b q
          have := HSB.out n hlt
          omega
        · have := HSZ.out n hlt
          omega
      have hE := ex_add n hlt
      have hsm := ex_small n hlt
      have htk : exE.take (n + 1) = exE.take n ++ [((exE.getD n etD).1, (exE.getD n etD).2)] := by
        have h5 : n < exE.length := hlt
        rw [List.take_add_one, List.getElem?_eq_getElem h5, List.getD_eq_getElem?_getD, List.getElem?_eq_getElem h5]
        rfl
      obtain ⟨b, hb⟩ : ∃ y, y = [S0, S1, S2, S3, S4].getD n 0 := ⟨_, rfl⟩
      obtain ⟨s, hs⟩ : ∃ y, y = (exE.getD n etD).1 := ⟨_, rfl⟩
      obtain ⟨l, hl⟩ : ∃ y, y = (exE.getD n etD).2 := ⟨_, rfl⟩
      rw [← hb] at hR hnb c1
      rw [← hs] at c0 hE hsm htk
      rw [← hl] at c1 hE hsm htk hR
      have HR := Lib.hid hR
      have HNB := Lib.hid hnb
      have HE := Lib.hid hE
      have HSM := Lib.hid hsm
      have HTK := Lib.hid htk
      obtain ⟨m, hm⟩ : ∃ y, y = l.length := ⟨_, rfl⟩
      rw [← hm] at c1
      have HM := Lib.hid hm
      clear hb hs hl hR hnb hE hsm htk hm hnoL hLt
      go_wp2_with fail
      have hb5 : ∀ o, Below wr.heap.size wr (wr.alloc o) := fun o => bl_alloc (Below.refl _ wr) o
      refine (add_ok (hG.out.bl (hb5 _)) s (some ⟨b, 0, none⟩) m m l HM.out (HR.out.bl (hb5 _)) (fun e => by cases e) HNB.out (HSM.out.ky 0 _) (Nat.zero_le _) (fun _ _ => Nat.zero_le _) HE.out).mono ?_
      rintro e w6 ⟨O6, r6, rfl, hG6, hK6, hO6⟩
      rw [HLN.out]
      have HG6 : Hid (GrAt w6 O6 g r6 (exE.take (n + 1)) []) := by rw [HTK.out]; exact hG6
      have HK6 : Hid (Keeps O1 WL w6) := (hK.out.trans (Keeps.of_below (O := O1) (hb5 _)) (fun x q => .inl q)).trans hK6 (fun x q => hOn.out x q)
      have HO6 : Hid (∀ k, O6 k → O1 k ∨ WL.heap.size ≤ k) := fun k q => by
        rcases hO6 k q with q | q
        · exact hOn.out k q
        · have := (hb5 (.cells #[.string s, .slice (some ⟨b, 0, none⟩) m m] tL)).size
          have := hK.out.size
          have := World.size_alloc wr (.cells #[.string s, .slice (some ⟨b, 0, none⟩) m m] tL)
          exact .inr (by simp at q; omega)
      clear hG6 hK6 hO6 hb5 hG hK hOn hln c0 c1
      go_wp2_with fail
      go_roundw
      case rel => exact ⟨n + 1, O6, r6, by omega, by go_num, HG6, HK6, HO6⟩
      case measure => simp [intOf]; omega
    · obtain rfl : n = 5 := by omega
      have hG5 : GrAt wr On g rn exE [] := hG.out
      have HOW : Hid (∀ k, On k → w.heap.size ≤ k) := fun k q => by
        rcases hOn.out k q with q | q
        · exact HO1.out k q
        · have := HBW.out.size; omega
      have HBR : Hid (Below w.heap.size w wr) := HBW.out.trans (hK.out.bel HBW.out.size fun k q => HO1.out k q)
      have HG5 := Lib.hid hG5
      clear hG hG5 hK hOn HSB HLL HSR HSZ HLC HLT1 HBW HO1 hn hlt
      rw [show (((5 : Nat) : Nat) : Int) = (5 : Int) from rfl]
      go_wp2_with fail
      generalize hWL : World.alloc _ _ = W2
      have hB2 : Below wr.heap.size wr W2 := by rw [← hWL]; exact bl_alloc (Below.refl _ _) _
      have hX : Blk W2 wr.heap.size (fl encLk exL).toArray 33 := by rw [← hWL]; exact Blk.newN _ _ rfl
      clear hWL
      obtain ⟨X, hXe⟩ : ∃ y, y = wr.heap.size := ⟨_, rfl⟩
      rw [← hXe] at hX ⊢
      have HLC : Hid (∀ n, n < 4 → X < W2.heap.size ∧ W2.cell? ⟨X, n * 3, none⟩ = some (.int .i64 (lK exL n)) ∧ W2.cell? ⟨X, n * 3 + 1, none⟩ = some (.int .i64 (lF exL n)) ∧ W2.cell? ⟨X, n * 3 + 2, none⟩ = some (.int .i64 (lT exL n))) := fun n hn => by
        match n, hn with
        | 0, _ => exact ⟨hX.lt, hX.cell 0, hX.cell 1, hX.cell 2⟩
        | 1, _ => exact ⟨hX.lt, hX.cell 3, hX.cell 4, hX.cell 5⟩
        | 2, _ => exact ⟨hX.lt, hX.cell 6, hX.cell 7, hX.cell 8⟩
        | 3, _ => exact ⟨hX.lt, hX.cell 9, hX.cell 10, hX.cell 11⟩
      have HNX : Hid (¬ On X) := fun q => by have := HG5.out.lt X q; omega
      have HB2 : Hid (Below w.heap.size w W2) := HBR.out.trans (hB2.mono HBR.out.size)
      have HG0 : Hid (GrAt W2 On g rn exE (exL.take 0)) := HG5.out.bl hB2
      have HK0 : Hid (Keeps On W2 W2) := Keeps.refl _ _
      have HO0 : Hid (∀ k, On k → On k ∨ W2.heap.size ≤ k) := fun k q => .inl q
      clear hB2 hX hXe HG5 HBR
      go_loopw [60] (fun x wr => ∃ (n : Nat) (Om : Nat → Prop) (rm : GrA), n ≤ 4 ∧ x = .int .i64 n ∧ Hid (GrAt wr Om g rm exE (exL.take n)) ∧ Hid (Keeps On W2 wr) ∧ Hid (∀ k, Om k → On k ∨ W2.heap.size ≤ k)) (fun x _ => 4 - (intOf x).toNat)
      case atStart => exact ⟨0, On, rn, by omega, rfl, HG0, HK0, HO0⟩
      case round =>
        clear HG0 HK0 HO0
        obtain ⟨n, Om, rm, hn, rfl, hG, hK, hOm⟩ := hrel
        by_cases hlt : n < 4
        · obtain ⟨hLt, c0, c1, c2⟩ := HLC.out n hlt
          have c0 : wr.cell? ⟨X, n * 3, none⟩ = some (.int .i64 (lK exL n)) := (World.cell?_of_block (a := ⟨X, n * 3, none⟩) (hK.out.block X hLt HNX.out)).trans c0
          have c1 : wr.cell? ⟨X, n * 3 + 1, none⟩ = some (.int .i64 (lF exL n)) := (World.cell?_of_block (a := ⟨X, n * 3 + 1, none⟩) (hK.out.block X hLt HNX.out)).trans c1
          have c2 : wr.cell? ⟨X, n * 3 + 2, none⟩ = some (.int .i64 (lT exL n)) := (World.cell?_of_block (a := ⟨X, n * 3 + 2, none⟩) (hK.out.block X hLt HNX.out)).trans c2
          have hE : lkE exE.length (exL.take n) (lK exL n, lF exL n, lT exL n) = 0 := ex_lk n hlt
          have htk : exL.take (n + 1) = exL.take n ++ [(lK exL n, lF exL n, lT exL n)] := by
            have h5 : n < exL.length := hlt
            unfold lK lF lT
            rw [List.take_add_one, List.getElem?_eq_getElem h5, List.getD_eq_getElem?_getD, List.getElem?_eq_getElem h5]
            rfl
          obtain ⟨x1, h1⟩ : ∃ y, y = lK exL n := ⟨_, rfl⟩
          obtain ⟨x2, h2⟩ : ∃ y, y = lF exL n := ⟨_, rfl⟩
          obtain ⟨x3, h3⟩ : ∃ y, y = lT exL n := ⟨_, rfl⟩
          rw [← h1] at c0 hE htk
          rw [← h2] at c1 hE htk
          rw [← h3] at c2 hE htk
          have HE := Lib.hid hE
          have HTK := Lib.hid htk
          clear h1 h2 h3 hE htk hLt
          go_wp2_with fail
          have hb5 : ∀ o, Below wr.heap.size wr (wr.alloc o) := fun o => bl_alloc (Below.refl _ wr) o
          refine (link_any (hG.out.bl (hb5 _)) x1 x2 x3).mono ?_
          rintro e w6 ⟨rfl, _, hok⟩
          obtain ⟨O6, r6, hG6, hK6, hO6⟩ := hok HE.out
          rw [HE.out]
          have HG6 : Hid (GrAt w6 O6 g r6 exE (exL.take (n + 1))) := by rw [HTK.out]; exact hG6
          have HK6 : Hid (Keeps On W2 w6) := (hK.out.trans (Keeps.of_below (O := On) (hb5 _)) (fun x q => .inl q)).trans hK6 (fun x q => hOm.out x q)
          have HO6 : Hid (∀ k, O6 k → On k ∨ W2.heap.size ≤ k) := fun k q => by
            rcases hO6 k q with q | q
            · exact hOm.out k q
            · have := hK.out.size
              exact .inr (by simp at q; omega)
          clear hG6 hK6 hO6 hb5 hG hK hOm c0 c1 c2 hok
          go_wp2_with fail
          go_roundw
          case rel => exact ⟨n + 1, O6, r6, by omega, by go_num, HG6, HK6, HO6⟩
          case measure => simp [intOf]; omega
        · obtain rfl : n = 4 := by omega
          go_wp2_with fail
          go_ret
          refine ⟨Om, g, rm, rfl, hG.out, fun k q => ?_, HB2.out.trans (hK.out.bel HB2.out.size fun k q => HOW.out k q)⟩
          rcases hOm.out k q with q | q
          · exact HOW.out k q
          · have := HB2.out.size; omega
end Go.Proofs.YtmfomjaomhohkaaDoor
namespace Go.Proofs.YtmfomjaomhohkaaDoor
open Go Go.RowKit Go.Shelf
theorem pth_fuel {ls : List Lk} {N n : Nat} (hi : LkIn ls N) (hn : n < N) : ∀ m a, a ∈ abL ls N n → dst ls n a = m → ∀ j, pthK ls (farL ls N n) n (m + j) a = pthK ls (farL ls N n) n m a
  | 0, a, ha, hd, j => by
    have e := dst_zero ((ab_iff hi hn).1 ha) hd
    cases j with
    | zero => rfl
    | succ j => rw [Nat.zero_add]; show (if a = n then [] else _) = []; rw [if_pos e]
  | m + 1, a, ha, hd, j => by
    have hne : a ≠ n := fun e => by rw [e, dst_self] at hd; omega
    rw [show m + 1 + j = (m + j) + 1 by omega, pthK, if_neg hne, pthK, if_neg hne]
    cases hf : (toK ls a).find? (fun k => decide (farL ls N n (tW ls k) = farL ls N n a - 1)) with
    | none => rfl
    | some k =>
      have h1 := List.find?_some hf
      simp only [decide_eq_true_eq] at h1
      rw [far_eq hi hn a, if_pos ha, hd] at h1
      rw [far_eq hi hn] at h1
      by_cases hk : tW ls k ∈ abL ls N n
      · rw [if_pos hk] at h1
        dsimp only
        rw [pth_fuel hi hn m (tW ls k) hk (by omega) j]
      · rw [if_neg hk] at h1
        omega
theorem dst_bd {ls : List Lk} {N n a : Nat} (hi : LkIn ls N) (hn : n < N) (ha : a ∈ abL ls N n) : dst ls n a ≤ N := by
  have h1 := far_bd ls n (abL ls N n) (abL ls N n).length (Nat.le_refl _) a
  rw [List.take_length] at h1
  have h2 := far_eq hi hn a
  rw [if_pos ha] at h2
  have h3 := ab_len hi hn
  unfold farL at h2
  omega
/-- The way, computed. -/
def pthC (ls : List Lk) (N n s : Nat) : List Lk := if s ∈ abL ls N n then (pthK ls (farL ls N n) n N s).map fun k => ls.getD k lkD else []
theorem pthL_C {ls : List Lk} {N n s : Nat} (hi : LkIn ls N) (hn : n < N) : pthL ls N n s = pthC ls N n s := by
  unfold pthL pthC
  by_cases h : s ∈ abL ls N n
  · rw [if_pos h, if_pos h]
    have h1 := pth_fuel hi hn _ s h rfl (N - dst ls n s)
    have h2 := dst_bd hi hn h
    rw [show dst ls n s + (N - dst ls n s) = N by omega] at h1
    rw [h1]
  · rw [if_neg h, if_neg h]
def pthOC (ls : List Lk) (N : Nat) (n s : Int) : List Lk := if hasB n N && hasB s N then pthC ls N n.toNat s.toNat else []
theorem pthO_C {ls : List Lk} {N : Nat} {n s : Int} (hi : LkIn ls N) : pthO ls N n s = pthOC ls N n s := by
  unfold pthO pthOC
  by_cases h : (hasB n N && hasB s N) = true
  · rw [if_pos h, if_pos h]
    rw [Bool.and_eq_true] at h
    obtain ⟨k, hk, h2⟩ := has_nat h.1
    rw [hk]
    exact pthL_C hi (by simpa using h2)
  · rw [if_neg h, if_neg h]
theorem ex_in : LkIn exL 5 := by unfold LkIn; decide +kernel
theorem ex_path : pthO exL 5 3 0 = [(1, 0, 1), (3, 1, 3)] := by rw [pthO_C ex_in]; decide +kernel
theorem ex_pathB : pthB exL 5 3 0 = true := by unfold pthB; decide +kernel
theorem ex_src : srcO exL 5 3 = [0] := by decide +kernel
theorem ex_kin : kinO exL 5 1 2 = true := by decide +kernel
theorem ex_inh : inhO exL 5 3 = false := by decide +kernel
theorem ex_dbl : dblL exE exL nWest = [(1, 3)] := by decide +kernel
theorem ex_loop : lkE 5 exL (1, 3, 0) = 9 := by decide +kernel
end Go.Proofs.YtmfomjaomhohkaaDoor
namespace Go.Proofs.YtmfomjaomhohkaaDoor
open Go Go.RowKit Go.Shelf
set_option maxHeartbeats 4000000 in
set_option maxRecDepth 100000 in
theorem works_any (w : World) : Calls Tryd.prog 18 #[] w fun e w' => e = .returned (.bool true) ∧ Below w.heap.size w w' := by
  have HEX := Lib.hid (example_any w)
  go_enter Tryd.func18, Tryd.ntmps18
  go_wp2_with fail
  refine HEX.out.mono ?_
  rintro e w1 ⟨O, g, r, rfl, hG, hO, hb1⟩
  have HG := Lib.hid hG
  have HB1 := Lib.hid hb1
  clear hG hO hb1 HEX
  go_wp2_with fail
  have hs := gsources_any HG.out (3 : Int)
  rw [show ckE exE.length [3] = 0 from rfl, show srcO exL exE.length 3 = [0] from ex_src] at hs
  refine hs.mono ?_
  rintro e w2 ⟨v2, rfl, hv2, hb2⟩
  obtain ⟨a2, c2, rfl, _⟩ := owns_slice hv2
  have hr2 := rd_of_owns hv2
  have HB2 : Hid (Below w1.heap.size w1 w2) := hb2
  have HR2 := Lib.hid hr2
  clear hs hv2 hb2 hr2
  go_wp2_with fail
  have hs := path_any (HG.out.bl HB2.out) (3 : Int) (0 : Int)
  rw [show ckE exE.length [3, 0] = 0 from rfl, show pthO exL exE.length 3 0 = [(1, 0, 1), (3, 1, 3)] from ex_path, show pthB exL exE.length 3 0 = true from ex_pathB] at hs
  refine hs.mono ?_
  rintro e w3 ⟨v3, rfl, hv3, hb3⟩
  obtain ⟨a3, c3, rfl, _⟩ := owns_slice hv3
  have HB3 := Lib.hid (bl_trans HB2.out hb3)
  have HR3 := Lib.hid (rd_of_owns hv3)
  have HR2 := Lib.hid (HR2.out.bl hb3)
  clear hs hv3 hb3 HB2
  go_wp2_with fail
  have hs := kin_any (HG.out.bl HB3.out) (1 : Int) (2 : Int)
  rw [show ckE exE.length [1, 2] = 0 from rfl, show kinO exL exE.length 1 2 = true from ex_kin] at hs
  refine hs.mono ?_
  rintro e w4 ⟨rfl, hb4⟩
  have HB4 := Lib.hid (bl_trans HB3.out hb4)
  have HR3 := Lib.hid (HR3.out.bl hb4)
  have HR2 := Lib.hid (HR2.out.bl hb4)
  clear hs hb4 HB3
  go_wp2_with fail
  have hs := inherited_any (HG.out.bl HB4.out) (3 : Int)
  rw [show ckE exE.length [3] = 0 from rfl, show inhO exL exE.length 3 = false from ex_inh] at hs
  refine hs.mono ?_
  rintro e w5 ⟨rfl, hb5⟩
  have HB5 := Lib.hid (bl_trans HB4.out hb5)
  have HR3 := Lib.hid (HR3.out.bl hb5)
  have HR2 := Lib.hid (HR2.out.bl hb5)
  clear hs hb5 HB4
  go_wp2_with fail
  have hbA := bl_alloc (Below.refl _ w5) (.cells #[.int .i64 0] 3)
  have hs := equal_any a2 (some ⟨w5.heap.size, 0, none⟩) 1 1 c2 1 [0] [0] (w5.alloc (.cells #[.int .i64 0] 3)) rfl rfl (by decide) (by decide) (HR2.out.bl hbA) (rd_of_blkQ (t := 3) (Blk.new w5 _ _))
  rw [show decide (([0] : List Int) = [0]) = true from rfl] at hs
  refine hs.mono ?_
  rintro e w6 ⟨rfl, n6, rfl⟩
  have hb6 := bl_drewN hbA n6
  obtain ⟨w6, hw6⟩ : ∃ y, y = (w5.alloc (.cells #[.int .i64 0] 3)).drewN n6 := ⟨_, rfl⟩
  rw [← hw6] at hb6 ⊢
  have HB6 := Lib.hid (bl_trans HB5.out hb6)
  have HR3 := Lib.hid (HR3.out.bl hb6)
  clear hs hbA hb6 hw6 HB5 HR2
  go_wp2_with fail
  have hbA := bl_alloc (Below.refl _ w6) (.cells #[.int .i64 1, .int .i64 0, .int .i64 1, .int .i64 3, .int .i64 1, .int .i64 3] 33)
  have hs := links_any a3 (some ⟨w6.heap.size, 0, none⟩) 2 2 c3 2 [(1, 0, 1), (3, 1, 3)] [(1, 0, 1), (3, 1, 3)] (w6.alloc (.cells #[.int .i64 1, .int .i64 0, .int .i64 1, .int .i64 3, .int .i64 1, .int .i64 3] 33)) rfl rfl (by decide) (by decide) (HR3.out.bl hbA) (rd_of_blkQ (t := 33) (Blk.new w6 _ _))
  rw [show decide (([(1, 0, 1), (3, 1, 3)] : List Lk) = [(1, 0, 1), (3, 1, 3)]) = true from rfl] at hs
  refine hs.mono ?_
  rintro e w7 ⟨rfl, n7, rfl⟩
  have hb7 := bl_drewN hbA n7
  obtain ⟨w7, hw7⟩ : ∃ y, y = (w6.alloc (.cells #[.int .i64 1, .int .i64 0, .int .i64 1, .int .i64 3, .int .i64 1, .int .i64 3] 33)).drewN n7 := ⟨_, rfl⟩
  rw [← hw7] at hb7 ⊢
  have HB7 := Lib.hid (bl_trans HB6.out hb7)
  clear hs hbA hb7 hw7 HB6 HR3
  go_wp2_with fail
  have hs := doublets_any (HG.out.bl HB7.out) nWest
  rw [show dblL exE exL nWest = [(1, 3)] from ex_dbl] at hs
  refine hs.mono ?_
  rintro e w8 ⟨v8, rfl, hv8, hb8⟩
  obtain ⟨a8, c8, rfl, _⟩ := owns_slice hv8
  have HB8 := Lib.hid (bl_trans HB7.out hb8)
  have HR8 := Lib.hid (rd_of_owns hv8)
  clear hs hv8 hb8 HB7
  go_wp2_with fail
  have hbA := bl_alloc (Below.refl _ w8) (.cells #[.int .i64 1, .int .i64 3] 43)
  have hs := same_any a8 (some ⟨w8.heap.size, 0, none⟩) 1 1 c8 1 [(1, 3)] [(1, 3)] (w8.alloc (.cells #[.int .i64 1, .int .i64 3] 43)) rfl rfl (by decide) (by decide) (HR8.out.bl hbA) (rd_of_blkQ (t := 43) (Blk.new w8 _ _))
  rw [show decide (([(1, 3)] : List (Nat × Nat)) = [(1, 3)]) = true from rfl] at hs
  refine hs.mono ?_
  rintro e w9 ⟨rfl, n9, rfl⟩
  have hb9 := bl_drewN hbA n9
  obtain ⟨w9, hw9⟩ : ∃ y, y = (w8.alloc (.cells #[.int .i64 1, .int .i64 3] 43)).drewN n9 := ⟨_, rfl⟩
  rw [← hw9] at hb9 ⊢
  have HB9 := Lib.hid (bl_trans HB8.out hb9)
  clear hs hbA hb9 hw9 HB8 HR8
  go_wp2_with fail
  refine (link_any (HG.out.bl HB9.out) 1 3 0).mono ?_
  rintro e w10 ⟨rfl, hbl, _⟩
  have hb10 := hbl (by rw [show lkE exE.length exL (1, 3, 0) = 9 from ex_loop]; decide)
  rw [show lkE exE.length exL (1, 3, 0) = 9 from ex_loop]
  have HB10 := Lib.hid (bl_trans HB9.out hb10)
  clear hbl hb10 HB9
  go_wp2_with fail
  refine (len_yes (HG.out.bl HB10.out)).mono ?_
  rintro e w11 ⟨rfl, rfl⟩
  rw [show exE.length = 5 from rfl]
  go_wp2_with fail
  go_ret
  exact ⟨rfl, HB1.out.trans (HB10.out.mono HB1.out.size)⟩
end Go.Proofs.YtmfomjaomhohkaaDoor
namespace Go.Proofs.YtmfomjaomhohkaaDoor
open Go Go.RowKit Go.Shelf
theorem neqSd (x1 x2 y1 y2 : Nat) (w : World) : (binOp .neq 57 (.agg #[.int .u32 x1, .int .u32 x2]) (.agg #[.int .u32 y1, .int .u32 y2])).run Tryd.prog w = .ok (.bool (!decide (x1 = y1 ∧ x2 = y2))) w := by
  have u3 := Tryd.underlying55
  have a3 := Tryd.isAgg55
  have z3 := Tryd.sizeOf55
  have hS : Tryd.prog.underlying 57 = some (.struct (Tryd.prog.fieldsOf 57)) := by kernel_rfl
  have hp : Tryd.prog.stoodInHeld 57 = false := by kernel_rfl
  rw [run_neq_struct, show (10000 : Nat) = 9999 + 1 from rfl, run_equalIn_agg w 9999 57 _ _ hS hp]
  simp only [Program.fieldsOf, Tryd.underlying57]
  go_simp
  by_cases h0 : x1 = y1 <;> by_cases h1 : x2 = y2 <;> simp [h0, h1] <;> omega
theorem guardSd : Tryd.prog.eqGuardType Tryd.prog.depth 57 = false := by kernel_rfl
set_option maxHeartbeats 1000000 in
set_option maxRecDepth 100000 in
theorem wequal_any (a1 a2 : Option Addr) (n1 n2 c1 c2 : Nat) (l1 l2 : List Sd) (w : World) (hn1 : l1.length = n1) (hn2 : l2.length = n2) (hm1 : n1 ≤ 1152921504606846976) (hm2 : n2 ≤ 1152921504606846976) (hA : Rd w a1 (fl encSd l1)) (hB : Rd w a2 (fl encSd l2)) :
    Calls Tryd.prog 31 #[.slice a1 n1 c1, .slice a2 n2 c2] w fun e w' => e = .returned (.bool (decide (l1 = l2))) ∧ ∃ n, w' = w.drewN n := by
  have HN1 := Lib.hid hn1; clear hn1
  have HN2 := Lib.hid hn2; clear hn2
  by_cases hl : n1 = n2
  · subst hl
    go_enter Tryd.func31, Tryd.ntmps31
    go_wp2_with fail
    go_loopw [5] (fun x wr => ∃ k : Nat, k ≤ n1 ∧ x = .int .i64 k ∧ Hid (l1.take k = l2.take k) ∧ ∃ n, wr = w.drewN n) (fun x _ => n1 - (intOf x).toNat)
    case atStart => exact ⟨0, by omega, rfl, rfl, 0, rfl⟩
    case round =>
      obtain ⟨k, hk, rfl, Ht, n, rfl⟩ := hrel
      by_cases hlt : k < n1
      · obtain ⟨b1, o1, rfl, _, hc1⟩ := rdSd hA (by rw [HN1.out]; omega)
        obtain ⟨b2, o2, rfl, _, hc2⟩ := rdSd hB (by rw [HN2.out]; omega)
        obtain ⟨A0, A1⟩ := hc1 k (by rw [HN1.out]; omega)
        obtain ⟨B0, B1⟩ := hc2 k (by rw [HN2.out]; omega)
        clear hc1 hc2 hA hB
        have hgd := guardSd
        obtain ⟨x0, hx0⟩ : ∃ y, y = sP l1 k := ⟨_, rfl⟩
        obtain ⟨y0, hy0⟩ : ∃ y, y = sP l2 k := ⟨_, rfl⟩
        rw [← hx0] at A0
        rw [← hy0] at B0
        obtain ⟨x1, hx1⟩ : ∃ y, y = sM l1 k := ⟨_, rfl⟩
        obtain ⟨y1, hy1⟩ : ∃ y, y = sM l2 k := ⟨_, rfl⟩
        rw [← hx1] at A1
        rw [← hy1] at B1
        have HX : Hid (l1.getD k (0, 0) = (x0, x1)) := by rw [hx0, hx1]; rfl
        have HY : Hid (l2.getD k (0, 0) = (y0, y1)) := by rw [hy0, hy1]; rfl
        clear hx0 hy0 hx1 hy1
        by_cases e : x0 = y0 ∧ x1 = y1
        · have ht2 : Hid (l1.take (k + 1) = l2.take (k + 1)) := eqD_step (0, 0) l1 l2 k Ht.out (by rw [HN1.out]; omega) (by rw [HN2.out]; omega) (by rw [HX.out, HY.out]; obtain ⟨rfl, rfl⟩ := e; rfl)
          have hn1 : ∀ W, (binOp .neq 57 (.agg #[.int .u32 (x0 : Nat), .int .u32 (x1 : Nat)]) (.agg #[.int .u32 (y0 : Nat), .int .u32 (y1 : Nat)])).run Tryd.prog W = .ok (.bool false) W := fun W => by rw [neqSd, decide_eq_true e]; rfl
          clear e
          go_wp2_with fail
          go_quiet (fail)
          go_wp2_with fail
          go_roundw
          case rel => exact ⟨k + 1, by omega, by go_num, ht2, n + nq, by simp⟩
          case measure => simp [intOf]; omega
        · have he : Hid (l1 ≠ l2) := fun q => by
            have h := HX.out
            rw [q, HY.out] at h
            refine e ?_
            simp only [Prod.mk.injEq] at h
            obtain ⟨q0, q1⟩ := h
            exact ⟨q0.symm, q1.symm⟩
          have hn1 : ∀ W, (binOp .neq 57 (.agg #[.int .u32 (x0 : Nat), .int .u32 (x1 : Nat)]) (.agg #[.int .u32 (y0 : Nat), .int .u32 (y1 : Nat)])).run Tryd.prog W = .ok (.bool true) W := fun W => by rw [neqSd, decide_eq_false e]; rfl
          clear e
          go_wp2_with fail
          go_quiet (fail)
          go_wp2_with fail
          go_ret
          exact ⟨ret_b (decide_eq_false he.out).symm, n + nq, by simp⟩
      · go_wp2_with fail
        go_ret
        have he : l1 = l2 := by have := Ht.out; rwa [List.take_of_length_le (by rw [HN1.out]; omega), List.take_of_length_le (by rw [HN2.out]; omega)] at this
        exact ⟨ret_b (decide_eq_true he).symm, n, rfl⟩
  · have t1 : ((n1 : Int) != (n2 : Int)) = true := by simp; omega
    have HLN := Lib.hid hl
    clear hl
    go_enter Tryd.func31, Tryd.ntmps31
    go_wp2_with fail
    go_ret
    exact ⟨ret_b (decide_eq_false (fun e => HLN.out (by rw [← HN1.out, ← HN2.out, e]))).symm, 0, rfl⟩
set_option maxHeartbeats 1000000 in
set_option maxRecDepth 100000 in
theorem add_no {w : World} {v : Value} (h : GrNo w v) (x y : Value) :
    Calls Tryd.prog 22 #[v, x, y] w fun e w' => e = .returned (.tuple #[.int .i64 0, .int .i64 1]) ∧ w' = w := by
  have HM := Lib.hid (made_no h)
  clear h
  go_enter Tryd.func22, Tryd.ntmps22
  go_wp2_with first | fail | (refine HM.out.mono ?_; rintro e w1 ⟨rfl, hw⟩; subst w1)
  go_ret2
  exact ⟨rfl, rfl⟩
set_option maxHeartbeats 1000000 in
set_option maxRecDepth 100000 in
theorem link_no {w : World} {v : Value} (h : GrNo w v) (x1 x2 x3 : Int) :
    Calls Tryd.prog 23 #[v, .agg #[.int .i64 x1, .int .i64 x2, .int .i64 x3]] w fun e w' => e = .returned (.int .i64 1) ∧ Below w.heap.size w w' := by
  have hb0 := bl_alloc (bl_alloc (Below.refl _ w) (.cells #[.int .i64 x1, .int .i64 x2, .int .i64 x3] 33)) (.cells #[.int .i64 0] 35)
  have HM := Lib.hid (made_no (h.bl hb0))
  have HB0 := Lib.hid hb0
  clear h hb0
  go_enter Tryd.func23, Tryd.ntmps23
  go_wp2_with first | fail | (refine HM.out.mono ?_; rintro e w1 ⟨rfl, hw⟩; subst w1)
  have hW : Blk ((w.alloc (.cells #[.int .i64 x1, .int .i64 x2, .int .i64 x3] 33)).alloc (.cells #[.int .i64 1] 35)) (w.heap.size + 1) #[.int .i64 1] 35 := Blk.new2 _ _ _ _
  exact bodyPost_ret (v := .int .i64 1) (results_cellQ rfl _ _ (w.heap.size + 1) _ rfl (load_errno hW)) rfl ⟨rfl, bl_alloc (bl_alloc (Below.refl _ w) _) _⟩
end Go.Proofs.YtmfomjaomhohkaaDoor
namespace Go.Proofs.YtmfomjaomhohkaaDoor
open Go Go.RowKit Go.Shelf
def nSp : ByteArray := { data := #[119, 101, 32, 115, 116] }
def nNorth : ByteArray := { data := #[110, 111, 114, 116, 104] }
theorem kn_s4 : srcO exL 5 4 = [4] := by decide +kernel
theorem kn_s5 : srcO exL 5 5 = [] := by decide +kernel
theorem kn_p34 : pthOC exL 5 3 4 = [] := by decide +kernel
theorem kn_p33 : pthOC exL 5 3 3 = [] := by decide +kernel
theorem kn_pm : pthOC exL 5 3 (-1) = [] := by decide +kernel
theorem kn_k14 : kinO exL 5 1 4 = false := by decide +kernel
theorem kn_k15 : kinO exL 5 1 5 = false := by decide +kernel
theorem kn_i1 : inhO exL 5 1 = true := by decide +kernel
theorem kn_i0 : inhO exL 5 0 = true := by decide +kernel
theorem kn_a1 : addE exE nWest [(5, 2), (3, 4), (5, 2)] = 6 := by decide +kernel
theorem kn_a2 : addE exE nSp (List.replicate 33 (0, 0)) = 15 := by decide +kernel
theorem kn_a3 : addE exE nWest (List.replicate 33 (0, 0)) = 11 := by decide +kernel
theorem kn_gF : gF (exE.map eK) (keyB nWest [(5, 2), (2, 5)]) = 3 := by decide +kernel
theorem kn_gG : gG (exE.map eK) (keyB nWest [(5, 2), (2, 5)]) = true := by decide +kernel
theorem kn_l1 : lkE 5 exL (1, 1, 1) = 9 := by decide +kernel
theorem kn_l2 : lkE 5 exL (1, 0, 1) = 6 := by decide +kernel
theorem kn_l3 : lkE 5 exL (4, 9, 9) = 2 := by decide +kernel
theorem kn_l4 : lkE 5 exL (0, 0, 1) = 2 := by decide +kernel
theorem kn_l5 : lkE 5 exL (2, 0, 9) = 3 := by decide +kernel
theorem kn_d : dblL exE exL nNorth = [] := by decide +kernel
theorem kn_sm1 : Small nWest [(5, 2), (3, 4), (5, 2)] := by decide +kernel
theorem kn_sm2 : Small nSp (List.replicate 33 (0, 0)) := by decide +kernel
theorem kn_sm3 : Small nWest (List.replicate 33 (0, 0)) := by decide +kernel
theorem kn_sm4 : Small nWest [(5, 2), (2, 5)] := by decide +kernel
theorem kn_b34 : pthB exL 5 3 4 = false := by unfold pthB; decide +kernel
theorem kn_b33 : pthB exL 5 3 3 = true := by unfold pthB; decide +kernel
theorem kn_bm : pthB exL 5 3 (-1) = false := by unfold pthB; decide +kernel
set_option maxHeartbeats 16000000 in
set_option maxRecDepth 100000 in
theorem known_any (w : World) : Calls Tryd.prog 7 #[] w fun e w' => e = .returned (.bool true) ∧ Below w.heap.size w w' := by
  have HEX := Lib.hid (example_any w)
  have HA := Lib.hid a_any
  have HB := Lib.hid b_any
  have HP := Lib.hid p_any
  go_enter Tryd.func7, Tryd.ntmps7
  have hmk : ∀ w, (Instr.makeSlice 58 (.int .i64 33) (.int .i64 33)).run Tryd.prog w = .ok (.slice (some ⟨w.heap.size, 0, none⟩) 33 33) (w.alloc (.cells (fl encSd (List.replicate 33 (0, 0))).toArray 57)) := fun _ => by kernel_rfl
  go_wp2_with fail
  refine HEX.out.mono ?_
  rintro e w1 ⟨O, g, r, rfl, hG, hO, hb1⟩
  have HBZ := Lib.hid hb1
  clear hO hb1 HEX
  go_wp2_with fail
  have hs := gsources_any hG (4 : Int)
  rw [show ckE exE.length [4] = 0 from rfl, show srcO exL exE.length 4 = [4] from kn_s4] at hs
  refine hs.mono ?_
  rintro e w2 ⟨v2, rfl, hv2, hb2⟩
  obtain ⟨a2, c2, rfl, _⟩ := owns_slice hv2
  have HR2 := Lib.hid (rd_of_owns hv2)
  have HG := Lib.hid (hG.bl hb2)
  have HBZ := Lib.hid (HBZ.out.trans (hb2.mono HBZ.out.size))
  have HB0 : Hid (Below w2.heap.size w2 w2) := Below.refl _ _
  clear hs hv2 hb2 hG
  go_wp2_with fail
  have hs := gsources_any (HG.out.bl HB0.out) (5 : Int)
  rw [show ckE exE.length [5] = 3 from rfl, show srcO exL exE.length 5 = [] from kn_s5] at hs
  refine hs.mono ?_
  rintro e x1 ⟨v, rfl, hv, hb⟩
  obtain ⟨_, _, rfl, _⟩ := owns_slice hv
  have HB1 := Lib.hid (bl_trans HB0.out hb)
  clear hs hb HB0 hv
  go_wp2_with fail
  have hs := path_any (HG.out.bl HB1.out) (3 : Int) (4 : Int)
  rw [show ckE exE.length [3, 4] = 0 from rfl, show pthO exL exE.length 3 4 = [] from (pthO_C ex_in).trans kn_p34, show pthB exL exE.length 3 4 = false from kn_b34] at hs
  refine hs.mono ?_
  rintro e x2 ⟨v, rfl, hv, hb⟩
  obtain ⟨_, _, rfl, _⟩ := owns_slice hv
  have HB2 := Lib.hid (bl_trans HB1.out hb)
  clear hs hb HB1 hv
  go_wp2_with fail
  have hs := path_any (HG.out.bl HB2.out) (3 : Int) (3 : Int)
  rw [show ckE exE.length [3, 3] = 0 from rfl, show pthO exL exE.length 3 3 = [] from (pthO_C ex_in).trans kn_p33, show pthB exL exE.length 3 3 = true from kn_b33] at hs
  refine hs.mono ?_
  rintro e x3 ⟨v, rfl, hv, hb⟩
  obtain ⟨_, _, rfl, _⟩ := owns_slice hv
  have HB3 := Lib.hid (bl_trans HB2.out hb)
  clear hs hb HB2 hv
  go_wp2_with fail
  have hs := path_any (HG.out.bl HB3.out) (3 : Int) (-1 : Int)
  rw [show ckE exE.length [3, -1] = 3 from rfl, show pthO exL exE.length 3 (-1) = [] from (pthO_C ex_in).trans kn_pm, show pthB exL exE.length 3 (-1) = false from kn_bm] at hs
  refine hs.mono ?_
  rintro e x4 ⟨v, rfl, hv, hb⟩
  obtain ⟨_, _, rfl, _⟩ := owns_slice hv
  have HB4 := Lib.hid (bl_trans HB3.out hb)
  clear hs hb HB3 hv
  go_wp2_with fail
  have hs := kin_any (HG.out.bl HB4.out) (1 : Int) (4 : Int)
  rw [show ckE exE.length [1, 4] = 0 from rfl, show kinO exL exE.length 1 4 = false from kn_k14] at hs
  refine hs.mono ?_
  rintro e x5 ⟨rfl, hb⟩
  have HB5 := Lib.hid (bl_trans HB4.out hb)
  clear hs hb HB4 
  go_wp2_with fail
  have hs := kin_any (HG.out.bl HB5.out) (1 : Int) (5 : Int)
  rw [show ckE exE.length [1, 5] = 3 from rfl, show kinO exL exE.length 1 5 = false from kn_k15] at hs
  refine hs.mono ?_
  rintro e x6 ⟨rfl, hb⟩
  have HB6 := Lib.hid (bl_trans HB5.out hb)
  clear hs hb HB5 
  go_wp2_with fail
  have hs := inherited_any (HG.out.bl HB6.out) (1 : Int)
  rw [show ckE exE.length [1] = 0 from rfl, show inhO exL exE.length 1 = true from kn_i1] at hs
  refine hs.mono ?_
  rintro e x7 ⟨rfl, hb⟩
  have HB7 := Lib.hid (bl_trans HB6.out hb)
  clear hs hb HB6 
  go_wp2_with fail
  have hs := inherited_any (HG.out.bl HB7.out) (0 : Int)
  rw [show ckE exE.length [0] = 0 from rfl, show inhO exL exE.length 0 = true from kn_i0] at hs
  refine hs.mono ?_
  rintro e x8 ⟨rfl, hb⟩
  have HB8 := Lib.hid (bl_trans HB7.out hb)
  clear hs hb HB7 
  go_wp2_with first | fail | (go_at_call 26; refine (HA.out _).mono ?_; rintro e wx ⟨rfl, rfl⟩) | (go_at_call 27; refine (HB.out _).mono ?_; rintro e wx ⟨rfl, rfl⟩) | (go_at_call 30; refine (HP.out _).mono ?_; rintro e wx ⟨rfl, rfl⟩)
  generalize hW : World.alloc _ _ = y8
  have hB : Below w2.heap.size w2 y8 := by rw [← hW]; repeat (first | exact HB8.out | refine bl_alloc ?_ _)
  have hX : Blk y8 (x8.heap.size + 1 + 1 + 1) (fl encSd [(5, 2), (3, 4), (5, 2)]).toArray 57 := by rw [← hW]; refine Blk.newN _ _ ?_; simp
  clear hW
  refine (add_err (HG.out.bl hB) nWest _ 3 3 [(5, 2), (3, 4), (5, 2)] rfl (rd_of_blkQ hX) (kn_sm1.ky 0 _ |>.at (Below.refl _ _)) (by rw [show addE exE nWest [(5, 2), (3, 4), (5, 2)] = 6 from kn_a1]; decide)).mono ?_
  rw [show addE exE nWest [(5, 2), (3, 4), (5, 2)] = 6 from kn_a1]
  rintro e x9 ⟨rfl, hb⟩
  have HB9 := Lib.hid (bl_trans hB hb)
  clear hb hB hX HB8
  go_wp2_with fail
  generalize hW : World.alloc _ _ = y9
  have hB : Below w2.heap.size w2 y9 := by rw [← hW]; exact bl_alloc HB9.out _
  have hX : Blk y9 x9.heap.size (fl encSd (List.replicate 33 (0, 0))).toArray 57 := by rw [← hW]; exact Blk.new _ _ _
  clear hW
  refine (add_err (HG.out.bl hB) nSp _ 33 33 (List.replicate 33 (0, 0)) rfl (rd_of_blkQ hX) (kn_sm2.ky 0 _ |>.at (Below.refl _ _)) (by rw [show addE exE nSp (List.replicate 33 (0, 0)) = 15 from kn_a2]; decide)).mono ?_
  rw [show addE exE nSp (List.replicate 33 (0, 0)) = 15 from kn_a2]
  rintro e x10 ⟨rfl, hb⟩
  have HB10 := Lib.hid (bl_trans hB hb)
  clear hb hB hX HB9
  go_wp2_with fail
  generalize hW : World.alloc _ _ = y10
  have hB : Below w2.heap.size w2 y10 := by rw [← hW]; exact bl_alloc HB10.out _
  have hX : Blk y10 x10.heap.size (fl encSd (List.replicate 33 (0, 0))).toArray 57 := by rw [← hW]; exact Blk.new _ _ _
  clear hW
  refine (add_err (HG.out.bl hB) nWest _ 33 33 (List.replicate 33 (0, 0)) rfl (rd_of_blkQ hX) (kn_sm3.ky 0 _ |>.at (Below.refl _ _)) (by rw [show addE exE nWest (List.replicate 33 (0, 0)) = 11 from kn_a3]; decide)).mono ?_
  rw [show addE exE nWest (List.replicate 33 (0, 0)) = 11 from kn_a3]
  rintro e x11 ⟨rfl, hb⟩
  have HB11 := Lib.hid (bl_trans hB hb)
  clear hb hB hX HB10
  clear hmk
  go_wp2_with fail
  have hs := at_yes (HG.out.bl HB11.out) 2 (by decide)
  refine hs.mono ?_
  rintro e x0 ⟨v3, rfl, hv3, hb3⟩
  obtain ⟨a3, c3, rfl, _⟩ := owns_slice hv3
  rw [show (exE.getD 2 etD).1 = ({ data := #[101, 97, 115, 116] } : ByteArray) from rfl, show (exE.getD 2 etD).2.length = 2 from rfl]
  have hb := bl_trans HB11.out hb3
  have HR3 : Hid (Rd x0 a3 (fl encSd [(5, 2), (2, 5)])) := rd_of_owns hv3
  have HR2 := Lib.hid (HR2.out.bl hb)
  have HG := Lib.hid (HG.out.bl hb)
  have HBZ := Lib.hid (HBZ.out.trans (hb.mono HBZ.out.size))
  have HB0 : Hid (Below x0.heap.size x0 x0) := Below.refl _ _
  clear hs hv3 hb3 hb HB11
  go_wp2_with fail
  refine (at_out (HG.out.bl HB0.out) (5 : Int) (by decide)).mono ?_
  rintro e x1 ⟨rfl, hw⟩
  subst x1
  go_wp2_with first | fail | (go_at_call 26; refine (HA.out _).mono ?_; rintro e wx ⟨rfl, rfl⟩) | (go_at_call 27; refine (HB.out _).mono ?_; rintro e wx ⟨rfl, rfl⟩) | (go_at_call 30; refine (HP.out _).mono ?_; rintro e wx ⟨rfl, rfl⟩)
  generalize hW : World.alloc _ _ = y0
  have hB : Below x0.heap.size x0 y0 := by rw [← hW]; repeat (first | exact HB0.out | refine bl_alloc ?_ _)
  have hX : Blk y0 (x0.heap.size + 1 + 1) (fl encSd [(5, 2), (2, 5)]).toArray 57 := by rw [← hW]; refine Blk.newN _ _ ?_; simp
  clear hW
  have hs := find_yes (HG.out.bl hB) nWest _ 2 2 [(5, 2), (2, 5)] rfl (rd_of_blkQ hX) (kn_sm4.ky 0 _ |>.at (Below.refl _ _))
  rw [kn_gF, kn_gG] at hs
  refine hs.mono ?_
  rintro e x1 ⟨rfl, hb⟩
  have HB1 := Lib.hid (bl_trans hB hb)
  clear hb hB hX HB0 hs
  go_wp2_with fail
  generalize hW : World.alloc _ _ = y1
  have hB : Below x0.heap.size x0 y1 := by rw [← hW]; repeat (first | exact HB1.out | refine bl_alloc ?_ _)
  have hX : Blk y1 (x1.heap.size) (fl encI [4]).toArray 3 := by rw [← hW]; refine Blk.newN _ _ ?_; simp
  clear hW
  have hs := equal_any a2 _ 1 1 c2 1 [4] [4] y1 rfl rfl (by decide) (by decide) (HR2.out.bl hB) (rd_of_blkQ hX)
  rw [show decide (([4] : List Int) = [4]) = true from rfl] at hs
  refine hs.mono ?_
  rintro e x2 ⟨rfl, n, rfl⟩
  have hb : Below y1.heap.size y1 (y1.drewN n) := bl_drewN (Below.refl _ y1) n
  generalize World.drewN y1 n = x2 at hb ⊢
  have HB2 := Lib.hid (bl_trans hB hb)
  clear hb hB hX HB1 hs
  go_wp2_with first | fail | (go_at_call 26; refine (HA.out _).mono ?_; rintro e wx ⟨rfl, rfl⟩) | (go_at_call 27; refine (HB.out _).mono ?_; rintro e wx ⟨rfl, rfl⟩) | (go_at_call 30; refine (HP.out _).mono ?_; rintro e wx ⟨rfl, rfl⟩)
  generalize hW : World.alloc _ _ = y2
  have hB : Below x0.heap.size x0 y2 := by rw [← hW]; repeat (first | exact HB2.out | refine bl_alloc ?_ _)
  have hX : Blk y2 (x2.heap.size + 1 + 1) (fl encSd [(5, 2), (2, 5)]).toArray 57 := by rw [← hW]; refine Blk.newN _ _ ?_; simp
  clear hW
  have hs := wequal_any a3 _ 2 2 c3 2 [(5, 2), (2, 5)] [(5, 2), (2, 5)] y2 rfl rfl (by decide) (by decide) (HR3.out.bl hB) (rd_of_blkQ hX)
  rw [show decide (([(5, 2), (2, 5)] : List Sd) = [(5, 2), (2, 5)]) = true from rfl] at hs
  refine hs.mono ?_
  rintro e x3 ⟨rfl, n, rfl⟩
  have hb : Below y2.heap.size y2 (y2.drewN n) := bl_drewN (Below.refl _ y2) n
  generalize World.drewN y2 n = x3 at hb ⊢
  have HB3 := Lib.hid (bl_trans hB hb)
  clear hb hB hX HB2 hs
  go_wp2_with fail
  refine (link_any (HG.out.bl HB3.out) 1 1 1).mono ?_
  rintro e x4 ⟨rfl, hbl, _⟩
  have hb := hbl (by rw [show lkE exE.length exL (1, 1, 1) = 9 from kn_l1]; decide)
  rw [show lkE exE.length exL (1, 1, 1) = 9 from kn_l1]
  have HB4 := Lib.hid (bl_trans HB3.out hb)
  clear hbl hb HB3
  go_wp2_with fail
  refine (link_any (HG.out.bl HB4.out) 1 0 1).mono ?_
  rintro e x5 ⟨rfl, hbl, _⟩
  have hb := hbl (by rw [show lkE exE.length exL (1, 0, 1) = 6 from kn_l2]; decide)
  rw [show lkE exE.length exL (1, 0, 1) = 6 from kn_l2]
  have HB5 := Lib.hid (bl_trans HB4.out hb)
  clear hbl hb HB4
  go_wp2_with fail
  refine (link_any (HG.out.bl HB5.out) 4 9 9).mono ?_
  rintro e x6 ⟨rfl, hbl, _⟩
  have hb := hbl (by rw [show lkE exE.length exL (4, 9, 9) = 2 from kn_l3]; decide)
  rw [show lkE exE.length exL (4, 9, 9) = 2 from kn_l3]
  have HB6 := Lib.hid (bl_trans HB5.out hb)
  clear hbl hb HB5
  go_wp2_with fail
  refine (link_any (HG.out.bl HB6.out) 0 0 1).mono ?_
  rintro e x7 ⟨rfl, hbl, _⟩
  have hb := hbl (by rw [show lkE exE.length exL (0, 0, 1) = 2 from kn_l4]; decide)
  rw [show lkE exE.length exL (0, 0, 1) = 2 from kn_l4]
  have HB7 := Lib.hid (bl_trans HB6.out hb)
  clear hbl hb HB6
  go_wp2_with fail
  refine (link_any (HG.out.bl HB7.out) 2 0 9).mono ?_
  rintro e x8 ⟨rfl, hbl, _⟩
  have hb := hbl (by rw [show lkE exE.length exL (2, 0, 9) = 3 from kn_l5]; decide)
  rw [show lkE exE.length exL (2, 0, 9) = 3 from kn_l5]
  have HB8 := Lib.hid (bl_trans HB7.out hb)
  clear hbl hb HB7
  go_wp2_with fail
  have hs := doublets_any (HG.out.bl HB8.out) nNorth
  rw [show dblL exE exL nNorth = [] from kn_d] at hs
  refine hs.mono ?_
  rintro e x9 ⟨v, rfl, hv, hb⟩
  obtain ⟨_, _, rfl, _⟩ := owns_slice hv
  have HB9 := Lib.hid (bl_trans HB8.out hb)
  clear hs hb HB8 hv
  go_wp2_with fail
  refine (works_any x9).mono ?_
  rintro e x10 ⟨rfl, hb⟩
  have HB10 := Lib.hid (bl_trans HB9.out hb)
  clear hb HB9
  go_wp2_with fail
  go_ret
  exact ⟨rfl, HBZ.out.trans (HB10.out.mono HBZ.out.size)⟩
end Go.Proofs.YtmfomjaomhohkaaDoor
namespace Go.Proofs.YtmfomjaomhohkaaDoor
open Go.ChangeShapes Go.WideShapes Go.RowKit Go.Deep
section
variable {H : Type} {enc : TypeId × Value → H} {P : Program}
/-- Arguments read as they did, in a world that keeps all that lay there. -/
theorem trodAll_stays (hl : laidOutB P = true) {W W' : World} {sp : Nat → Bool} (hb : Below W.heap.size W W') : ∀ {ts : List TypeId} {vs : List Value} {ds : List (DataW H)} {ps : List MemPlace}, (∀ t ∈ ts, P.readableRec t = true ∧ t < P.types.size) →
    DataW.TrodAll enc P W 0 (fun _ => true) true ts vs ds ps → (∀ p ∈ ps, p.block < W.heap.size) → (∀ p ∈ ps, sp p.block = true) → DataW.TrodAll enc P W' 0 sp true ts vs ds ps
  | [], vs, ds, ps, _, h, _, _ => by
    obtain ⟨rfl, rfl, rfl⟩ := trodAll_nil h
    exact trodAll_mk0
  | t :: ts, vs, ds, ps, ht, h, hlt, hsp => by
    obtain ⟨v, vs', d, ds', p, q, rfl, rfl, rfl, h1, h2⟩ := trodAll_cons h
    obtain ⟨hr, hrow⟩ := ht t (by simp)
    exact trodAll_cons_mk (WideElems.Trod_stays hl hr hrow h1 (fun x hx => hb.same (hlt x (List.mem_append_left _ hx))) (fun x hx => hsp x (List.mem_append_left _ hx)))
      (trodAll_stays hl hb (fun t' ht' => ht t' (by simp [ht'])) h2 (fun x hx => hlt x (List.mem_append_right _ hx)) (fun x hx => hsp x (List.mem_append_right _ hx)))
/-- What a statement's row asks of a call that returns true and keeps all that lay there. -/
theorem post_law {f : Func} {s : ChangeSpec} {W W' : World} {args : Array Value} {ds : List (DataW H)} {before : List MemPlace} {tb : TypeId} (hsv : s.vars = []) (hfn : s.fn H (ds ++ []) = { results := [.lit (.bool true)], args := ds })
    (hl : laidOutB P = true) (hpt : ∀ t ∈ f.params.toList, P.readableRec t = true ∧ t < P.types.size) (hrt : f.resultTypes = #[tb]) (htb : P.underlying tb = some .bool)
    (hW : DataW.Whole enc P f.params.toList s.vars false W args.toList ds [] before) (hb : Below W.heap.size W W') : s.post enc P f false true false false W args (.bool true) W' := by
  have hlt : ∀ p ∈ before, p.block < W.heap.size := fun p hp => hW.lt p hp
  have hW2 := hW
  obtain ⟨p, q, hA, hV, rfl, _, _⟩ := hW
  rw [hsv] at hV
  obtain ⟨_, rfl⟩ := trodVars_none hV
  rw [List.append_nil] at hlt
  refine ⟨ds, [], _, [], p, [], hW2, ?_, ?_, ?_, ?_, fun h => by cases h⟩
  · rw [hfn, hrt]
    exact trodAll_cons_mk (p := []) (p' := []) (shut_bool htb _) trodAll_mk0
  · rw [hfn]
    exact trodAll_stays hl hb hpt hA hlt (fun x hx => by simpa using hlt x hx)
  · rw [hsv, hfn]
    rfl
  · exact World.keptBut_mono (fun x hx => ⟨by simpa using hx, .inr (.inl (by simpa using hx))⟩) (hb.frame (· ∈ p))
end
end Go.Proofs.YtmfomjaomhohkaaDoor
namespace Go.Proofs.YtmfomjaomhohkaaDoor
open Go.ChangeShapes Go.WideShapes Go.ChangeAt Go.RowKit Go.Deep
theorem own : ownKnob Tryd.prog.godebug = none := by kernel_rfl
theorem laidOut : laidOutB Tryd.prog = true := by kernel_rfl
/-- The cells of a table. -/
def tabCells (d : DataW Unit) : Array Value :=
  match d with
  | .agg ps => (ps.map fun x => match x with
    | .lit (.int k n) => Value.int k n
    | _ => undef).toArray
  | _ => #[]
def laidOn (P : Program) : List (String × DataW Unit) → World → World
  | [], w => w
  | (n, d) :: r, w => laidOn P r { w with heap := w.heap.modify ((P.globalNamed n).getD 0) fun
      | .cells _ t frozen => .cells (tabCells d) t frozen
      | o => o }
/-- A world that holds the tables. -/
noncomputable def laidWorld (os : Os) : World := laidOn Tryd.prog Rows.etymSourcesRow.laid (World.holding Tryd.prog os ⟨#[], #[], []⟩)
theorem list_two {α : Type} : ∀ {l : List α}, l.length = 2 → ∃ a b, l = [a, b]
  | [a, b], _ => ⟨a, b, rfl⟩
def IntOk (x : Int) : Prop := -9223372036854775808 ≤ x ∧ x ≤ 9223372036854775807
end Go.Proofs.YtmfomjaomhohkaaDoor
namespace Go.Proofs.YtmfomjaomhohkaaDoor
open Go.ChangeShapes Go.WideShapes Go.RowKit Go.Deep
theorem weightsAll_mem {H : Type} {P : Program} {e : TypeId} {d : DataW H} : ∀ {l : List (DataW H)}, d ∈ l → ∀ n ∈ d.weights P e, n ∈ DataW.weightsAll P e l
  | x :: l, h, n, hn => by
    simp only [DataW.weightsAll, List.mem_append]
    rcases List.mem_cons.1 h with rfl | h
    · exact .inl hn
    · exact .inr (weightsAll_mem h n hn)
/-- Each argument's weights are bounded. -/
theorem sized_arg {H : Type} {P : Program} {ts : List TypeId} {ds : List (DataW H)} (h : (DataW.weightsEach P ts ds).all (· ≤ reachBytes) = true) {j : Nat} {t : TypeId} {d : DataW H} (ht : ts[j]? = some t) (hd : ds[j]? = some d) : ∀ y ∈ d.weights P t, y ≤ reachBytes :=
  fun y hy => of_decide_eq_true (List.all_eq_true.1 h _ (DataW.weights_mem_each ht hd y hy))
section
variable {H : Type} {enc : TypeId × Value → H} {P : Program}
/-- The cells of a slice that came in: read as a list; its elements' sizes bounded. -/
theorem rd_cellsS {α : Type} {encα : α → List Value} {k : Nat} (hk : ∀ x, (encα x).length = k) (hk0 : 0 < k) {good : α → Prop} {W : World} {t e : TypeId} (ht : P.underlying t = some (.slice e)) (hC : P.cellsOf e = k)
    (hel : ∀ (n : Nat) (cs : List Value) (x : DataW H × List MemPlace), DataW.trod enc P W 0 (fun _ => true) true n e cs = some x → (∀ y ∈ x.1.weights P e, y ≤ reachBytes) → ∃ a : α, cs = encα a ∧ good a) {fuel : Nat} {cs : List Value} {x : DataW H × List MemPlace}
    (hf : DataW.trod enc P W 0 (fun _ => true) true fuel t cs = some x) (hsz : ∀ y ∈ x.1.weights P t, y ≤ reachBytes) :
    ∃ (a : Option Addr) (n c : Nat) (l : List α), cs = [.slice a n c] ∧ l.length = n ∧ n ≤ 9223372036854775807 ∧ (n ≤ c ∧ c ≤ 9223372036854775807) ∧ n * P.bytesOf e ≤ reachBytes ∧ (a = none → n = 0 ∧ c = 0) ∧ Rd W a (fl encα l) ∧ ∀ i (hi : i < l.length), good l[i] := by
  rcases open_slice ht hf with ⟨rfl, _⟩ | ⟨a', len, cap, m, n, D, Pl, rfl, hb, hlc, hcm, hm, hx, hi⟩
  · exact ⟨none, 0, 0, [], rfl, rfl, by omega, ⟨by omega, by omega⟩, by simp, fun _ => ⟨rfl, rfl⟩, Rd.nil _ _, fun i hi => absurd hi (by simp)⟩
  · have hwt : ∀ i, i < len → ∀ y ∈ (D i).weights P e, y ≤ reachBytes := by
      intro i hil y hy
      refine hsz y ?_
      rw [hx]
      simp only [DataW.weights, ht, List.mem_cons, List.mem_append]
      exact .inr (.inl (weightsAll_mem (List.mem_map.2 ⟨i, List.mem_range.2 hil, rfl⟩) y hy))
    have hlen : len * P.bytesOf e ≤ reachBytes := by
      have h1 := hsz ((((List.range len).map D).length + ((List.range (m - len)).map fun j => D (len + j)).length) * P.bytesOf e) (by rw [hx]; simp only [DataW.weights, ht, List.mem_cons, true_or])
      refine Nat.le_trans (Nat.mul_le_mul_right _ ?_) h1
      simp
    simp only [if_true] at hm
    subst hm
    rw [hC] at hi
    have hex : ∀ i, i < len → ∃ x : α, good x ∧ ∀ j, j < k → W.cell? (a'.add (i * k + j)) = (encα x)[j]? := by
      intro i hil
      obtain ⟨cs', h1, h2⟩ := hi i (by omega)
      obtain ⟨x, rfl, hg⟩ := hel _ _ _ h2 (hwt i hil)
      obtain ⟨_, _, hat⟩ := World.cells?_some h1
      refine ⟨x, hg, fun j hj => ?_⟩
      rw [← Go.Deep.add_add]
      exact hat j hj
    have hls : ∀ n, n ≤ len → ∃ l : List α, l.length = n ∧ ∀ i (hi : i < l.length), good l[i] ∧ ∀ j, j < k → W.cell? (a'.add (i * k + j)) = (encα l[i])[j]? := by
      intro n
      induction n with
      | zero => intro _; exact ⟨[], rfl, fun i hi => absurd hi (by simp)⟩
      | succ n ih =>
        intro hn
        obtain ⟨l, hl, hg⟩ := ih (by omega)
        obtain ⟨x, hx1, hx2⟩ := hex n (by omega)
        refine ⟨l ++ [x], by simp [hl], fun i hi => ?_⟩
        by_cases e3 : i < l.length
        · rw [List.getElem_append_left e3]; exact hg i e3
        · obtain rfl : i = n := by simp at hi; omega
          rw [List.getElem_append_right (by omega)]
          simpa [hl] using ⟨hx1, hx2⟩
    obtain ⟨l, hl, hg⟩ := hls len (Nat.le_refl _)
    refine ⟨some a', len, _, l, rfl, hl, by unfold maxLen at hcm; omega, ⟨hlc, by unfold maxLen at hcm; omega⟩, hlen, (fun e => by cases e), ?_, fun i hi => (hg i hi).1⟩
    intro h0
    rw [fl_length hk, hl] at h0
    have hlen0 : 0 < len := by
      rcases Nat.eq_zero_or_pos len with e4 | e4
      · rw [e4] at h0; simp at h0
      · exact e4
    have hcell : ∀ i, i < len * k → W.cell? (a'.add i) = (fl encα l)[i]? := by
      intro i hi
      have hq : i / k < len := (Nat.div_lt_iff_lt_mul hk0).2 hi
      have hr : i % k < k := Nat.mod_lt _ hk0
      have e5 : i / k * k + i % k = i := by rw [Nat.mul_comm]; exact Nat.div_add_mod i k
      have h1 := (hg (i / k) (by rw [hl]; exact hq)).2 (i % k) hr
      have h2 := fl_getElem? hk l (i / k) (i % k) hr
      have hq2 : i / k < l.length := by rw [hl]; exact hq
      rw [List.getElem?_eq_getElem hq2] at h2
      simp only [Option.bind_some] at h2
      rw [e5] at h1 h2
      rw [h1, h2]
    obtain ⟨bb, off, sub⟩ := a'
    have hs0 := hcell 0 h0
    have hne : (fl encα l)[0]? = some ((fl encα l)[0]'(by rw [fl_length hk, hl]; exact h0)) := List.getElem?_eq_getElem _
    rw [hne] at hs0
    have hsub : sub = none := by
      cases sub with
      | none => rfl
      | some z =>
        simp only [Addr.add, if_true, World.cell?, Option.isSome_some] at hs0
        split at hs0 <;> cases hs0
    subst hsub
    refine ⟨bb, off, rfl, World.block_lt_of_cell? W _ hs0, fun i hi => ?_⟩
    rw [fl_length hk, hl] at hi
    have h1 := hcell i hi
    rw [List.getElem?_eq_getElem (by rw [fl_length hk, hl]; exact hi)] at h1
    rw [List.getD_eq_getElem?_getD, List.getElem?_eq_getElem (by rw [fl_length hk, hl]; exact hi)]
    refine Eq.trans ?_ h1
    by_cases hi0 : i = 0
    · subst hi0; rfl
    · simp only [Addr.add, if_neg hi0]
/-- A slice that came in: read as a list; its elements' sizes bounded. -/
theorem rd_openS {α : Type} {encα : α → List Value} {k : Nat} (hk : ∀ x, (encα x).length = k) (hk0 : 0 < k) {good : α → Prop} {W : World} {t e : TypeId} (ht : P.underlying t = some (.slice e)) (hC : P.cellsOf e = k)
    (hel : ∀ (n : Nat) (cs : List Value) (x : DataW H × List MemPlace), DataW.trod enc P W 0 (fun _ => true) true n e cs = some x → (∀ y ∈ x.1.weights P e, y ≤ reachBytes) → ∃ a : α, cs = encα a ∧ good a) {r : Reach} {b0 : Nat} {v : Value} {d : DataW H} {ps : List MemPlace}
    (hv : Value.okWide P W r b0 t v) (h : DataW.Trod enc P W 0 (fun _ => true) true t v d ps) (hsz : ∀ y ∈ d.weights P t, y ≤ reachBytes) :
    ∃ (a : Option Addr) (n c : Nat) (l : List α), v = .slice a n c ∧ l.length = n ∧ n ≤ 9223372036854775807 ∧ (n ≤ c ∧ c ≤ 9223372036854775807) ∧ n * P.bytesOf e ≤ reachBytes ∧ (a = none → n = 0 ∧ c = 0) ∧ Rd W a (fl encα l) ∧ ∀ i (hi : i < l.length), good l[i] := by
  obtain ⟨a, len, cap, rfl⟩ := okWide_slice ht hv
  obtain ⟨fuel, hf⟩ := h
  obtain ⟨a', n, c, l, hcs, h1⟩ := rd_cellsS hk hk0 ht hC hel hf hsz
  have e2 : (Value.slice a len cap) = .slice a' n c := by simpa [Value.cells] using hcs
  exact ⟨a', n, c, l, e2, h1⟩
end
theorem cellsInt : Tryd.prog.cellsOf 3 = 1 := by kernel_rfl
theorem cellsStr : Tryd.prog.cellsOf 9 = 1 := by kernel_rfl
theorem cellsU64 : Tryd.prog.cellsOf 112 = 1 := by kernel_rfl
theorem bytesU64 : Tryd.prog.bytesOf 112 = 8 := by kernel_rfl
def VOk (x : Nat) : Prop := x < 18446744073709551616
def NdOk (x : Nd) : Prop := IntOk x.1 ∧ x.2.size ≤ 140737488355328
theorem rd_u64s {H : Type} {enc : TypeId × Value → H} {W : World} (n : Nat) (cs : List Value) (x : DataW H × List MemPlace) (h : DataW.trod enc Tryd.prog W 0 (fun _ => true) true n 112 cs = some x) (_ : ∀ y ∈ x.1.weights Tryd.prog 112, y ≤ reachBytes) : ∃ a : Nat, cs = encV a ∧ VOk a := by
  obtain ⟨z, rfl, _, hw⟩ := DataW.trod_int Tryd.underlying112 h
  have hb := bounds_u64 hw
  refine ⟨z.toNat, ?_, by unfold VOk; omega⟩
  show _ = [Value.int .u64 ((z.toNat : Nat) : Int)]
  rw [Int.toNat_of_nonneg hb.1]
end Go.Proofs.YtmfomjaomhohkaaDoor
