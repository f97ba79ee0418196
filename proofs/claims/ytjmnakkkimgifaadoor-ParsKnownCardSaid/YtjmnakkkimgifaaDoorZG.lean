/- ParsClades: the walk of the statement. From a walk to a row: a statement's post; arguments that came in read as tables and trees. The statements' tables. Lists of bytes and of 16-bit numbers that came in. -/
import Derived.Test.YtjmnakkkimgifaaDoorZB
import Derived.Test.YtjmnakkkimgifaaDoorZF
import Derived.Test.YtjmnakkkimgifaaDoorZA
import Derived.ChangeSame
import Derived.OpenShut
import Derived.ProofKit
import Derived.Deep.Slices
import Derived.Test.YtjmnakkkimgifaaDoorCards
import Derived.Test.YtjmnakkkimgifaaDoorTie
import Derived.Deep.DeepHandedRow
import Derived.Lib.LaidTab
import Derived.Lib.SmallJoins
import Derived.Test.YtjmnakkkimgifaaDoorZC
namespace Go.Proofs.YtjmnakkkimgifaaDoor
open Go Go.RowKit Go.Shelf
/-- Below a node that is not the root there are not all leaves. -/
theorem cl_not_all {t : List Nd} {n k : Nat} (hn : t.length = n) (hok : TreeOk t) (hb : BinT t n) (h0 : 0 < k) (hk : k < n) : cl t k ≠ 2 ^ (lvT t).length - 1 := by
  obtain ⟨p0, p1⟩ := tok_par hn hok k h0 hk
  obtain ⟨p, hp⟩ : ∃ p : Nat, nP t k = p := ⟨(nP t k).toNat, by omega⟩
  have hpn : p < n := by omega
  have hkm : k ∈ famL t n p := fam_mem.2 ⟨hk, h0, hp⟩
  have hl2 : (famL t n p).length = 2 := by
    rcases hb p hpn with h | h
    · rw [List.eq_nil_of_length_eq_zero h] at hkm; cases hkm
    · exact h
  obtain ⟨a, b, hab⟩ := len_two hl2
  have hpw := fam_pw t n p
  rw [hab] at hkm hpw
  have hlt : a < b := by simpa using hpw
  obtain ⟨y, hy, hym⟩ : ∃ y, y ≠ k ∧ y ∈ famL t n p := by
    rw [hab]
    rcases List.mem_cons.1 hkm with e | e
    · exact ⟨b, by omega, by simp⟩
    · have e := List.mem_singleton.1 e
      exact ⟨a, by omega, by simp⟩
  obtain ⟨yn, y0, yp⟩ := fam_mem.1 hym
  intro e
  obtain ⟨j, hj⟩ := bit_of_ne (cl_ne hn hok (n - y) y (Nat.le_refl _) yn)
  have hjl := bit_lt (tok_lt hn hok yn) hj
  have hk2 : (cl t k).testBit j = true := by rw [e, Nat.testBit_two_pow_sub_one]; simpa using hjl
  have hP := tok_par hn hok
  have key : ∀ u v : Nat, u ≠ v → u < n → v < n → 0 < u → 0 < v → nP t u = (p : Int) → nP t v = (p : Int) → u ∉ pthF t n v := fun u v huv hu hv hu0 hv0 hup hvp hm => by
    have hpu := (hP u hu0 hu).2
    have h1 := pth_succ hP hv0 hv
    rw [h1, hvp, Int.toNat_natCast] at hm
    rcases List.mem_append.1 hm with h2 | h2
    · have := pth_lt hP p p (Nat.le_refl _) hpn u h2
      omega
    · exact huv (List.mem_singleton.1 h2)
  rcases Nat.le_total k y with h | h
  · exact key k y (Ne.symm hy) hk yn h0 y0 hp yp (cl_chain hn hok hk yn hk2 hj h)
  · exact key y k hy yn hk y0 h0 yp hp (cl_chain hn hok yn hk hj hk2 h)
theorem chg_clade {t : List Nd} {n k : Nat} (hn : t.length = n) (hok : TreeOk t) (hb : BinT t n) (hk : k < n) : chg t (cl t k) = min k 1 := by
  have h1 := chg_node hn hok hk
  by_cases e : k = 0
  · subst e
    have hP := tok_par hn hok
    refine (chg_same hn hok (x := cl t 0) (b := true) fun j hj => ?_).trans (by simp)
    rw [tok_bit hn hok hj hk]
    exact pth_root t n _
  · have := chg_pos hn hok (tok_lt hn hok hk) (cl_ne hn hok (n - k) k (Nat.le_refl _) hk) (cl_not_all hn hok hb (by omega) hk)
    omega
/-- What a grown tree is. -/
theorem gr_all (l : List Nat) {m : Nat} (hm : m ≤ 9) : (gRun l m).1.length = 2 * m + 1 ∧ TreeOk (gRun l m).1 ∧ BinT (gRun l m).1 (2 * m + 1) ∧ (lvT (gRun l m).1).length = m + 1 :=
  ⟨(gr_run l m).len, (gr_run l m).tree hm, (gr_run l m).bin, (gr_run l m).lvs hm⟩
theorem tok_size {t : List Nd} {n : Nat} (hn : t.length = n) (hok : TreeOk t) : ∀ v, v < n → (nS t v).size ≤ 9223372036854775807 := fun v hv => by
  have h1 := (hok.2.2 v (by rw [hn]; exact hv)).2.2.1
  unfold nmB at h1
  simp only [Bool.and_eq_true, decide_eq_true_eq] at h1
  omega
/-- A table of sets of L languages, and a tree of L leaves, are valid. -/
theorem chk_gr {t : List Nd} {N : Nat} {l : List Nat} (hok : TreeOk t) (hL : (lvT t).length = N) (hN : N ≤ 32) (hl : l.length ≤ 64) (hw : ∀ x, x ∈ l → x < 2 ^ N) : chkP (N : Int) l t = 0 := by
  have h1 : chkT (N : Int) l = 0 := by
    unfold chkT
    rw [if_neg (by omega), if_neg (by omega), Int.toNat_natCast, if_neg]
    rw [Bool.not_eq_true, List.any_eq_false]
    intro x hx
    unfold wide
    rw [decide_eq_true (hw x hx)]; simp
  unfold chkP
  rw [h1, if_neg (by simp), show chkE t = 0 from if_pos hok, if_neg (by simp), if_pos (by rw [hL])]
set_option maxRecDepth 100000 in
set_option maxHeartbeats 4000000 in
theorem cdlaw_any (a : Option Addr) (n c : Nat) (l : List Nat) (v : Int) (w : World) (hl : l.length = n) (hN : n ≤ 1152921504606846976) (hA : Rd w a (fl enc8 l)) (hF : ∀ i, i < n → vA l i < 256) (hv0 : 0 ≤ v) (hv1 : v ≤ 255) :
    Calls Tryd.prog 8 #[.slice a n c, .int .u8 v] w fun e w' => e = .returned (.bool true) ∧ Below w.heap.size w w' := by
  have HG := Lib.hid (grownS_any a n c l w hl hN hA hF)
  obtain ⟨m, hm⟩ : ∃ m, m = min n 9 := ⟨_, rfl⟩
  rw [← hm] at HG
  have hm9 : m ≤ 9 := by omega
  have HM := Lib.hid hm
  obtain ⟨g1, g2, g3, g4⟩ := gr_all l hm9
  obtain ⟨t, ht⟩ : ∃ t, t = (gRun l m).1 := ⟨_, rfl⟩
  rw [← ht] at HG g1 g2 g3 g4
  obtain ⟨q, hq⟩ : ∃ q, q = 2 * m + 1 := ⟨_, rfl⟩
  rw [← hq] at HG g1 g3
  have hq19 : q ≤ 19 := by omega
  have hq1 : 1 ≤ q := by omega
  obtain ⟨u, rfl⟩ : ∃ u : Nat, v = u := ⟨v.toNat, by omega⟩
  have hu : u ≤ 255 := by omega
  obtain ⟨k, hk⟩ : ∃ k, k = u % q := ⟨_, rfl⟩
  have hkq : k < q := by rw [hk]; exact Nat.mod_lt _ (by omega)
  have hkm : ((u : Nat) : Int) % (q : Int) = (k : Int) := by rw [hk]; rfl
  have HCH := Lib.hid (chg_clade g1 g2 g3 hkq)
  have hlt := tok_lt g1 g2 hkq
  rw [g4] at hlt
  have HKP : Hid (chkP ((m + 1 : Nat) : Int) [cl t k] t = 0) := chk_gr g2 g4 (by omega) (by simp) (fun x hx => by rw [List.mem_singleton.1 hx]; exact hlt)
  have HS := Lib.hid (tok_size g1 g2)
  have H1 := Lib.hid g1
  have H2 := Lib.hid g2
  have H4 := Lib.hid g4
  have h2m : 2 ^ (m + 1) ≤ 1024 := Nat.pow_le_pow_right (n := 2) (by omega) (show m + 1 ≤ 10 by omega)
  have hc64 : cl t k < 18446744073709551616 := by omega
  have e9 : (1 + min (n : Int) 9) = ((m + 1 : Nat) : Int) := by omega
  have HE9 := Lib.hid e9
  clear hl hA hF hm g1 g2 g3 g4 ht hq hk hlt h2m e9 hv0 hv1
  go_enter Tryd.func8, Tryd.ntmps8
  go_wp2_with fail
  refine HG.out.mono ?_
  rintro e w2 ⟨g, c', rfl, ho, hb⟩
  have HR2 := Lib.hid (rd_of_owns ho)
  have HB2 := Lib.hid hb
  clear ho hb HG
  go_wp2_with fail
  refine (clade_any (some ⟨g, 0, none⟩) q c' k t w2 H1.out H2.out (by rw [H4.out]; omega) hkq HR2.out HS.out).mono ?_
  rintro e w3 ⟨rfl, hb3⟩
  have HR3 := Lib.hid (HR2.out.bl hb3)
  have HB3 := Lib.hid (bl_trans HB2.out hb3)
  obtain ⟨s, hs⟩ : ∃ s, s = cl t k := ⟨_, rfl⟩
  rw [← hs] at HCH HKP hc64 ⊢
  clear hb3 HR2 HB2 hs
  have hb4 := bl_alloc (Below.refl _ w3) (.cells (fl encV [s]).toArray 52)
  have HL := Lib.hid (length_any ((m + 1 : Nat) : Int) (some ⟨w3.heap.size, 0, none⟩) 1 1 [s] (some ⟨g, 0, none⟩) q c' t (w3.alloc (.cells (fl encV [s]).toArray 52)) rfl (by omega) (Rd.of_blk (Blk.new _ _ _)) (fun i hi => by
    have : i = 0 := by simp at hi; omega
    subst this; exact hc64) H1.out (by omega) (HR3.out.bl hb4) HS.out)
  have hlen : lenS ((m + 1 : Nat) : Int) [s] t = min k 1 := by
    unfold lenS lenL
    rw [if_pos HKP.out]
    show chg t s + 0 = _
    rw [HCH.out]; rfl
  rw [hlen, HKP.out] at HL
  have HB4 := Lib.hid (bl_trans HB3.out hb4)
  clear hb4 HB3 HR3 hlen HCH HKP
  go_wp2_with fail
  rw [HE9.out]
  refine HL.out.mono ?_
  rintro e w5 ⟨rfl, hb5⟩
  have HB5 := Lib.hid (bl_trans HB4.out hb5)
  have HW := Lib.hid (works_any w5)
  have hmin : ((min k 1 : Nat) : Int) = min (k : Int) 1 := by omega
  rw [hmin]
  obtain ⟨z, hz⟩ : ∃ z : Int, z = min (k : Int) 1 := ⟨_, rfl⟩
  have hz2 : min (k : Int) 1 = z := hz.symm
  rw [hz2]
  have t1 : decide (z = z) = true := by simp
  have t2 : (z == z) = true := by simp
  clear hb5 HB4 HL hmin hz
  go_wp2_with fail
  refine HW.out.mono ?_
  rintro e w6 ⟨rfl, hb6⟩
  have HB6 := Lib.hid (bl_trans HB5.out hb6)
  clear hb6 HB5 HW
  go_wp2_with fail
  go_ret
  exact ⟨rfl, HB6.out⟩
end Go.Proofs.YtjmnakkkimgifaaDoor
namespace Go.Proofs.YtjmnakkkimgifaaDoor
open Go.ChangeShapes Go.WideShapes Go.RowKit Go.Deep
section
variable {H : Type} {enc : TypeId × Value → H} {P : Program}
/-- Arguments read as they did, in a world that keeps all that lay there. -/
theorem trodAll_stays (hl : laidOutB P = true) {W W' : World} {sp : Nat → Bool} (hb : Below W.heap.size W W') : ∀ {ts : List TypeId} {vs : List Value} {ds : List (DataW H)} {ps : List MemPlace}, (∀ t ∈ ts, P.readableRec t = true ∧ t < P.types.size) →
    DataW.TrodAll enc P W 0 (fun _ => true) true ts vs ds ps → (∀ p ∈ ps, p.block < W.heap.size) → (∀ p ∈ ps, sp p.block = true) → DataW.TrodAll enc P W' 0 sp true ts vs ds ps
  | [], vs, ds, ps, _, h, _, _ => by
    obtain ⟨rfl, rfl, rfl⟩ := trodAll_nil h
    exact trodAll_mk0
  | t :: ts, vs, ds, ps, ht, h, hlt, hsp => by
    obtain ⟨v, vs', d, ds', p, q, rfl, rfl, rfl, h1, h2⟩ := trodAll_cons h
    obtain ⟨hr, hrow⟩ := ht t (by simp)
    exact trodAll_cons_mk (WideElems.Trod_stays hl hr hrow h1 (fun x hx => hb.same (hlt x (List.mem_append_left _ hx))) (fun x hx => hsp x (List.mem_append_left _ hx)))
      (trodAll_stays hl hb (fun t' ht' => ht t' (by simp [ht'])) h2 (fun x hx => hlt x (List.mem_append_right _ hx)) (fun x hx => hsp x (List.mem_append_right _ hx)))
/-- What a statement's row asks of a call that returns true and keeps all that lay there. -/
theorem post_law {f : Func} {s : ChangeSpec} {W W' : World} {args : Array Value} {ds : List (DataW H)} {before : List MemPlace} {tb : TypeId} (hsv : s.vars = []) (hfn : s.fn H (ds ++ []) = { results := [.lit (.bool true)], args := ds })
    (hl : laidOutB P = true) (hpt : ∀ t ∈ f.params.toList, P.readableRec t = true ∧ t < P.types.size) (hrt : f.resultTypes = #[tb]) (htb : P.underlying tb = some .bool)
    (hW : DataW.Whole enc P f.params.toList s.vars false W args.toList ds [] before) (hb : Below W.heap.size W W') : s.post enc P f false true false false W args (.bool true) W' := by
  have hlt : ∀ p ∈ before, p.block < W.heap.size := fun p hp => hW.lt p hp
  have hW2 := hW
  obtain ⟨p, q, hA, hV, rfl, _, _⟩ := hW
  rw [hsv] at hV
  obtain ⟨_, rfl⟩ := trodVars_none hV
  rw [List.append_nil] at hlt
  refine ⟨ds, [], _, [], p, [], hW2, ?_, ?_, ?_, ?_, fun h => by cases h⟩
  · rw [hfn, hrt]
    exact trodAll_cons_mk (p := []) (p' := []) (shut_bool htb _) trodAll_mk0
  · rw [hfn]
    exact trodAll_stays hl hb hpt hA hlt (fun x hx => by simpa using hlt x hx)
  · rw [hsv, hfn]
    rfl
  · exact World.keptBut_mono (fun x hx => ⟨by simpa using hx, .inr (.inl (by simpa using hx))⟩) (hb.frame (· ∈ p))
end
end Go.Proofs.YtjmnakkkimgifaaDoor
namespace Go.Proofs.YtjmnakkkimgifaaDoor
open Go.ChangeShapes Go.WideShapes Go.ChangeAt Go.RowKit Go.Deep
theorem own : ownKnob Tryd.prog.godebug = none := by kernel_rfl
theorem laidOut : laidOutB Tryd.prog = true := by kernel_rfl
/-- The cells of a table. -/
def tabCells (d : DataW Unit) : Array Value :=
  match d with
  | .agg ps => (ps.map fun x => match x with
    | .lit (.int k n) => Value.int k n
    | _ => undef).toArray
  | _ => #[]
def laidOn (P : Program) : List (String × DataW Unit) → World → World
  | [], w => w
  | (n, d) :: r, w => laidOn P r { w with heap := w.heap.modify ((P.globalNamed n).getD 0) fun
      | .cells _ t frozen => .cells (tabCells d) t frozen
      | o => o }
/-- A world that holds the tables. -/
noncomputable def laidWorld (os : Os) : World := laidOn Tryd.prog Rows.parsTreesRow.laid (World.holding Tryd.prog os ⟨#[], #[], []⟩)
theorem list_two {α : Type} : ∀ {l : List α}, l.length = 2 → ∃ a b, l = [a, b]
  | [a, b], _ => ⟨a, b, rfl⟩
def IntOk (x : Int) : Prop := -9223372036854775808 ≤ x ∧ x ≤ 9223372036854775807
end Go.Proofs.YtjmnakkkimgifaaDoor
namespace Go.Proofs.YtjmnakkkimgifaaDoor
open Go.ChangeShapes Go.WideShapes Go.RowKit Go.Deep
theorem weightsAll_mem {H : Type} {P : Program} {e : TypeId} {d : DataW H} : ∀ {l : List (DataW H)}, d ∈ l → ∀ n ∈ d.weights P e, n ∈ DataW.weightsAll P e l
  | x :: l, h, n, hn => by
    simp only [DataW.weightsAll, List.mem_append]
    rcases List.mem_cons.1 h with rfl | h
    · exact .inl hn
    · exact .inr (weightsAll_mem h n hn)
/-- Each argument's weights are bounded. -/
theorem sized_arg {H : Type} {P : Program} {ts : List TypeId} {ds : List (DataW H)} (h : (DataW.weightsEach P ts ds).all (· ≤ reachBytes) = true) {j : Nat} {t : TypeId} {d : DataW H} (ht : ts[j]? = some t) (hd : ds[j]? = some d) : ∀ y ∈ d.weights P t, y ≤ reachBytes :=
  fun y hy => of_decide_eq_true (List.all_eq_true.1 h _ (DataW.weights_mem_each ht hd y hy))
section
variable {H : Type} {enc : TypeId × Value → H} {P : Program}
/-- The cells of a slice that came in: read as a list; its elements' sizes bounded. -/
theorem rd_cellsS {α : Type} {encα : α → List Value} {k : Nat} (hk : ∀ x, (encα x).length = k) (hk0 : 0 < k) {good : α → Prop} {W : World} {t e : TypeId} (ht : P.underlying t = some (.slice e)) (hC : P.cellsOf e = k)
    (hel : ∀ (n : Nat) (cs : List Value) (x : DataW H × List MemPlace), DataW.trod enc P W 0 (fun _ => true) true n e cs = some x → (∀ y ∈ x.1.weights P e, y ≤ reachBytes) → ∃ a : α, cs = encα a ∧ good a) {fuel : Nat} {cs : List Value} {x : DataW H × List MemPlace}
    (hf : DataW.trod enc P W 0 (fun _ => true) true fuel t cs = some x) (hsz : ∀ y ∈ x.1.weights P t, y ≤ reachBytes) :
    ∃ (a : Option Addr) (n c : Nat) (l : List α), cs = [.slice a n c] ∧ l.length = n ∧ n ≤ 9223372036854775807 ∧ (n ≤ c ∧ c ≤ 9223372036854775807) ∧ n * P.bytesOf e ≤ reachBytes ∧ (a = none → n = 0 ∧ c = 0) ∧ Rd W a (fl encα l) ∧ ∀ i (hi : i < l.length), good l[i] := by
  rcases open_slice ht hf with ⟨rfl, _⟩ | ⟨a', len, cap, m, n, D, Pl, rfl, hb, hlc, hcm, hm, hx, hi⟩
  · exact ⟨none, 0, 0, [], rfl, rfl, by omega, ⟨by omega, by omega⟩, by simp, fun _ => ⟨rfl, rfl⟩, Rd.nil _ _, fun i hi => absurd hi (by simp)⟩
  · have hwt : ∀ i, i < len → ∀ y ∈ (D i).weights P e, y ≤ reachBytes := by
      intro i hil y hy
      refine hsz y ?_
      rw [hx]
      simp only [DataW.weights, ht, List.mem_cons, List.mem_append]
      exact .inr (.inl (weightsAll_mem (List.mem_map.2 ⟨i, List.mem_range.2 hil, rfl⟩) y hy))
    have hlen : len * P.bytesOf e ≤ reachBytes := by
      have h1 := hsz ((((List.range len).map D).length + ((List.range (m - len)).map fun j => D (len + j)).length) * P.bytesOf e) (by rw [hx]; simp only [DataW.weights, ht, List.mem_cons, true_or])
      refine Nat.le_trans (Nat.mul_le_mul_right _ ?_) h1
      simp
    simp only [if_true] at hm
    subst hm
    rw [hC] at hi
    have hex : ∀ i, i < len → ∃ x : α, good x ∧ ∀ j, j < k → W.cell? (a'.add (i * k + j)) = (encα x)[j]? := by
      intro i hil
      obtain ⟨cs', h1, h2⟩ := hi i (by omega)
      obtain ⟨x, rfl, hg⟩ := hel _ _ _ h2 (hwt i hil)
      obtain ⟨_, _, hat⟩ := World.cells?_some h1
      refine ⟨x, hg, fun j hj => ?_⟩
      rw [← Go.Deep.add_add]
      exact hat j hj
    have hls : ∀ n, n ≤ len → ∃ l : List α, l.length = n ∧ ∀ i (hi : i < l.length), good l[i] ∧ ∀ j, j < k → W.cell? (a'.add (i * k + j)) = (encα l[i])[j]? := by
      intro n
      induction n with
      | zero => intro _; exact ⟨[], rfl, fun i hi => absurd hi (by simp)⟩
      | succ n ih =>
        intro hn
        obtain ⟨l, hl, hg⟩ := ih (by omega)
        obtain ⟨x, hx1, hx2⟩ := hex n (by omega)
        refine ⟨l ++ [x], by simp [hl], fun i hi => ?_⟩
        by_cases e3 : i < l.length
        · rw [List.getElem_append_left e3]; exact hg i e3
        · obtain rfl : i = n := by simp at hi; omega
          rw [List.getElem_append_right (by omega)]
          simpa [hl] using ⟨hx1, hx2⟩
    obtain ⟨l, hl, hg⟩ := hls len (Nat.le_refl _)
    refine ⟨some a', len, _, l, rfl, hl, by unfold maxLen at hcm; omega, ⟨hlc, by unfold maxLen at hcm; omega⟩, hlen, (fun e => by cases e), ?_, fun i hi => (hg i hi).1⟩
    intro h0
    rw [fl_length hk, hl] at h0
    have hlen0 : 0 < len := by
      rcases Nat.eq_zero_or_pos len with e4 | e4
      · rw [e4] at h0; simp at h0
      · exact e4
    have hcell : ∀ i, i < len * k → W.cell? (a'.add i) = (fl encα l)[i]? := by
      intro i hi
      have hq : i / k < len := (Nat.div_lt_iff_lt_mul hk0).2 hi
      have hr : i % k < k := Nat.mod_lt _ hk0
      have e5 : i / k * k + i % k = i := by rw [Nat.mul_comm]; exact Nat.div_add_mod i k
      have h1 := (hg (i / k) (by rw [hl]; exact hq)).2 (i % k) hr
      have h2 := fl_getElem? hk l (i / k) (i % k) hr
      have hq2 : i / k < l.length := by rw [hl]; exact hq
      rw [List.getElem?_eq_getElem hq2] at h2
      simp only [Option.bind_some] at h2
      rw [e5] at h1 h2
      rw [h1, h2]
    obtain ⟨bb, off, sub⟩ := a'
    have hs0 := hcell 0 h0
    have hne : (fl encα l)[0]? = some ((fl encα l)[0]'(by rw [fl_length hk, hl]; exact h0)) := List.getElem?_eq_getElem _
    rw [hne] at hs0
    have hsub : sub = none := by
      cases sub with
      | none => rfl
      | some z =>
        simp only [Addr.add, if_true, World.cell?, Option.isSome_some] at hs0
        split at hs0 <;> cases hs0
    subst hsub
    refine ⟨bb, off, rfl, World.block_lt_of_cell? W _ hs0, fun i hi => ?_⟩
    rw [fl_length hk, hl] at hi
    have h1 := hcell i hi
    rw [List.getElem?_eq_getElem (by rw [fl_length hk, hl]; exact hi)] at h1
    rw [List.getD_eq_getElem?_getD, List.getElem?_eq_getElem (by rw [fl_length hk, hl]; exact hi)]
    refine Eq.trans ?_ h1
    by_cases hi0 : i = 0
    · subst hi0; rfl
    · simp only [Addr.add, if_neg hi0]
/-- A slice that came in: read as a list; its elements' sizes bounded. -/
theorem rd_openS {α : Type} {encα : α → List Value} {k : Nat} (hk : ∀ x, (encα x).length = k) (hk0 : 0 < k) {good : α → Prop} {W : World} {t e : TypeId} (ht : P.underlying t = some (.slice e)) (hC : P.cellsOf e = k)
    (hel : ∀ (n : Nat) (cs : List Value) (x : DataW H × List MemPlace), DataW.trod enc P W 0 (fun _ => true) true n e cs = some x → (∀ y ∈ x.1.weights P e, y ≤ reachBytes) → ∃ a : α, cs = encα a ∧ good a) {r : Reach} {b0 : Nat} {v : Value} {d : DataW H} {ps : List MemPlace}
    (hv : Value.okWide P W r b0 t v) (h : DataW.Trod enc P W 0 (fun _ => true) true t v d ps) (hsz : ∀ y ∈ d.weights P t, y ≤ reachBytes) :
    ∃ (a : Option Addr) (n c : Nat) (l : List α), v = .slice a n c ∧ l.length = n ∧ n ≤ 9223372036854775807 ∧ (n ≤ c ∧ c ≤ 9223372036854775807) ∧ n * P.bytesOf e ≤ reachBytes ∧ (a = none → n = 0 ∧ c = 0) ∧ Rd W a (fl encα l) ∧ ∀ i (hi : i < l.length), good l[i] := by
  obtain ⟨a, len, cap, rfl⟩ := okWide_slice ht hv
  obtain ⟨fuel, hf⟩ := h
  obtain ⟨a', n, c, l, hcs, h1⟩ := rd_cellsS hk hk0 ht hC hel hf hsz
  have e2 : (Value.slice a len cap) = .slice a' n c := by simpa [Value.cells] using hcs
  exact ⟨a', n, c, l, e2, h1⟩
end
theorem cellsInt : Tryd.prog.cellsOf 3 = 1 := by kernel_rfl
theorem cellsStr : Tryd.prog.cellsOf 9 = 1 := by kernel_rfl
theorem cellsU64 : Tryd.prog.cellsOf 52 = 1 := by kernel_rfl
theorem cellsNd : Tryd.prog.cellsOf 41 = 2 := by kernel_rfl
theorem cellsVs : Tryd.prog.cellsOf 28 = 1 := by kernel_rfl
theorem cellsTab : Tryd.prog.cellsOf 30 = 2 := by kernel_rfl
theorem bytesU64 : Tryd.prog.bytesOf 52 = 8 := by kernel_rfl
theorem bytesNd : Tryd.prog.bytesOf 41 = 24 := by kernel_rfl
def VOk (x : Nat) : Prop := x < 18446744073709551616
def NdOk (x : Nd) : Prop := IntOk x.1 ∧ x.2.size ≤ 140737488355328
theorem rd_u64s {H : Type} {enc : TypeId × Value → H} {W : World} (n : Nat) (cs : List Value) (x : DataW H × List MemPlace) (h : DataW.trod enc Tryd.prog W 0 (fun _ => true) true n 52 cs = some x) (_ : ∀ y ∈ x.1.weights Tryd.prog 52, y ≤ reachBytes) : ∃ a : Nat, cs = encV a ∧ VOk a := by
  obtain ⟨z, rfl, _, hw⟩ := DataW.trod_int Tryd.underlying52 h
  have hb := bounds_u64 hw
  refine ⟨z.toNat, ?_, by unfold VOk; omega⟩
  show _ = [Value.int .u64 ((z.toNat : Nat) : Int)]
  rw [Int.toNat_of_nonneg hb.1]
theorem rd_nds {H : Type} {enc : TypeId × Value → H} {W : World} (n : Nat) (cs : List Value) (x : DataW H × List MemPlace) (h : DataW.trod enc Tryd.prog W 0 (fun _ => true) true n 41 cs = some x) (hsz : ∀ y ∈ x.1.weights Tryd.prog 41, y ≤ reachBytes) : ∃ a : Nd, cs = encNd a ∧ NdOk a := by
  obtain ⟨y0, y1, m, rfl, hlen, h0, h1⟩ := trod_struct2 Tryd.underlying41 h
  rw [cellsNd] at hlen
  obtain ⟨c0, c1, rfl⟩ := list_two hlen
  simp only [cellsInt, cellsStr] at h0 h1
  obtain ⟨z0, e0, e00, w0⟩ := DataW.trod_int Tryd.underlying3 h0
  obtain ⟨z1, e1, e11, w1⟩ := DataW.trod_string Tryd.underlying9 h1
  refine ⟨(z0, z1), ?_, bounds_i64 w0, ?_⟩
  · simp at e0 e1
    rw [e0, e1]
    rfl
  · have h2 : z1.data.toList.length ≤ reachBytes := hsz z1.data.toList.length (by
      rw [e00, e11]
      simp only [DataW.weights, Tryd.underlying41]
      show _ ∈ DataW.weightsEach Tryd.prog [_, _] [_, _]
      simp only [DataW.weightsEach, DataW.weights]
      simp)
    have h3 : z1.data.toList.length = z1.size := Array.length_toList
    rw [h3] at h2
    unfold reachBytes at h2
    have h4 : z1.size ≤ 140737488351232 := h2
    show z1.size ≤ _
    omega
set_option maxRecDepth 100000 in
/-- A tree that came in. -/
theorem open_nds {H : Type} {enc : TypeId × Value → H} {W : World} {r : Reach} {b0 : Nat} {v : Value} {d : DataW H} {ps : List MemPlace} (hv : Value.okWide Tryd.prog W r b0 33 v) (h : DataW.Trod enc Tryd.prog W 0 (fun _ => true) true 33 v d ps) (hsz : ∀ y ∈ d.weights Tryd.prog 33, y ≤ reachBytes) :
    ∃ (a : Option Addr) (n c : Nat) (l : List Nd), v = .slice a n c ∧ l.length = n ∧ n ≤ 1152921504606846976 ∧ n ≤ c ∧ c ≤ 9223372036854775807 ∧ Rd W a (fl encNd l) ∧ (∀ i, i < n → (nS l i).size ≤ 9223372036854775807) ∧ ∀ i, i < n → IntOk (nP l i) := by
  obtain ⟨a, n, c, l, h1, h2, h3, ⟨h4a, h4b⟩, h4, h5, h6, h7⟩ := rd_openS encNd_len (by omega) (good := NdOk) Tryd.underlying33 cellsNd rd_nds hv h hsz
  rw [bytesNd] at h4
  have hg : ∀ i, i < n → NdOk (nP l i, nS l i) := fun i hi => by
    have h8 := h7 i (by omega)
    have e : (nP l i, nS l i) = l[i]'(by omega) := by simp [nP, nS, h2 ▸ hi]
    rw [e]; exact h8
  refine ⟨a, n, c, l, h1, h2, by unfold reachBytes at h4; omega, h4a, h4b, h6, fun i hi => ?_, fun i hi => (hg i hi).1⟩
  have h9 : (nS l i).size ≤ 140737488355328 := (hg i hi).2
  omega
set_option maxRecDepth 100000 in
/-- A table that came in. -/
theorem open_tab {H : Type} {enc : TypeId × Value → H} {W : World} {r : Reach} {b0 : Nat} {v : Value} {d : DataW H} {ps : List MemPlace} (hv : Value.okWide Tryd.prog W r b0 30 v) (h : DataW.Trod enc Tryd.prog W 0 (fun _ => true) true 30 v d ps) (hsz : ∀ y ∈ d.weights Tryd.prog 30, y ≤ reachBytes) :
    ∃ (L : Int) (a : Option Addr) (n c : Nat) (l : List Nat), v = .agg #[.int .i64 L, .slice a n c] ∧ IntOk L ∧ l.length = n ∧ n ≤ 1152921504606846976 ∧ n ≤ c ∧ c ≤ 9223372036854775807 ∧ Rd W a (fl encV l) ∧ FitV l := by
  obtain ⟨cs, rfl, hcs⟩ := okWide_struct Tryd.underlying30 hv
  obtain ⟨fuel, hf⟩ := h
  obtain ⟨y0, y1, m, hdp, hlen, h0, h1⟩ := trod_struct2 Tryd.underlying30 hf
  obtain ⟨rfl, rfl⟩ := Prod.mk.inj hdp
  have hlen2 : cs.toList.length = 2 := by rw [Array.length_toList, hcs, cellsTab]
  obtain ⟨c0, c1, hc⟩ := list_two hlen2
  have hc2 : cs = #[c0, c1] := by rw [← Array.toList_inj]; exact hc
  subst hc2
  simp only [cellsInt, cellsVs, Value.cells] at h0 h1
  obtain ⟨z0, e0, e00, w0⟩ := DataW.trod_int Tryd.underlying3 h0
  have hsz1 : ∀ y ∈ y1.1.weights Tryd.prog 28, y ≤ reachBytes := fun y hy => hsz y (by
    simp only [DataW.weights, Tryd.underlying30]
    show _ ∈ DataW.weightsEach Tryd.prog [_, _] [_, _]
    simp only [DataW.weightsEach, List.mem_append]
    exact .inr (.inl hy))
  obtain ⟨a, n, c, l, g1, g2, g3, ⟨g4a, g4b⟩, g4, g5, g6, g7⟩ := rd_cellsS encV_len (by omega) (good := VOk) Tryd.underlying28 cellsU64 rd_u64s h1 hsz1
  rw [bytesU64] at g4
  refine ⟨z0, a, n, c, l, ?_, bounds_i64 w0, g2, by unfold reachBytes at g4; omega, g4a, g4b, g6, fun i hi => ?_⟩
  · simp at e0 g1
    rw [e0, g1]
  · rw [vA_get hi]; exact g7 i hi
end Go.Proofs.YtjmnakkkimgifaaDoor
namespace Go.Proofs.YtjmnakkkimgifaaDoor
open Go Go.RowKit Go.Shelf
def enc16 (x : Nat) : List Value := [.int .u16 x]
theorem enc16_len (x : Nat) : (enc16 x).length = 1 := rfl
theorem rd16 {l : List Nat} {w : World} {a : Option Addr} (h : Rd w a (fl enc16 l)) (h0 : 0 < l.length) : ∃ b off, a = some ⟨b, off, none⟩ ∧ b < w.heap.size ∧ ∀ i, i < l.length → w.cell? ⟨b, off + i, none⟩ = some (.int .u16 (vA l i)) := by
  obtain ⟨b, off, e, hb, hc⟩ := rd_elem enc16_len h (by omega) h0
  refine ⟨b, off, e, hb, fun i hi => ?_⟩
  have := hc i hi 0 (by omega); simpa [enc16, vA, hi, ← Nat.add_assoc] using this
/-- The innovations of a made table. -/
def mdL (n : Nat) (has : List Nat) : List Nat := (has.take 8).map fun x => x &&& (2 ^ n - 1)
theorem mdL_snoc {n : Nat} {has : List Nat} {k : Nat} (hk : k < has.length) (h8 : k < 8) : mdL n (has.take (k + 1)) = mdL n (has.take k) ++ [vA has k &&& (2 ^ n - 1)] := by
  unfold mdL
  rw [List.take_take, List.take_take, show min 8 (k + 1) = k + 1 by omega, show min 8 k = k by omega, List.take_succ_eq_append_getElem hk, List.map_append, vA_get hk]
  rfl
theorem mdL_len (n : Nat) (has : List Nat) : (mdL n has).length = min 8 has.length := by unfold mdL; simp
theorem mdL_lt {n : Nat} {has : List Nat} : ∀ x, x ∈ mdL n has → x < 2 ^ n := fun x hx => by
  obtain ⟨y, _, rfl⟩ := List.mem_map.1 hx
  have h2 := Nat.two_pow_pos n
  have := Nat.and_le_right (n := y) (m := 2 ^ n - 1)
  omega
theorem own_ne_blk {W : World} {base e k n B : Nat} {v : Value} {xs : List Value} {cs : Array Value} {t : TypeId} (hv : W.ownsRow base e k v n xs) (hB : Blk W B cs t) (he : t ≠ e) : v.ownBlock ≠ some B := fun e' => by
  rcases hv.2 with ⟨rfl, _⟩ | ⟨g, cap, cur, rfl, _, hgb, _⟩
  · cases e'
  · have : g = B := Option.some.inj e'
    subst this
    unfold Blk at hB
    rw [hB] at hgb
    cases hgb
    exact he rfl
set_option maxRecDepth 100000 in
set_option maxHeartbeats 4000000 in
theorem made_any (a : Option Addr) (n c : Nat) (b : Option Addr) (m d : Nat) (_l has : List Nat) (w : World) (hn : n ≤ 1152921504606846976) (hm : has.length = m) (hm2 : m ≤ 1152921504606846976) (hB : Rd w b (fl enc16 has)) (hF : ∀ i, i < m → vA has i < 65536) :
    Calls Tryd.prog 10 #[.slice a n c, .slice b m d] w fun e w' => ∃ v, e = .returned (.agg #[.int .i64 ((1 + min n 9 : Nat) : Int), v]) ∧ w'.ownsRow w.heap.size 52 1 v (mdL (1 + min n 9) has).length (fl encV (mdL (1 + min n 9) has)) ∧ Below w.heap.size w w' := by
  obtain ⟨N, hN⟩ : ∃ N, N = 1 + min n 9 := ⟨_, rfl⟩
  rw [← hN]
  have HNN := Lib.hid hN
  have hN10 : N ≤ 10 := by omega
  have hN1 : 1 ≤ N := by omega
  have HM := Lib.hid hm
  have HB := Lib.hid hB
  have HF := Lib.hid hF
  clear hN hm hB hF
  go_enter Tryd.func10, Tryd.ntmps10
  go_upto_region 2 with fail
  have e1 : (1 + if 9 < (n : Int) then 9 else (n : Int)) = (N : Int) := by
    rw [HNN.out]
    by_cases q : 9 < n
    · rw [if_pos (by omega)]; omega
    · rw [if_neg (by omega)]; omega
  have e2 : (1 + min (n : Int) 9) = (N : Int) := by rw [HNN.out]; omega
  obtain ⟨z9, hz9⟩ : ∃ z : Int, z = if 9 < (n : Int) then 9 else (n : Int) := ⟨_, rfl⟩
  obtain ⟨z8, hz8⟩ : ∃ z : Int, z = min (n : Int) 9 := ⟨_, rfl⟩
  first
    | rw [e1, ← hz9]
    | rw [e2, ← hz8]
  clear e1 hz9 e2 hz8
  have hb6 := bl_alloc (bl_alloc (Below.refl _ w) (.cells #[.int .i64 0, .slice none 0 0] 30)) (.cells #[.int .i64 N, .slice none 0 0] 30)
  have hX4 := (Blk.new w #[.int .i64 0, .slice none 0 0] 30).alloc (.cells #[.int .i64 N, .slice none 0 0] 30)
  have hX6 := Blk.new2 w (.cells #[.int .i64 0, .slice none 0 0] 30) #[.int .i64 N, .slice none 0 0] 30
  have HB6 := Lib.hid hb6
  have HX4 := Lib.hid hX4
  have HX6 := Lib.hid hX6
  clear hb6 hX4 hX6
  go_wp2_with fail
  obtain ⟨X, hX⟩ : ∃ X, X = w.heap.size := ⟨_, rfl⟩
  rw [← hX] at HX4 HX6 ⊢
  have HXX := Lib.hid hX
  clear hX
  have hp0 := Nat.two_pow_pos N
  have hp1 : 2 ^ N ≤ 1024 := Nat.pow_le_pow_right (n := 2) (by omega) hN10
  go_loopw [7] (fun x wr => ∃ (k : Nat) (v : Value), k ≤ m ∧ k ≤ 8 ∧ x = .int .i64 k ∧ Hid (Blk wr X #[.int .i64 0, .slice none 0 0] 30) ∧ Hid (Blk wr (X + 1) #[.int .i64 N, v] 30) ∧ Hid (wr.ownsRow w.heap.size 52 1 v k (fl encV (mdL N (has.take k)))) ∧ Hid (Below w.heap.size w wr)) (fun x _ => 8 - (intOf x).toNat)
  case atStart => exact ⟨0, .slice none 0 0, by omega, by omega, rfl, HX4, HX6, World.ownsRow_nil _ _ _ _, HB6⟩
  case round =>
    clear HX4 HX6 HB6
    obtain ⟨k, v, hk, hk8, rfl, h4, h6, hV, hB⟩ := hrel
    by_cases hlt : k < m ∧ k < 8
    · obtain ⟨h1, h2⟩ := hlt
      obtain ⟨bb, ob, rfl, hbb, hcb⟩ := rd16 (HB.out.bl hB.out) (by rw [HM.out]; omega)
      have G := hcb k (by rw [HM.out]; exact h1)
      have hx := HF.out k h1
      have HSN : Hid (mdL N (has.take (k + 1)) = mdL N (has.take k) ++ [vA has k &&& (2 ^ N - 1)]) := mdL_snoc (by rw [HM.out]; exact h1) h2
      have HLN : Hid ((mdL N (has.take k)).length = k) := by show _ = _; rw [mdL_len, List.length_take, HM.out]; omega
      obtain ⟨x, hxe⟩ : ∃ x, x = vA has k := ⟨_, rfl⟩
      rw [← hxe] at G hx HSN
      obtain ⟨A, cp, rfl, _⟩ := owns_slice hV.out
      have c6 : wr.cell? ⟨X + 1, 1, none⟩ = some (.slice A k cp) := h6.out.cell 1
      have c5 : wr.cell? ⟨X + 1, 0, none⟩ = some (.int .i64 N) := h6.out.cell 0
      have f6 : wr.frozen? ⟨X + 1, 1, none⟩ = false := h6.out.free 1
      have ew : ((2 : Int) ^ N) = ((2 ^ N : Nat) : Int) := by simp
      have hw1 : IntKind.u64.wrap (2 ^ N) = ((2 ^ N : Nat) : Int) := by rw [ew, w64 _ (by omega)]
      have hw2 : IntKind.u64.wrap (((2 ^ N : Nat) : Int) - 1) = ((2 ^ N - 1 : Nat) : Int) := by
        rw [show ((2 ^ N : Nat) : Int) - 1 = ((2 ^ N - 1 : Nat) : Int) by omega, w64 _ (by omega)]
      have hba := bits_and (show x < 18446744073709551616 by omega) (show 2 ^ N - 1 < 18446744073709551616 by omega)
      have hwx : IntKind.u64.wrap (x : Int) = (x : Int) := w64 _ (by omega)
      obtain ⟨y, hy⟩ : ∃ y, y = x &&& (2 ^ N - 1) := ⟨_, rfl⟩
      rw [← hy] at hba HSN
      obtain ⟨P, hP⟩ : ∃ P, P = 2 ^ N := ⟨_, rfl⟩
      rw [← hP] at hw1 hw2 hba hp0 hp1
      have HEW : Hid (((2 : Int) ^ N) = (P : Int)) := by rw [hP]; exact ew
      obtain ⟨P1, hP1⟩ : ∃ P1, P1 = P - 1 := ⟨_, rfl⟩
      rw [← hP1] at hw2 hba
      have HP := Lib.hid hP
      have HY := Lib.hid hy
      have HP1 := Lib.hid hP1
      clear hcb hxe hy hP hP1 ew
      go_upto_region 6 with fail
      refine wp_region_order (S := fun w' => w'.cell? ⟨X + 1, 1, none⟩ = some (.slice A k cp) ∧ w'.cell? ⟨bb, ob + k, none⟩ = some (.int .u16 x)) 12 [0, 1, 2, 3, 4, 5, 6, 7, 8, 9, 10] [11] (by kernel_rfl) (by kernel_rfl) ⟨c6, G⟩ ?_
      iterate 11 (refine headT_cons (by rfl) (by rfl) (by intro w hSw; obtain ⟨s0, s1⟩ := hSw; go_simp; try rfl) ?_; simp only [Act.put, List.setIfInBounds_toArray, List.set_cons_zero, List.set_cons_succ])
      refine headT_nil ?_
      obtain ⟨w4, hw4⟩ : ∃ x, x = wr.drew := ⟨_, rfl⟩
      rw [← hw4]
      have hb4 : Below wr.heap.size wr w4 := by rw [hw4]; exact bl_drewN (Below.refl _ wr) 1
      clear hw4
      refine midT_cons (by rfl) (fun K hK => ?_)
      rw [if_pos (by rfl)]
      go_simp
      have hb5 := bl_alloc hb4 (.cells #[.int .u64 y] 52)
      have hN5 := Blk.new w4 #[.int .u64 y] 52
      obtain ⟨w5, hw5⟩ : ∃ x, x = w4.alloc (.cells #[.int .u64 y] 52) := ⟨_, rfl⟩
      obtain ⟨D, hD⟩ : ∃ D, D = w4.heap.size := ⟨_, rfl⟩
      rw [← hw5] at hb5 hN5 ⊢
      rw [← hD] at hN5 ⊢
      have H45 := Lib.hid (h4.out.below hb5)
      have H65 := Lib.hid (h6.out.below hb5)
      have HV5 := Lib.hid (owns_below hV.out hb5)
      have HB5 := Lib.hid (bl_trans hB.out hb5)
      have HN5 := Lib.hid hN5
      have G5 := (hb5.cell (p := ⟨bb, ob + k, none⟩) hbb).trans G
      have hbs5 := HB5.out.size
      refine hK.out _ _ ⟨H65.out.cell 1, G5⟩ (fun _ => ?_)
      clear hK K hb4 hb5 hN5 hw5 hD h4 h6 hV hB c6 c5 f6 G G5 hw1 hw2 hba hwx
      try simp only [Act.put, List.setIfInBounds_toArray, List.set_cons_zero, List.set_cons_succ]
      refine midT_nil ?_
      simp only [List.drop_succ_cons, List.drop_zero]
      refine push_V rfl (.tmp 25) (.tmp 35) rfl w.heap.size (.slice A k cp) (mdL N (has.take k)) k HLN.out.symm rfl HV5.out _ _ y rfl HN5.out (by omega) hbs5 ?_
      intro g8 cap8 w8 h81 h82 h83 h84
      rw [← HSN.out] at h81
      have hn4 := own_ne_blk HV5.out H45.out (by decide)
      have hn6 := own_ne_blk HV5.out H65.out (by decide)
      have h48 := H45.out.grown h82 (fun e => hn4 e.symm)
      have h68 := H65.out.grown h82 (fun e => hn6 e.symm)
      have f8 := h68.free 1
      have c8 : w8.cell? ⟨X + 1, 1, none⟩ = some (.slice A k cp) := h68.cell 1
      have hB8 := bl_grown HB5.out h82 (fun r e => (HV5.out.lt r e).1)
      have hn68 := own_ne_blk h81 h68 (by decide)
      have HV8 := Lib.hid (ownsRow_setCell_other (a := ⟨X + 1, 1, none⟩) h81 hn68 (.slice (some ⟨g8, 0, none⟩) (k + 1) cap8))
      have H48 := Lib.hid (h48.other (show X ≠ X + 1 by omega) 1 (.slice (some ⟨g8, 0, none⟩) (k + 1) cap8))
      have H68 : Hid (Blk (w8.setCell ⟨X + 1, 1, none⟩ (.slice (some ⟨g8, 0, none⟩) (k + 1) cap8)) (X + 1) #[.int .i64 N, .slice (some ⟨g8, 0, none⟩) (k + 1) cap8] 30) := h68.set 1 _
      have HB8 := Lib.hid (bl_set hB8 (X + 1) 1 none (.slice (some ⟨g8, 0, none⟩) (k + 1) cap8) (by have := HXX.out; omega))
      clear h81 h82 h83 h84 hn4 hn6 h48 h68 hB8 hn68 H45 H65 HV5 HB5 HN5
      go_wp2_with fail
      refine NoPanic.normal ?_
      go_wp2_with fail
      go_roundw
      case rel => exact ⟨k + 1, _, by omega, by omega, by go_num, H48, H68, HV8, HB8⟩
      case measure => simp [intOf]; omega
    · have hkm : k = min 8 m := by omega
      have HK : Hid (mdL N (has.take k) = mdL N has) := by
        show _ = _
        unfold mdL
        rw [List.take_take, hkm]
        congr 1
        by_cases q : m ≤ 8
        · rw [List.take_of_length_le (by rw [HM.out]; omega), List.take_of_length_le (by rw [HM.out]; omega)]
        · rw [show min 8 (min 8 m) = 8 by omega]
      have HKL : Hid ((mdL N has).length = k) := by show _ = _; rw [mdL_len, HM.out, hkm]
      have c0 : wr.cell? ⟨X + 1, 0, none⟩ = some (.int .i64 N) := h6.out.cell 0
      have c1 : wr.cell? ⟨X + 1, 1, none⟩ = some v := h6.out.cell 1
      have e0 : wr.cell? ⟨X, 0, none⟩ = some (.int .i64 0) := h4.out.cell 0
      have e1 : wr.cell? ⟨X, 1, none⟩ = some (.slice none 0 0) := h4.out.cell 1
      have g0 := h4.out.free 0
      have g1 := h4.out.free 1
      have hV4 := own_ne_blk hV.out h4.out (by decide)
      obtain ⟨A, cp, rfl, _⟩ := owns_slice hV.out
      have HV2 := Lib.hid (ownsRow_setCell_other (a := ⟨X, 1, none⟩) (ownsRow_setCell_other (a := ⟨X, 0, none⟩) hV.out hV4 (.int .i64 N)) hV4 (.slice A k cp))
      have HX2 : Hid (Blk ((wr.setCell ⟨X, 0, none⟩ (.int .i64 N)).setCell ⟨X, 1, none⟩ (.slice A k cp)) X #[.int .i64 N, .slice A k cp] 30) := blk_stored2 h4.out
      have HB2 := Lib.hid (bl_set (bl_set hB.out X 0 none (.int .i64 N) (by have := HXX.out; omega)) X 1 none (.slice A k cp) (by have := HXX.out; omega))
      have hlt2 : k < m → ¬ k < 8 := fun h1 h2 => hlt ⟨h1, h2⟩
      clear hV hV4 h4 h6 hB hkm
      by_cases hkm : k < m
      · have d8 : decide ((k : Int) < 8) = false := by have := hlt2 hkm; simp; omega
        clear hlt2 hlt
        go_wp2_with fail
        have r0 : ((wr.setCell ⟨X, 0, none⟩ (.int .i64 N)).setCell ⟨X, 1, none⟩ (.slice A k cp)).cell? ⟨X, 0, none⟩ = some (.int .i64 N) := HX2.out.cell 0
        have r1 : ((wr.setCell ⟨X, 0, none⟩ (.int .i64 N)).setCell ⟨X, 1, none⟩ (.slice A k cp)).cell? ⟨X, 1, none⟩ = some (.slice A k cp) := HX2.out.cell 1
        refine bodyPost_ret (v := .agg #[.int .i64 N, .slice A k cp]) (by simp [results, Tryd.results10, go_sem, r0, r1]) rfl ⟨_, rfl, ?_, HB2.out⟩
        rw [HKL.out, ← HK.out]; exact HV2.out
      · clear hlt2 hlt
        go_wp2_with fail
        have r0 : ((wr.setCell ⟨X, 0, none⟩ (.int .i64 N)).setCell ⟨X, 1, none⟩ (.slice A k cp)).cell? ⟨X, 0, none⟩ = some (.int .i64 N) := HX2.out.cell 0
        have r1 : ((wr.setCell ⟨X, 0, none⟩ (.int .i64 N)).setCell ⟨X, 1, none⟩ (.slice A k cp)).cell? ⟨X, 1, none⟩ = some (.slice A k cp) := HX2.out.cell 1
        refine bodyPost_ret (v := .agg #[.int .i64 N, .slice A k cp]) (by simp [results, Tryd.results10, go_sem, r0, r1]) rfl ⟨_, rfl, ?_, HB2.out⟩
        rw [HKL.out, ← HK.out]; exact HV2.out
end Go.Proofs.YtjmnakkkimgifaaDoor
namespace Go.Proofs.YtjmnakkkimgifaaDoor
open Go.ChangeShapes Go.WideShapes Go.RowKit Go.Deep
theorem cellsU8 : Tryd.prog.cellsOf 5 = 1 := by kernel_rfl
theorem cellsU16 : Tryd.prog.cellsOf 70 = 1 := by kernel_rfl
theorem bytesU8 : Tryd.prog.bytesOf 5 = 1 := by kernel_rfl
theorem bytesU16 : Tryd.prog.bytesOf 70 = 2 := by kernel_rfl
theorem rd_u8s {H : Type} {enc : TypeId × Value → H} {W : World} (n : Nat) (cs : List Value) (x : DataW H × List MemPlace) (h : DataW.trod enc Tryd.prog W 0 (fun _ => true) true n 5 cs = some x) (_ : ∀ y ∈ x.1.weights Tryd.prog 5, y ≤ reachBytes) : ∃ a : Nat, cs = enc8 a ∧ a < 256 := by
  obtain ⟨z, rfl, _, hw⟩ := DataW.trod_int Tryd.underlying5 h
  have hb := bounds_u8 hw
  refine ⟨z.toNat, ?_, by omega⟩
  show _ = [Value.int .u8 ((z.toNat : Nat) : Int)]
  rw [Int.toNat_of_nonneg hb.1]
theorem rd_u16s {H : Type} {enc : TypeId × Value → H} {W : World} (n : Nat) (cs : List Value) (x : DataW H × List MemPlace) (h : DataW.trod enc Tryd.prog W 0 (fun _ => true) true n 70 cs = some x) (_ : ∀ y ∈ x.1.weights Tryd.prog 70, y ≤ reachBytes) : ∃ a : Nat, cs = enc16 a ∧ a < 65536 := by
  obtain ⟨z, rfl, _, hw⟩ := DataW.trod_int Tryd.underlying70 h
  have hb := bounds_u16 hw
  refine ⟨z.toNat, ?_, by omega⟩
  show _ = [Value.int .u16 ((z.toNat : Nat) : Int)]
  rw [Int.toNat_of_nonneg hb.1]
set_option maxRecDepth 100000 in
theorem open_u8s {H : Type} {enc : TypeId × Value → H} {W : World} {r : Reach} {b0 : Nat} {v : Value} {d : DataW H} {ps : List MemPlace} (hv : Value.okWide Tryd.prog W r b0 32 v) (h : DataW.Trod enc Tryd.prog W 0 (fun _ => true) true 32 v d ps) (hsz : ∀ y ∈ d.weights Tryd.prog 32, y ≤ reachBytes) :
    ∃ (a : Option Addr) (n c : Nat) (l : List Nat), v = .slice a n c ∧ l.length = n ∧ n ≤ 1152921504606846976 ∧ Rd W a (fl enc8 l) ∧ ∀ i, i < n → vA l i < 256 := by
  obtain ⟨a, n, c, l, h1, h2, h3, ⟨h4a, h4b⟩, h4, h5, h6, h7⟩ := rd_openS enc8_len (by omega) (good := fun x => x < 256) Tryd.underlying32 cellsU8 rd_u8s hv h hsz
  rw [bytesU8] at h4
  exact ⟨a, n, c, l, h1, h2, by unfold reachBytes at h4; omega, h6, fun i hi => by rw [vA_get (by omega)]; exact h7 i (by omega)⟩
set_option maxRecDepth 100000 in
theorem open_u16s {H : Type} {enc : TypeId × Value → H} {W : World} {r : Reach} {b0 : Nat} {v : Value} {d : DataW H} {ps : List MemPlace} (hv : Value.okWide Tryd.prog W r b0 22 v) (h : DataW.Trod enc Tryd.prog W 0 (fun _ => true) true 22 v d ps) (hsz : ∀ y ∈ d.weights Tryd.prog 22, y ≤ reachBytes) :
    ∃ (a : Option Addr) (n c : Nat) (l : List Nat), v = .slice a n c ∧ l.length = n ∧ n ≤ 1152921504606846976 ∧ Rd W a (fl enc16 l) ∧ ∀ i, i < n → vA l i < 65536 := by
  obtain ⟨a, n, c, l, h1, h2, h3, ⟨h4a, h4b⟩, h4, h5, h6, h7⟩ := rd_openS enc16_len (by omega) (good := fun x => x < 65536) Tryd.underlying22 cellsU16 rd_u16s hv h hsz
  rw [bytesU16] at h4
  exact ⟨a, n, c, l, h1, h2, by unfold reachBytes at h4; omega, h6, fun i hi => by rw [vA_get (by omega)]; exact h7 i (by omega)⟩
end Go.Proofs.YtjmnakkkimgifaaDoor
