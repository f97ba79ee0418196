/- The grown graphs: plain part. Grown. The law EtymInherits. A list of threes of bytes that came in. -/
import Derived.Test.YtmfomjaomhohkaaDoorZG
import Derived.Laws.IdiomArrays
namespace Go.Proofs.YtmfomjaomhohkaaDoor
open Go Go.RowKit Go.Shelf
def grS (n : Nat) : Nat := 1 + n % 10
/-- The words. -/
def grW (i : Nat) : Et := (if i % 2 = 0 then nWest else nEast, [(i, 0)])
def grE (S : Nat) : List Et := (List.range S).map grW
theorem grE_len (S : Nat) : (grE S).length = S := by unfold grE; simp
theorem grE_take {S i : Nat} (h : i ≤ S) : (grE S).take i = grE i := by
  unfold grE
  rw [← List.map_take, List.take_range, Nat.min_eq_left h]
theorem grE_succ (i : Nat) : grE (i + 1) = grE i ++ [grW i] := by
  unfold grE
  rw [List.range_succ, List.map_append]; rfl
theorem gr_add : ∀ i, i < 10 → addE (grE i) (grW i).1 (grW i).2 = 0 := by decide +kernel
theorem gr_small : ∀ i, i < 10 → Small (grW i).1 (grW i).2 := by decide +kernel
abbrev T3 := Nat × Nat × Nat
def enc3 (x : T3) : List Value := [.int .u8 (x.1 : Nat), .int .u8 (x.2.1 : Nat), .int .u8 (x.2.2 : Nat)]
theorem enc3_len (x : T3) : (enc3 x).length = 3 := rfl
def tD : T3 := (0, 0, 0)
/-- A link by three numbers. -/
def grX (S : Nat) (t : T3) : Lk := (1 + ((t.2.2 % 3 : Nat) : Int), ((min (t.1 % S) (t.2.1 % S) : Nat) : Int), ((max (t.1 % S) (t.2.1 % S) : Nat) : Int))
def grA (S : Nat) (ls : List Lk) (t : T3) : List Lk := if t.1 % S = t.2.1 % S then ls else if grX S t ∈ ls then ls else ls ++ [grX S t]
/-- The links. -/
def grL (S : Nat) (l : List T3) : List Lk := (l.take 20).foldl (grA S) []
theorem grL_succ (S : Nat) (l : List T3) {i : Nat} (h : i < l.length) (h2 : i < 20) : ((l.take 20).take (i + 1)).foldl (grA S) [] = grA S (((l.take 20).take i).foldl (grA S) []) (l.getD i tD) := by
  have h3 : i < (l.take 20).length := by rw [List.length_take]; omega
  rw [List.take_succ_eq_append_getElem h3, List.foldl_append, List.getElem_take, List.getD_eq_getElem?_getD, List.getElem?_eq_getElem h]
  rfl
/-- Links that lead to greater numbers. -/
def Asc (ls : List Lk) (S : Nat) : Prop := ∀ x ∈ ls, ∃ a b : Nat, x.2.1 = a ∧ x.2.2 = b ∧ a < b ∧ b < S ∧ 1 ≤ x.1 ∧ x.1 ≤ 3
theorem asc_add {S : Nat} (hS : 0 < S) {ls : List Lk} (h : Asc ls S) (t : T3) : Asc (grA S ls t) S := by
  unfold grA
  by_cases e : t.1 % S = t.2.1 % S
  · rw [if_pos e]; exact h
  · rw [if_neg e]
    by_cases q : grX S t ∈ ls
    · rw [if_pos q]; exact h
    · rw [if_neg q]
      intro x hx
      rcases List.mem_append.1 hx with hx | hx
      · exact h x hx
      · rw [List.mem_singleton] at hx
        subst hx
        have h1 := Nat.mod_lt t.1 hS
        have h2 := Nat.mod_lt t.2.1 hS
        have h3 := Nat.mod_lt t.2.2 (show 0 < 3 by omega)
        refine ⟨_, _, rfl, rfl, ?_, ?_, ?_, ?_⟩
        · omega
        · omega
        · show (1 : Int) ≤ 1 + _; omega
        · show 1 + _ ≤ (3 : Int); omega
theorem asc_fold {S : Nat} (hS : 0 < S) : ∀ (l : List T3) (ls : List Lk), Asc ls S → Asc (l.foldl (grA S) ls) S
  | [], _, h => h
  | t :: l, _, h => asc_fold hS l _ (asc_add hS h t)
theorem asc_grL {S : Nat} (hS : 0 < S) (l : List T3) : Asc (grL S l) S := asc_fold hS _ _ fun x h => by cases h
theorem len_add (S : Nat) (ls : List Lk) (t : T3) : (grA S ls t).length ≤ ls.length + 1 := by
  unfold grA
  split
  · omega
  · split
    · omega
    · simp
theorem Asc.at {ls : List Lk} {S : Nat} (h : Asc ls S) {k : Nat} (hk : k < ls.length) : ∃ a b : Nat, lF ls k = a ∧ lT ls k = b ∧ a < b ∧ b < S := by
  obtain ⟨a, b, h1, h2, h3, h4, _⟩ := h ls[k] (List.getElem_mem hk)
  refine ⟨a, b, ?_, ?_, h3, h4⟩
  · unfold lF; rw [List.getD_eq_getElem?_getD, List.getElem?_eq_getElem hk]; exact h1
  · unfold lT; rw [List.getD_eq_getElem?_getD, List.getElem?_eq_getElem hk]; exact h2
theorem Asc.lkin {ls : List Lk} {S : Nat} (h : Asc ls S) : LkIn ls S := fun k hk => by
  obtain ⟨a, b, h1, h2, h3, h4⟩ := h.at hk
  omega
theorem Asc.up_lt {ls : List Lk} {S : Nat} (h : Asc ls S) {a b : Nat} (ha : a ∈ upL ls b) : a < b := by
  obtain ⟨k, hk, h1, h2⟩ := upL_mem.1 ha
  obtain ⟨x, y, g1, g2, g3, _⟩ := h.at hk
  omega
theorem Asc.up {ls : List Lk} {S : Nat} (h : Asc ls S) {a n : Nat} (hu : Up ls a n) : a ≤ n := by
  induction hu with
  | refl n => exact Nat.le_refl _
  | step ha _ ih => have := h.up_lt ha; omega
/-- What Link answers. -/
theorem gr_lk {S : Nat} (hS : 0 < S) {ls : List Lk} (h : Asc ls S) (hl : ls.length < 4096) (t : T3) : lkE S ls (grX S t) = if t.1 % S = t.2.1 % S then 9 else if grX S t ∈ ls then 6 else 0 := by
  have h1 := Nat.mod_lt t.1 hS
  have h2 := Nat.mod_lt t.2.1 hS
  have h3 := Nat.mod_lt t.2.2 (show 0 < 3 by omega)
  have hk : ¬ ((grX S t).1 < 1 ∨ 3 < (grX S t).1) := by
    show ¬ (1 + _ < (1 : Int) ∨ (3 : Int) < 1 + _)
    omega
  have b1 : hasB (grX S t).2.1 S = true := by rw [show (grX S t).2.1 = ((min (t.1 % S) (t.2.1 % S) : Nat) : Int) from rfl]; unfold hasB; simp only [Bool.and_eq_true, decide_eq_true_eq]; omega
  have b2 : hasB (grX S t).2.2 S = true := by rw [show (grX S t).2.2 = ((max (t.1 % S) (t.2.1 % S) : Nat) : Int) from rfl]; unfold hasB; simp only [Bool.and_eq_true, decide_eq_true_eq]; omega
  unfold lkE
  rw [if_neg hk, if_neg (by rw [b1, b2]; simp)]
  have e1 : (grX S t).2.1.toNat = min (t.1 % S) (t.2.1 % S) := rfl
  have e2 : (grX S t).2.2.toNat = max (t.1 % S) (t.2.1 % S) := rfl
  rw [e1, e2]
  by_cases e : t.1 % S = t.2.1 % S
  · rw [if_pos e, e, Nat.max_self, Nat.min_self, if_pos (ab_self _ _ _)]
  · rw [if_neg e, if_neg fun q => by
      have := h.up ((ab_iff h.lkin (by omega)).1 q)
      omega]
    by_cases q : grX S t ∈ ls
    · rw [if_pos q, if_pos q]
    · rw [if_neg q, if_neg q, if_neg (by omega)]
theorem grX_is (S : Nat) (t : T3) : (1 : Int) + (t.2.2 : Int) % 3 = (grX S t).1 ∧ min ((t.1 % S : Nat) : Int) ((t.2.1 % S : Nat) : Int) = (grX S t).2.1 ∧ max ((t.1 % S : Nat) : Int) ((t.2.1 % S : Nat) : Int) = (grX S t).2.2 ∧ (if ((t.1 % S : Nat) : Int) ≤ ((t.2.1 % S : Nat) : Int) then ((t.1 % S : Nat) : Int) else ((t.2.1 % S : Nat) : Int)) = (grX S t).2.1 ∧ (if ((t.1 % S : Nat) : Int) ≤ ((t.2.1 % S : Nat) : Int) then ((t.2.1 % S : Nat) : Int) else ((t.1 % S : Nat) : Int)) = (grX S t).2.2 := by
  unfold grX
  refine ⟨?_, ?_, ?_, ?_, ?_⟩ <;> dsimp only
  · omega
  · omega
  · omega
  · split <;> omega
  · split <;> omega
theorem rd3 {l : List T3} {w : World} {a : Option Addr} (h : Rd w a (fl enc3 l)) (h0 : 0 < l.length) : ∃ b off, a = some ⟨b, off, none⟩ ∧ b < w.heap.size ∧ ∀ i, i < l.length → w.cell? ⟨b, off + i * 3, none⟩ = some (.int .u8 ((l.getD i tD).1 : Nat)) ∧ w.cell? ⟨b, off + i * 3 + 1, none⟩ = some (.int .u8 ((l.getD i tD).2.1 : Nat)) ∧ w.cell? ⟨b, off + i * 3 + 2, none⟩ = some (.int .u8 ((l.getD i tD).2.2 : Nat)) := by
  obtain ⟨b, off, e, hb, hc⟩ := rd_elem enc3_len h (by omega) h0
  refine ⟨b, off, e, hb, fun i hi => ⟨?_, ?_, ?_⟩⟩
  · have := hc i hi 0 (by omega); simpa [enc3, hi, ← Nat.add_assoc] using this
  · have := hc i hi 1 (by omega); simpa [enc3, hi, ← Nat.add_assoc] using this
  · have := hc i hi 2 (by omega); simpa [enc3, hi, ← Nat.add_assoc] using this
end Go.Proofs.YtmfomjaomhohkaaDoor
namespace Go.Proofs.YtmfomjaomhohkaaDoor
open Go Go.RowKit Go.Shelf
set_option maxHeartbeats 16000000 in
set_option maxRecDepth 100000 in
theorem grown_any (x S : Nat) (hS : S = grS x) (a : Option Addr) (n c : Nat) (l : List T3) (w : World) (hx : x < 256) (hl : l.length = n) (hn : n ≤ 1152921504606846976) (hA : Rd w a (fl enc3 l)) (hF : ∀ t ∈ l, t.1 < 256 ∧ t.2.1 < 256 ∧ t.2.2 < 256) :
    Calls Tryd.prog 10 #[.int .u8 x, .slice a n c] w fun e w' => ∃ (O : Nat → Prop) (g : Nat) (r : GrA) (v : Value), e = .returned (.tuple #[.pointer (some ⟨g, 0, none⟩), v]) ∧ GrAt w' O g r (grE S) (grL S l) ∧ w'.ownsRow w.heap.size 33 3 v (grL S l).length (fl encLk (grL S l)) ∧ (∀ b, v.ownBlock = some b → ¬ O b) ∧ (∀ k, O k → w.heap.size ≤ k) ∧ Below w.heap.size w w' := by
  have HNW := Lib.hid (new_any w)
  have HL := Lib.hid hl
  have HA := Lib.hid hA
  have HF := Lib.hid hF
  have HS := Lib.hid hS
  clear hl hA hF hS
  go_enter Tryd.func10, Tryd.ntmps10
  go_wp2_with fail
  refine HNW.out.mono ?_
  rintro e w1 ⟨O1, g, r1, rfl, hg1, hO1, hb1⟩
  have HG1 := Lib.hid hg1
  have HO1 := Lib.hid hO1
  have HB1 := Lib.hid hb1
  clear hg1 hO1 hb1 HNW
  have hS := HS.out
  have hS10 : S ≤ 10 := by rw [hS]; unfold grS; omega
  have hS1 : 1 ≤ S := by rw [hS]; unfold grS; omega
  have hse : (1 : Int) + (x : Int) % 10 = (S : Int) := by rw [hS]; unfold grS; omega
  clear hS
  go_wp2_with fail
  have HG0 : Hid (GrAt w1 O1 g r1 (grE 0) []) := HG1.out
  have HO0 : Hid (∀ k, O1 k → w.heap.size ≤ k) := HO1.out
  have HB0 : Hid (Below w.heap.size w w1) := HB1.out
  clear HG1 HO1 HB1
  go_loopw [25] (fun y wr => ∃ (i : Nat) (On : Nat → Prop) (rn : GrA), i ≤ S ∧ y = .int .i64 i ∧ Hid (GrAt wr On g rn (grE i) []) ∧ Hid (Below w.heap.size w wr) ∧ Hid (∀ k, On k → w.heap.size ≤ k)) (fun y _ => S - (intOf y).toNat)
  case atStart => exact ⟨0, O1, r1, by omega, rfl, HG0, HB0, HO0⟩
  case round =>
    clear HG0 HB0 HO0
    obtain ⟨i, On, rn, hi, rfl, hG, hB, hOn⟩ := hrel
    by_cases hlt : i < S
    · have hmd : (i : Int) % 2 = ((i % 2 : Nat) : Int) := by omega
      have hm2 : i % 2 < 2 := by omega
      obtain ⟨m, hm⟩ : ∃ m, m = i % 2 := ⟨_, rfl⟩
      rw [← hm] at hmd hm2
      have hwr : IntKind.u32.wrap (i : Int) = (i : Int) := (by rw [IntKind.wrap_u32]; omega)
      have HM := Lib.hid hm
      clear hm
      go_wp2_with fail
      have hst : ([Value.string { data := #[119, 101, 115, 116] }, Value.string { data := #[101, 97, 115, 116] }] : List Value)[m]'hm2 = .string (grW i).1 := by
        have hm := HM.out
        unfold grW
        rcases Nat.lt_or_ge m 1 with q | q
        · obtain rfl : m = 0 := by omega
          rw [if_pos hm.symm]; rfl
        · obtain rfl : m = 1 := by omega
          rw [if_neg (by omega)]; rfl
      rw [hst]
      have hb5 : Below wr.heap.size wr ((wr.alloc (.cells #[.string { data := #[119, 101, 115, 116] }, .string { data := #[101, 97, 115, 116] }] 9)).alloc (.cells #[.int .u32 i, .int .u32 0] 57)) := bl_alloc (bl_alloc (Below.refl _ wr) _) _
      have hR : Rd ((wr.alloc (.cells #[.string { data := #[119, 101, 115, 116] }, .string { data := #[101, 97, 115, 116] }] 9)).alloc (.cells #[.int .u32 i, .int .u32 0] 57)) (some ⟨wr.heap.size + 1, 0, none⟩) (fl encSd [(i, 0)]) := rd_of_blkQ (cs := fl encSd [(i, 0)]) (Blk.new2 wr _ _ 57)
      have hz5 : ((wr.alloc (.cells #[.string { data := #[119, 101, 115, 116] }, .string { data := #[101, 97, 115, 116] }] 9)).alloc (.cells #[.int .u32 i, .int .u32 0] 57)).heap.size = wr.heap.size + 1 + 1 := by simp
      generalize World.alloc _ _ = w5 at hb5 hR hz5 ⊢
      have hlen : (grE i).length = i := grE_len i
      refine (add_ok (hG.out.bl hb5) (grW i).1 _ 1 1 [(i, 0)] rfl hR (fun e => by cases e) (fun b o s e q => by cases e; have := hG.out.lt _ q; omega) ((gr_small i (by omega)).ky 0 _) (Nat.zero_le _) (fun _ _ => Nat.zero_le _) (gr_add i (by omega))).mono ?_
      rintro e w6 ⟨O6, r6, rfl, hG6, hK6, hO6⟩
      rw [hlen]
      have HG6 : Hid (GrAt w6 O6 g r6 (grE (i + 1)) []) := by rw [grE_succ]; exact hG6
      have HB6 : Hid (Below w.heap.size w w6) := hB.out.trans ((hb5.mono hB.out.size).trans (hK6.bel (by have := hB.out.size; omega) fun k q => hOn.out k q))
      have HO6 : Hid (∀ k, O6 k → w.heap.size ≤ k) := fun k q => by
        rcases hO6 k q with q | q
        · exact hOn.out k q
        · have := hB.out.size; omega
      clear hG6 hK6 hO6 hb5 hG hB hOn hR hz5 hst hmd hm2 hwr HM hlen
      go_wp2_with fail
      go_roundw
      case rel => exact ⟨i + 1, O6, r6, by omega, by go_num, HG6, HB6, HO6⟩
      case measure => simp [intOf]; omega
    · have he : i = S := by omega
      subst i
      have HG7 : Hid (GrAt wr On g rn (grE S) (((l.take 20).take 0).foldl (grA S) [])) := hG.out
      have HR7 : Hid (wr.ownsRow w.heap.size 33 3 (.slice none 0 0) 0 (fl encLk (((l.take 20).take 0).foldl (grA S) []))) := World.ownsRow_nil _ _ _ _
      clear hG hlt hi
      go_wp2_with fail
      have HM7 : Hid (0 = (((l.take 20).take 0).foldl (grA S) []).length) := rfl
      have HL7 : Hid (((l.take 20).take 0).foldl (grA S) [] = ((l.take 20).take 0).foldl (grA S) []) := rfl
      have HB7 := Lib.hid hB.out
      have HO7 := Lib.hid hOn.out
      have HW7 : Hid (∀ b, (Value.slice none 0 0).ownBlock = some b → ¬ On b) := fun b e => by cases e
      clear hB hOn
      go_loopw [12, 11] (fun y v wr => ∃ (i : Nat) (Om : Nat → Prop) (rm : GrA) (va : Option Addr) (m vc : Nat) (ls : List Lk), i ≤ n ∧ i ≤ 20 ∧ y = .int .i64 i ∧ v = .slice va m vc ∧ m ≤ 20 ∧ m ≤ i ∧ Hid (m = ls.length) ∧ Hid (ls = ((l.take 20).take i).foldl (grA S) []) ∧ Hid (GrAt wr Om g rm (grE S) ls) ∧ Hid (wr.ownsRow w.heap.size 33 3 (.slice va m vc) m (fl encLk ls)) ∧ Hid (Below w.heap.size w wr) ∧ Hid (∀ k, Om k → w.heap.size ≤ k) ∧ Hid (∀ b, (Value.slice va m vc).ownBlock = some b → ¬ Om b)) (fun y _ _ => n - (intOf y).toNat)
      case atStart => exact ⟨0, On, rn, none, 0, 0, _, by omega, by omega, rfl, rfl, by omega, by omega, HM7, HL7, HG7, HR7, HB7, HO7, HW7⟩
      case round =>
        clear HG7 HR7 HB7 HO7 HW7 HM7 HL7
        obtain ⟨i, Om, rm, va, m, vc, ls, hi, hi20, rfl, rfl, hm20, hmi, hM, hLS, hG, hR, hB, hOm, hW⟩ := hrel
        by_cases hlt : i < n ∧ i < 20
        · obtain ⟨hl1, hl2⟩ := hlt
          obtain ⟨b, o, rfl, hb, hc⟩ := rd3 (HA.out.bl hB.out) (by rw [HL.out]; omega)
          obtain ⟨c0, c1, c2⟩ := hc i (by rw [HL.out]; exact hl1)
          have ht := HF.out (l.getD i tD) (by rw [List.getD_eq_getElem?_getD, List.getElem?_eq_getElem (by rw [HL.out]; exact hl1)]; exact List.getElem_mem _)
          have hx3 := grX_is S (l.getD i tD)
          obtain ⟨t, ht0⟩ : ∃ t, t = l.getD i tD := ⟨_, rfl⟩
          rw [← ht0] at c0 c1 c2 ht hx3
          obtain ⟨p, q, z⟩ := t
          obtain ⟨t1, t2, t3⟩ := ht
          dsimp only at c0 c1 c2 t1 t2 t3 hx3
          have hp : ((p : Nat) : Int) % (S : Int) = ((p % S : Nat) : Int) := (Int.natCast_emod p S).symm
          have hq : ((q : Nat) : Int) % (S : Int) = ((q % S : Nat) : Int) := (Int.natCast_emod q S).symm
          have hS0 : (S : Int) ≠ 0 := by omega
          have hpS := Nat.mod_lt p (show 0 < S by omega)
          have hqS := Nat.mod_lt q (show 0 < S by omega)
          have HPQ : Hid (l.getD i tD = (p, q, z)) := ht0.symm
          obtain ⟨u, hu⟩ : ∃ u, u = p % S := ⟨_, rfl⟩
          obtain ⟨v, hv⟩ : ∃ v, v = q % S := ⟨_, rfl⟩
          rw [← hu] at hp hpS hx3
          rw [← hv] at hq hqS hx3
          have HU := Lib.hid hu
          have HV := Lib.hid hv
          obtain ⟨X, hX⟩ : ∃ X, X = grX S (p, q, z) := ⟨_, rfl⟩
          rw [← hX] at hx3
          have HX := Lib.hid hX
          obtain ⟨X1, X2, X3⟩ := X
          obtain ⟨e1, e2, e3, e4, e5⟩ := hx3
          dsimp only at e1 e2 e3 e4 e5
          clear hc ht0 hu hv hX
          go_wp2_with fail
          go_quiet (fail)
          obtain ⟨w5, hw5⟩ : ∃ y, y = wr.drewN nq := ⟨_, rfl⟩
          have hb5 : Below wr.heap.size wr w5 := by rw [hw5]; exact bl_drewN (Below.refl _ wr) nq
          have c2 : w5.cell? ⟨b, o + i * 3 + 2, none⟩ = some (.int .u8 (z : Nat)) := by rw [hw5]; exact c2
          rw [← hw5]
          have HG5 := Lib.hid (hG.out.bl hb5)
          have HR5 := Lib.hid (owns_below hR.out hb5)
          have HB5 := Lib.hid (hB.out.trans (hb5.mono hB.out.size))
          clear hw5 hb5 hG hR hB c0 c1
          try simp only [hp, hq]
          go_wp2_with fail
          try simp only [hp, hq]
          have hb6 := bl_alloc (Below.refl _ w5) (.cells #[.int .i64 X1, .int .i64 X2, .int .i64 X3] 33)
          have hX6 := Blk.new w5 #[.int .i64 X1, .int .i64 X2, .int .i64 X3] 33
          generalize World.alloc w5 _ = w6 at hb6 hX6 ⊢
          obtain ⟨D, hD⟩ : ∃ y, y = w5.heap.size := ⟨_, rfl⟩
          rw [← hD] at hX6 ⊢
          have HG6 := Lib.hid (HG5.out.bl hb6)
          have HR6 := Lib.hid (owns_below HR5.out hb6)
          have HB6 := Lib.hid (HB5.out.trans (hb6.mono HB5.out.size))
          have HX6 := Lib.hid hX6
          have HDO : Hid (¬ Om D) := fun q => by have := HG5.out.lt D q; omega
          have HW0 : Hid (∃ nq, w6 = w6.drewN nq) := ⟨0, rfl⟩
          have HK0 : Hid (false = decide ((X1, X2, X3) ∈ ls.take 0)) := by show _ = _; simp
          clear hD hb6 hX6 HG5 HR5 HB5 c2
          go_loopw [17, 16] (fun y kn wr => ∃ (k : Nat) (kb : Bool), k ≤ m ∧ y = .int .i64 k ∧ kn = .bool kb ∧ Hid (kb = decide ((X1, X2, X3) ∈ ls.take k)) ∧ Hid (∃ nq, wr = w6.drewN nq)) (fun y _ _ => m - (intOf y).toNat)
          case atStart => exact ⟨0, false, by omega, rfl, rfl, HK0, HW0⟩
          case round =>
            clear HW0 HK0
            obtain ⟨k, kb, hk, rfl, rfl, hkb, hw⟩ := hrel
            obtain ⟨n0, rfl⟩ := hw.out
            clear hw
            by_cases hkm : k < m
            · have hkl : k < ls.length := by rw [← hM.out]; exact hkm
              obtain ⟨b1, o1, rfl, _, hd⟩ := rdLk (rd_of_owns HR6.out) (by omega)
              obtain ⟨A0, A1, A2⟩ := hd k hkl
              have d0 : w6.cell? ⟨D, 0, none⟩ = some (.int .i64 X1) := HX6.out.cell 0
              have d1 : w6.cell? ⟨D, 1, none⟩ = some (.int .i64 X2) := HX6.out.cell 1
              have d2 : w6.cell? ⟨D, 2, none⟩ = some (.int .i64 X3) := HX6.out.cell 2
              have hgd := guardLk
              obtain ⟨x0, hx0⟩ : ∃ y, y = lK ls k := ⟨_, rfl⟩
              obtain ⟨x1, hx1⟩ : ∃ y, y = lF ls k := ⟨_, rfl⟩
              obtain ⟨x2, hx2⟩ : ∃ y, y = lT ls k := ⟨_, rfl⟩
              rw [← hx0] at A0
              rw [← hx1] at A1
              rw [← hx2] at A2
              have HT : Hid (ls.take (k + 1) = ls.take k ++ [(x0, x1, x2)]) := by
                show _ = _
                rw [hx0, hx1, hx2]; unfold lK lF lT
                rw [List.take_add_one, List.getElem?_eq_getElem hkl, List.getD_eq_getElem?_getD, List.getElem?_eq_getElem hkl]
                rfl
              clear hx0 hx1 hx2 hd
              cases kb with
              | true =>
                have HK1 : Hid (true = decide ((X1, X2, X3) ∈ ls.take (k + 1))) := by
                  show _ = _
                  rw [HT.out]
                  exact (decide_eq_true (List.mem_append.2 (.inl (of_decide_eq_true hkb.out.symm)))).symm
                clear hkb
                go_wp2_with fail
                go_quiet (fail)
                go_wp2_with fail
                go_roundw
                case rel => exact ⟨k + 1, true, by omega, by go_num, rfl, HK1, n0 + nq, by simp⟩
                case measure => simp [intOf]; omega
              | false =>
                by_cases e : x0 = X1 ∧ x1 = X2 ∧ x2 = X3
                · have HK1 : Hid (true = decide ((X1, X2, X3) ∈ ls.take (k + 1))) := by
                    show _ = _
                    rw [HT.out]
                    obtain ⟨rfl, rfl, rfl⟩ := e
                    exact (decide_eq_true (List.mem_append.2 (.inr (List.mem_singleton.2 rfl)))).symm
                  have hn1 : ∀ W, (binOp .eql 33 (.agg #[.int .i64 x0, .int .i64 x1, .int .i64 x2]) (.agg #[.int .i64 X1, .int .i64 X2, .int .i64 X3])).run Tryd.prog W = .ok (.bool true) W := fun W => by rw [eqlLk, decide_eq_true e]
                  clear hkb e
                  go_wp2_with fail
                  go_quiet (fail)
                  go_wp2_with fail
                  go_roundw
                  case rel => exact ⟨k + 1, true, by omega, by go_num, rfl, HK1, n0 + nq, by simp⟩
                  case measure => simp [intOf]; omega
                · have HK1 : Hid (false = decide ((X1, X2, X3) ∈ ls.take (k + 1))) := by
                    show _ = _
                    rw [HT.out]
                    refine (decide_eq_false fun q => ?_).symm
                    rcases List.mem_append.1 q with q | q
                    · exact of_decide_eq_false hkb.out.symm q
                    · rw [List.mem_singleton] at q
                      cases q
                      exact e ⟨rfl, rfl, rfl⟩
                  have hn1 : ∀ W, (binOp .eql 33 (.agg #[.int .i64 x0, .int .i64 x1, .int .i64 x2]) (.agg #[.int .i64 X1, .int .i64 X2, .int .i64 X3])).run Tryd.prog W = .ok (.bool false) W := fun W => by rw [eqlLk, decide_eq_false e]
                  clear hkb e
                  go_wp2_with fail
                  go_quiet (fail)
                  go_wp2_with fail
                  go_roundw
                  case rel => exact ⟨k + 1, false, by omega, by go_num, rfl, HK1, n0 + nq, by simp⟩
                  case measure => simp [intOf]; omega
            · have hkm2 : k = m := by omega
              subst k
              have HKB : Hid (kb = decide ((X1, X2, X3) ∈ ls)) := by
                have h := hkb.out
                rwa [List.take_of_length_le (by rw [← hM.out]; exact Nat.le_refl _)] at h
              clear hkb hkm
              have d0 : w6.cell? ⟨D, 0, none⟩ = some (.int .i64 X1) := HX6.out.cell 0
              have d1 : w6.cell? ⟨D, 1, none⟩ = some (.int .i64 X2) := HX6.out.cell 1
              have d2 : w6.cell? ⟨D, 2, none⟩ = some (.int .i64 X3) := HX6.out.cell 2
              have hlk : lkE (grE S).length ls (X1, X2, X3) = if u = v then 9 else if (X1, X2, X3) ∈ ls then 6 else 0 := by
                have h := gr_lk (show 0 < S by omega) (ls := ls) (by rw [hLS.out]; exact asc_fold (by omega) _ _ (fun x h => by cases h)) (by rw [← hM.out]; omega) (p, q, z)
                rw [← HX.out] at h
                rw [grE_len, h, HU.out, HV.out]
              have hst : ((l.take 20).take (i + 1)).foldl (grA S) [] = if u = v then ls else if (X1, X2, X3) ∈ ls then ls else ls ++ [(X1, X2, X3)] := by
                rw [grL_succ S l (by rw [HL.out]; exact hl1) hl2, ← hLS.out, HPQ.out, HU.out, HV.out, HX.out]
                rfl
              have HLK := Lib.hid hlk
              have HST := Lib.hid hst
              clear hlk hst
              go_wp2_with fail
              have hb7 : Below w6.heap.size w6 (w6.drewN n0) := bl_drewN (Below.refl _ w6) n0
              refine (link_any (HG6.out.bl hb7) X1 X2 X3).mono ?_
              rintro e w7 ⟨rfl, hno, hok⟩
              have HNO := Lib.hid hno
              have HOK := Lib.hid hok
              clear hno hok
              by_cases huv : u = v
              · have hlk := HLK.out
                have hst := HST.out
                rw [if_pos huv] at hlk hst
                have HB7 := Lib.hid (bl_trans hb7 ((HNO.out (by rw [hlk]; decide)).mono hb7.size))
                have HST1 := Lib.hid hst
                rw [hlk]
                have d0 : w7.cell? ⟨D, 0, none⟩ = some (.int .i64 X1) := (HX6.out.below HB7.out).cell 0
                have d1 : w7.cell? ⟨D, 1, none⟩ = some (.int .i64 X2) := (HX6.out.below HB7.out).cell 1
                have d2 : w7.cell? ⟨D, 2, none⟩ = some (.int .i64 X3) := (HX6.out.below HB7.out).cell 2
                have HG8 := Lib.hid (HG6.out.bl HB7.out)
                have HR8 := Lib.hid (owns_below HR6.out HB7.out)
                have HB8 := Lib.hid (HB6.out.trans (HB7.out.mono HB6.out.size))
                have HS8 : Hid (ls = ((l.take 20).take (i + 1)).foldl (grA S) []) := HST1.out.symm
                subst v
                clear hlk hst HLK HST HST1 HNO HOK hb7 hp hq e1 e2 e3 e4 e5 c2 hk
                go_wp2_with fail
                go_roundw
                case rel => exact ⟨i + 1, Om, rm, va, m, vc, ls, by omega, by omega, by go_num, rfl, hm20, by omega, hM, HS8, HG8, HR8, HB8, hOm, hW⟩
                case measure => simp [intOf]; omega
              · have huv1 : ((u : Int) == (v : Int)) = false := by simp; omega
                have huv2 : ((u : Int) != (v : Int)) = true := by simp; omega
                by_cases hmem : (X1, X2, X3) ∈ ls
                · have hlk := HLK.out
                  have hst := HST.out
                  rw [if_neg huv, if_pos hmem] at hlk hst
                  have HB7 := Lib.hid (bl_trans hb7 ((HNO.out (by rw [hlk]; decide)).mono hb7.size))
                  have HST1 := Lib.hid hst
                  rw [hlk]
                  have d0 : w7.cell? ⟨D, 0, none⟩ = some (.int .i64 X1) := (HX6.out.below HB7.out).cell 0
                  have d1 : w7.cell? ⟨D, 1, none⟩ = some (.int .i64 X2) := (HX6.out.below HB7.out).cell 1
                  have d2 : w7.cell? ⟨D, 2, none⟩ = some (.int .i64 X3) := (HX6.out.below HB7.out).cell 2
                  have HG8 := Lib.hid (HG6.out.bl HB7.out)
                  have HR8 := Lib.hid (owns_below HR6.out HB7.out)
                  have HB8 := Lib.hid (HB6.out.trans (HB7.out.mono HB6.out.size))
                  have HS8 : Hid (ls = ((l.take 20).take (i + 1)).foldl (grA S) []) := HST1.out.symm
                  obtain rfl : kb = true := by rw [HKB.out]; exact decide_eq_true hmem
                  clear hlk hst HLK HST HST1 HNO HOK hb7 hp hq e1 e2 e3 e4 e5 c2 hk huv hmem
                  go_wp2_with fail
                  go_roundw
                  case rel => exact ⟨i + 1, Om, rm, va, m, vc, ls, by omega, by omega, by go_num, rfl, hm20, by omega, hM, HS8, HG8, HR8, HB8, hOm, hW⟩
                  case measure => simp [intOf]; omega
                · have hlk := HLK.out
                  have hst := HST.out
                  rw [if_neg huv, if_neg hmem] at hlk hst
                  obtain ⟨O8, r8, hG8, hK8, hO8⟩ := HOK.out hlk
                  have HST1 := Lib.hid hst
                  rw [hlk]
                  have hX8 : Blk w7 D #[.int .i64 X1, .int .i64 X2, .int .i64 X3] 33 := (HX6.out.below hb7).kp hK8 HDO.out
                  have d0 : w7.cell? ⟨D, 0, none⟩ = some (.int .i64 X1) := hX8.cell 0
                  have d1 : w7.cell? ⟨D, 1, none⟩ = some (.int .i64 X2) := hX8.cell 1
                  have d2 : w7.cell? ⟨D, 2, none⟩ = some (.int .i64 X3) := hX8.cell 2
                  have HG8 := Lib.hid hG8
                  have HR8 := Lib.hid (owns_kp (owns_below HR6.out hb7) hK8 hW.out)
                  have HB8 := Lib.hid (HB6.out.trans ((hb7.mono HB6.out.size).trans (hK8.bel HB6.out.size fun k q => hOm.out k q)))
                  have HO8 : Hid (∀ k, O8 k → w.heap.size ≤ k) := fun k q => by
                    rcases hO8 k q with q | q
                    · exact hOm.out k q
                    · have := HB6.out.size; have := hb7.size; omega
                  have HW8 : Hid (∀ b, (Value.slice va m vc).ownBlock = some b → ¬ O8 b) := fun b e q => by
                    rcases hO8 b q with q | q
                    · exact hW.out b e q
                    · have := (HR6.out.lt b e).2; have := hb7.size; omega
                  have HX8 := Lib.hid hX8
                  have HS8 : Hid (ls ++ [(X1, X2, X3)] = ((l.take 20).take (i + 1)).foldl (grA S) []) := HST1.out.symm
                  obtain rfl : kb = false := by rw [HKB.out]; exact decide_eq_false hmem
                  clear hlk hst HLK HST HST1 HNO HOK hb7 hp hq e1 e2 e3 e4 e5 c2 hk huv hmem hG8 hK8 hO8 hX8 HG6 HR6 HB6 hOm hW HDO
                  have HBA : Hid (∀ o, Below w7.heap.size w7 (w7.alloc o)) := fun o => bl_alloc (Below.refl _ w7) o
                  have HRA : Hid (∀ o, (w7.alloc o).ownsRow w.heap.size 33 3 (.slice va m vc) m (fl encLk ls)) := fun o => owns_below HR8.out (HBA.out o)
                  have HSA : Hid (∀ o, w.heap.size ≤ (w7.alloc o).heap.size) := fun o => Nat.le_trans HB8.out.size (HBA.out o).size
                  go_wp2_with (at_builtin; refine wpList_pushs rfl encLk_len (by decide) encLk_one Tryd.underlying24 infoLk rfl (.tmp 140) (.tmp 142) rfl (.slice va m vc) ls m hM.out rfl (HRA.out _) (some ⟨w7.heap.size, 0, none⟩) 1 1 [(X1, X2, X3)] rfl rfl (rd_of_blkQ (cs := encLk (X1, X2, X3)) (Blk.new w7 _ 33)) (fun e => by cases e) (by omega) (by decide) (HSA.out _) ?_; intro v9 w9 h91 h92 h93; have H91 := Lib.hid h91; have H92 := Lib.hid h92; have H93 := Lib.hid h93; clear h91 h92 h93)
                  obtain ⟨va9, c9, rfl, _⟩ := owns_slice H91.out
                  have hGA := HG8.out.bl (HBA.out (.cells #[.int .i64 X1, .int .i64 X2, .int .i64 X3] 33))
                  have hGr := H92.out
                  have HG9 : Hid (GrAt w9 O8 g r8 (grE S) (ls ++ [(X1, X2, X3)])) := hGA.at hGr.size (fun k q => hGr.block k (hGA.lt k q) fun e => HW8.out k e.symm q) (fun a b ha e => hGr.block b ((hGA.snd a ha).lt b e).2 fun e2 => absurd ((own_kind (hGA.snd a ha) e).symm.trans (own_kind (HRA.out _) e2.symm)) (by decide))
                  have HB9 := Lib.hid (bl_grown (HB8.out.trans ((HBA.out (.cells #[.int .i64 X1, .int .i64 X2, .int .i64 X3] 33)).mono HB8.out.size)) hGr fun k e => (HR8.out.lt k e).1)
                  have HW9 : Hid (∀ b, (Value.slice va9 (m + 1) c9).ownBlock = some b → ¬ O8 b) := fun b e q => by
                    rcases H93.out with h | h
                    · rw [h] at e; exact HW8.out b e q
                    · rw [h] at e
                      have e := Option.some.inj e
                      have h1 := HG8.out.lt b q
                      have h2 := (HBA.out (.cells #[.int .i64 X1, .int .i64 X2, .int .i64 X3] 33)).size
                      omega
                  have HM9 : Hid (m + 1 = (ls ++ [(X1, X2, X3)]).length) := by show _ = _; rw [List.length_append, ← hM.out]; rfl
                  go_roundw
                  case rel => exact ⟨i + 1, O8, r8, va9, m + 1, c9, ls ++ [(X1, X2, X3)], by omega, by omega, by go_num, rfl, by omega, by omega, HM9, HS8, HG9, H91, HB9, HO8, HW9⟩
                  case measure => simp [intOf]; omega
        · have he : ls = grL S l := by
            rw [hLS.out]
            unfold grL
            rw [List.take_of_length_le (l := l.take 20) (by rw [List.length_take, HL.out]; omega)]
          have HE := Lib.hid he
          clear he hLS
          have hfin : ∀ (e : Ending), e = .returned (.tuple #[.pointer (some ⟨g, 0, none⟩), .slice va m vc]) → ∃ (O : Nat → Prop) (g : Nat) (r : GrA) (v : Value), e = .returned (.tuple #[.pointer (some ⟨g, 0, none⟩), v]) ∧ GrAt wr O g r (grE S) (grL S l) ∧ wr.ownsRow w.heap.size 33 3 v (grL S l).length (fl encLk (grL S l)) ∧ (∀ b, v.ownBlock = some b → ¬ O b) ∧ (∀ k, O k → w.heap.size ≤ k) ∧ Below w.heap.size w wr := fun e q => by
            refine ⟨Om, g, rm, _, q, ?_, ?_, hW.out, hOm.out, hB.out⟩
            · rw [← HE.out]; exact hG.out
            · rw [← HE.out, ← hM.out]; exact hR.out
          have HFIN := Lib.hid hfin
          clear hfin
          by_cases h1 : i < n
          · have h20 : i = 20 := by omega
            subst h20
            go_wp2_with fail
            go_ret2
            exact HFIN.out _ rfl
          · have hin : i = n := by omega
            subst i
            clear hlt h1
            go_wp2_with fail
            go_ret2
            exact HFIN.out _ rfl
end Go.Proofs.YtmfomjaomhohkaaDoor
namespace Go.Proofs.YtmfomjaomhohkaaDoor
open Go Go.RowKit Go.Shelf
theorem up_last {ls : List Lk} {a n : Nat} : Up ls a n ↔ a = n ∨ ∃ b, b ∈ upL ls n ∧ Up ls a b := by
  constructor
  · intro h
    induction h with
    | refl => exact .inl rfl
    | step h hb ih =>
      rcases ih with rfl | ⟨c, hc, hu⟩
      · exact .inr ⟨_, h, .refl _⟩
      · exact .inr ⟨c, hc, .step h hu⟩
  · rintro (rfl | ⟨b, hb, hu⟩)
    · exact .refl _
    · exact hu.trans (.step hb (.refl _))
theorem inh_iff {ls : List Lk} {S n : Nat} (hi : LkIn ls S) (hn : n < S) : inhB ls S n = true ↔ ∀ a, Up ls a n → okB ls a = true := by
  unfold inhB
  rw [List.all_eq_true]
  exact ⟨fun h a ha => h a ((ab_iff hi hn).2 ha), fun h a ha => h a ((ab_iff hi hn).1 ha)⟩
/-- What the links up to i say of a word. -/
def inhW (ls : List Lk) (S n i : Nat) : Bool := (List.range i).all fun j => !decide (lT ls j = (n : Int)) || (decide (lK ls j ≠ 2) && inhB ls S (lF ls j).toNat)
theorem inhW_succ (ls : List Lk) (S n i : Nat) : inhW ls S n (i + 1) = (inhW ls S n i && (!decide (lT ls i = (n : Int)) || (decide (lK ls i ≠ 2) && inhB ls S (lF ls i).toNat))) := by
  unfold inhW
  rw [List.range_succ, List.all_append]
  simp
theorem inh_step {ls : List Lk} {S n : Nat} (hA : Asc ls S) (hn : n < S) : inhB ls S n = inhW ls S n ls.length := by
  rw [Bool.eq_iff_iff, inh_iff hA.lkin hn]
  unfold inhW
  rw [List.all_eq_true]
  constructor
  · intro h j hj
    rw [List.mem_range] at hj
    by_cases e : lT ls j = (n : Int)
    · obtain ⟨a, b, h1, h2, h3, h4⟩ := hA.at hj
      have hab : a ∈ upL ls n := upL_mem.2 ⟨j, hj, e, by rw [h1]; rfl⟩
      have ho := h n (.refl n)
      unfold okB at ho
      have ho2 := List.all_eq_true.1 ho j (frK_mem.2 ⟨hj, e⟩)
      have hi : inhB ls S (lF ls j).toNat = true := by
        rw [h1]
        refine (inh_iff hA.lkin (show ((a : Int).toNat) < S by rw [Int.toNat_natCast]; omega)).2 fun x hx => h x ?_
        exact hx.trans (.step hab (.refl n))
      rw [hi, ho2]; simp
    · rw [decide_eq_false e]; rfl
  · intro h a ha
    have hok : ∀ j, j < ls.length → lT ls j = (n : Int) → lK ls j ≠ 2 ∧ inhB ls S (lF ls j).toNat = true := fun j hj e => by
      have := h j (List.mem_range.2 hj)
      rw [decide_eq_true e] at this
      simpa using this
    rcases up_last.1 ha with rfl | ⟨b, hb, hu⟩
    · unfold okB
      rw [List.all_eq_true]
      intro k hk
      obtain ⟨h1, h2⟩ := frK_mem.1 hk
      exact decide_eq_true (hok k h1 h2).1
    · obtain ⟨k, h1, h2, h3⟩ := upL_mem.1 hb
      have h4 := (hok k h1 h2).2
      rw [h3] at h4
      have hbn := hA.up_lt hb
      exact (inh_iff hA.lkin (by omega)).1 h4 a hu
theorem encB_one : ∀ x : Bool, ∀ u ∈ encB x, u.oneCell' = true := by
  intro x u hu
  simp only [encB, List.mem_cons, List.not_mem_nil, or_false] at hu
  subst hu; rfl
set_option maxHeartbeats 16000000 in
set_option maxRecDepth 100000 in
theorem inherits_any (x : Nat) (a : Option Addr) (n c : Nat) (l : List T3) (w : World) (hx : x < 256) (hl : l.length = n) (hn : n ≤ 1152921504606846976) (hA : Rd w a (fl enc3 l)) (hF : ∀ t ∈ l, t.1 < 256 ∧ t.2.1 < 256 ∧ t.2.2 < 256) :
    Calls Tryd.prog 5 #[.int .u8 x, .slice a n c] w fun e w' => e = .returned (.bool true) ∧ Below w.heap.size w w' := by
  have HGW := Lib.hid (grown_any x (grS x) rfl a n c l w hx hl hn hA hF)
  have HAS : Hid (Asc (grL (grS x) l) (grS x)) := asc_grL (by unfold grS; omega) l
  have hS10 : grS x ≤ 10 := by unfold grS; omega
  have HLE : Hid ((grE (grS x)).length = grS x) := grE_len _
  obtain ⟨S, hS⟩ : ∃ y, y = grS x := ⟨_, rfl⟩
  rw [← hS] at HGW HAS HLE hS10
  obtain ⟨ls, hls⟩ : ∃ y, y = grL S l := ⟨_, rfl⟩
  rw [← hls] at HGW HAS
  clear hl hn hA hF hS hls
  go_enter Tryd.func5, Tryd.ntmps5
  go_wp2_with fail
  refine HGW.out.mono ?_
  rintro e w1 ⟨O, g, r, v, rfl, hG, hX, _, _, hb1⟩
  obtain ⟨va, vc, rfl, _⟩ := owns_slice hX
  obtain ⟨m, hm⟩ : ∃ y, y = ls.length := ⟨_, rfl⟩
  rw [← hm] at hX
  have HM := Lib.hid hm
  have HG := Lib.hid hG
  have HX := Lib.hid (rd_of_owns hX)
  have hm20 : m ≤ 4096 := by rw [hm]; exact hG.nL
  have HB1 := Lib.hid hb1
  rw [← hm]
  clear hm hG hX hb1 HGW
  go_wp2_with fail
  have HG0 : Hid (Below w1.heap.size w1 w1) := Below.refl _ _
  have HR0 : Hid (w1.ownsRow w1.heap.size 4 1 (.slice none 0 0) 0 (fl encB ((List.range 0).map (inhB ls S)))) := World.ownsRow_nil _ _ _ _
  go_loopw [8, 7] (fun y z wr => ∃ (k : Nat) (za : Option Addr) (zc : Nat), k ≤ S ∧ y = .int .i64 k ∧ z = .slice za k zc ∧ Hid (Below w1.heap.size w1 wr) ∧ Hid (wr.ownsRow w1.heap.size 4 1 (.slice za k zc) k (fl encB ((List.range k).map (inhB ls S))))) (fun y _ _ => S - (intOf y).toNat)
  case atStart => exact ⟨0, none, 0, by omega, rfl, rfl, HG0, HR0⟩
  case round =>
    clear HG0 HR0
    obtain ⟨k, za, zc, hk, rfl, rfl, hB, hR⟩ := hrel
    have hln := len_yes (HG.out.bl hB.out)
    rw [HLE.out] at hln
    have HLN := Lib.hid hln
    clear hln
    by_cases hlt : k < S
    · go_wp2_with first | fail | (go_at_call 11; refine HLN.out.mono ?_; rintro e w2 ⟨rfl, hw2⟩; subst w2)
      have HK0 : Hid (true = inhW ls S k 0) := rfl
      have HW0 : Hid (∃ nq, wr = wr.drewN nq) := ⟨0, rfl⟩
      go_loopw [10, 9] (fun y z w' => ∃ (i : Nat) (b : Bool), i ≤ m ∧ y = .int .i64 i ∧ z = .bool b ∧ Hid (b = inhW ls S k i) ∧ Hid (∃ nq, w' = wr.drewN nq)) (fun y _ _ => m - (intOf y).toNat)
      case atStart => exact ⟨0, true, by omega, rfl, rfl, HK0, HW0⟩
      case round =>
        clear HK0 HW0
        obtain ⟨i, b, hi, rfl, rfl, hb, hw⟩ := hrel
        obtain ⟨n0, rfl⟩ := hw.out
        clear hw
        by_cases him : i < m
        · have hil : i < ls.length := by rw [← HM.out]; exact him
          obtain ⟨b1, o1, rfl, hbl, hc⟩ := rdLk HX.out (by omega)
          obtain ⟨c0, c1, c2⟩ := hc i hil
          obtain ⟨p, q, hp, hq, hpq, hqS⟩ := HAS.out.at hil
          have hsu := inhW_succ ls S k i
          rw [hp] at c1 hsu
          rw [hq] at c2 hsu
          rw [Int.toNat_natCast, ← hb.out] at hsu
          obtain ⟨x0, hx0⟩ : ∃ y, y = lK ls i := ⟨_, rfl⟩
          rw [← hx0] at c0 hsu
          have c0 : wr.cell? ⟨b1, o1 + i * 3, none⟩ = some (.int .i64 x0) := (hB.out.cell (p := ⟨b1, o1 + i * 3, none⟩) hbl).trans c0
          have c1 : wr.cell? ⟨b1, o1 + i * 3 + 1, none⟩ = some (.int .i64 (p : Int)) := (hB.out.cell (p := ⟨b1, o1 + i * 3 + 1, none⟩) hbl).trans c1
          have c2 : wr.cell? ⟨b1, o1 + i * 3 + 2, none⟩ = some (.int .i64 (q : Int)) := (hB.out.cell (p := ⟨b1, o1 + i * 3 + 2, none⟩) hbl).trans c2
          have HSU := Lib.hid hsu
          clear hc hx0 hp hq hsu hb
          by_cases e1 : q = k
          · subst e1
            obtain ⟨b2, o2, rfl, _, hd⟩ := rdB (rd_of_owns hR.out) (by simp; omega)
            have d0 : wr.cell? ⟨b2, o2 + p, none⟩ = some (.bool (inhB ls S p)) := by
              have h := hd p (by simp; omega)
              rwa [show bA ((List.range q).map (inhB ls S)) p = inhB ls S p by unfold bA; rw [List.getD_eq_getElem?_getD]; simp [hpq]] at h
            clear hd
            by_cases e2 : x0 = 2
            · subst e2
              have HK1 : Hid (false = inhW ls S q (i + 1)) := by show _ = _; rw [HSU.out]; simp
              clear HSU
              go_wp2_with fail
              go_roundw
              case rel => exact ⟨i + 1, false, by omega, by go_num, rfl, HK1, n0, rfl⟩
              case measure => simp [intOf]; omega
            · have e3 : (x0 == 2) = false := by simpa using e2
              cases hv : inhB ls S p with
              | true =>
                rw [hv] at d0
                have HK1 : Hid (b = inhW ls S q (i + 1)) := by show _ = _; rw [HSU.out, hv]; simp [e2]
                clear HSU hv
                go_wp2_with fail
                go_roundw
                case rel => exact ⟨i + 1, b, by omega, by go_num, rfl, HK1, n0, rfl⟩
                case measure => simp [intOf]; omega
              | false =>
                rw [hv] at d0
                have HK1 : Hid (false = inhW ls S q (i + 1)) := by show _ = _; rw [HSU.out, hv]; simp
                clear HSU hv
                go_wp2_with fail
                go_roundw
                case rel => exact ⟨i + 1, false, by omega, by go_num, rfl, HK1, n0, rfl⟩
                case measure => simp [intOf]; omega
          · have e2 : ((q : Int) == (k : Int)) = false := by simp; omega
            have HK1 : Hid (b = inhW ls S k (i + 1)) := by
              show _ = _
              rw [HSU.out, decide_eq_false (by omega)]; simp
            clear HSU
            go_wp2_with fail
            go_roundw
            case rel => exact ⟨i + 1, b, by omega, by go_num, rfl, HK1, n0, rfl⟩
            case measure => simp [intOf]; omega
        · have him2 : i = m := by omega
          subst i
          have HBV : Hid (b = inhB ls S k) := by
            show _ = _
            rw [hb.out, inh_step HAS.out hlt, HM.out]
          clear hb him
          have hi := inherited_any ((HG.out.bl hB.out).bl (bl_drewN (Below.refl _ wr) n0)) (k : Int)
          have hin : inhO ls (grE S).length (k : Int) = b := by
            unfold inhO
            rw [HLE.out, HBV.out]
            have : hasB (k : Int) S = true := by unfold hasB; simp; omega
            rw [this]; rfl
          have hck : ckE (grE S).length [(k : Int)] = 0 := by
            rw [ckE_one, HLE.out]
            have : hasB (k : Int) S = true := by unfold hasB; simp; omega
            rw [this]; rfl
          rw [hin, hck] at hi
          have HI := Lib.hid hi
          clear hi hin hck
          have hbb : (b != b) = false := by simp
          go_wp2_with first | fail | (go_at_call 20; refine HI.out.mono ?_; rintro e w3 ⟨rfl, hb3⟩; have HB4 : Hid (Below w1.heap.size w1 w3) := (bl_trans hB.out (bl_trans (bl_drewN (Below.refl _ wr) n0) hb3)); have HR4 : Hid (w3.ownsRow w1.heap.size 4 1 (.slice za k zc) k (fl encB ((List.range k).map (inhB ls S)))) := (owns_below hR.out (bl_trans (bl_drewN (Below.refl _ wr) n0) hb3)); have HRA : Hid (∀ o, (w3.alloc o).ownsRow w1.heap.size 4 1 (.slice za k zc) k (fl encB ((List.range k).map (inhB ls S)))) := (fun o => owns_below HR4.out (bl_alloc (Below.refl _ w3) o)); have HSA : Hid (∀ o, w1.heap.size ≤ (w3.alloc o).heap.size) := (fun o => Nat.le_trans HB4.out.size (bl_alloc (Below.refl _ w3) o).size); clear hb3) | (at_builtin; refine wpList_pushs rfl encB_len (by decide) encB_one Tryd.underlying34 info_B rfl (.tmp 72) (.tmp 74) rfl (.slice za k zc) ((List.range k).map (inhB ls S)) k (by simp) rfl (HRA.out _) (some ⟨w3.heap.size, 0, none⟩) 1 1 [b] rfl rfl (rd_of_blkQ (cs := encB b) (Blk.new w3 _ 4)) (fun e => by cases e) (by omega) (by decide) (HSA.out _) ?_; intro v9 w9 h91 h92 h93; have H91 := Lib.hid h91; have H92 := Lib.hid h92; clear h91 h92 h93)
          obtain ⟨va9, c9, rfl, _⟩ := owns_slice H91.out
          have HB9 : Hid (Below w1.heap.size w1 w9) := bl_grown (HB4.out.trans ((bl_alloc (Below.refl _ w3) (.cells #[.bool b] 4)).mono HB4.out.size)) H92.out fun k e => (HR4.out.lt k e).1
          have HR9 : Hid (w9.ownsRow w1.heap.size 4 1 (.slice va9 (k + 1) c9) (k + 1) (fl encB ((List.range (k + 1)).map (inhB ls S)))) := by
            have h := H91.out
            rw [HBV.out] at h
            rw [List.range_succ, List.map_append]
            exact h
          go_roundw
          case rel => exact ⟨k + 1, va9, c9, by omega, by go_num, rfl, HB9, HR9⟩
          case measure => simp [intOf]; omega
    · have hks : k = S := by omega
      subst k
      have HWK := Lib.hid (works_any wr)
      go_wp2_with first | fail | (go_at_call 11; refine HLN.out.mono ?_; rintro e w2 ⟨rfl, hw2⟩; subst w2) | (go_at_call 18; refine HWK.out.mono ?_; rintro e w4 ⟨rfl, hb4⟩; have HB4 := Lib.hid hb4; clear hb4)
      go_ret
      exact ⟨rfl, HB1.out.trans ((bl_trans hB.out HB4.out).mono HB1.out.size)⟩
end Go.Proofs.YtmfomjaomhohkaaDoor
namespace Go.Proofs.YtmfomjaomhohkaaDoor
open Go.ChangeShapes Go.WideShapes Go.RowKit Go.Deep
theorem cells3u : Tryd.prog.cellsOf 78 = 3 := by kernel_rfl
theorem cells1u : Tryd.prog.cellsOf 5 = 1 := by kernel_rfl
theorem bytes3u : Tryd.prog.bytesOf 78 = 3 := by kernel_rfl
def T3Ok (t : T3) : Prop := t.1 < 256 ∧ t.2.1 < 256 ∧ t.2.2 < 256
theorem list_threeQ {cs : List Value} (h : cs.length = 3) : ∃ c0 c1 c2, cs = [c0, c1, c2] := by
  match cs, h with
  | [c0, c1, c2], _ => exact ⟨c0, c1, c2, rfl⟩
theorem rd_t3 {H : Type} {enc : TypeId × Value → H} {W : World} (n : Nat) (cs : List Value) (x : DataW H × List MemPlace) (h : DataW.trod enc Tryd.prog W 0 (fun _ => true) true n 78 cs = some x) (_ : ∀ y ∈ x.1.weights Tryd.prog 78, y ≤ reachBytes) : ∃ a : T3, cs = enc3 a ∧ T3Ok a := by
  have h' := h
  obtain ⟨xs, m, _, _, hlen, _, _⟩ := DataW.trod_array Tryd.underlying78 h'
  rw [cells3u] at hlen
  obtain ⟨c0, c1, c2, rfl⟩ := list_threeQ hlen
  obtain ⟨y0, y1, y2, m2, _, h0, h1, h2⟩ := trod_array3 Tryd.underlying78 cells1u h
  obtain ⟨z0, e0, _, w0⟩ := DataW.trod_int Tryd.underlying5 h0
  obtain ⟨z1, e1, _, w1⟩ := DataW.trod_int Tryd.underlying5 h1
  obtain ⟨z2, e2, _, w2⟩ := DataW.trod_int Tryd.underlying5 h2
  have b0 := bounds_u8 w0
  have b1 := bounds_u8 w1
  have b2 := bounds_u8 w2
  simp at e0 e1 e2
  subst e0 e1 e2
  refine ⟨(z0.toNat, z1.toNat, z2.toNat), ?_, ?_⟩
  · show _ = [Value.int .u8 ((z0.toNat : Nat) : Int), Value.int .u8 ((z1.toNat : Nat) : Int), Value.int .u8 ((z2.toNat : Nat) : Int)]
    rw [Int.toNat_of_nonneg b0.1, Int.toNat_of_nonneg b1.1, Int.toNat_of_nonneg b2.1]
  · exact ⟨by show z0.toNat < 256; omega, by show z1.toNat < 256; omega, by show z2.toNat < 256; omega⟩
set_option maxRecDepth 100000 in
theorem open_t3s {H : Type} {enc : TypeId × Value → H} {W : World} {r : Reach} {b0 : Nat} {v : Value} {d : DataW H} {ps : List MemPlace} (hv : Value.okWide Tryd.prog W r b0 22 v) (h : DataW.Trod enc Tryd.prog W 0 (fun _ => true) true 22 v d ps) (hsz : ∀ y ∈ d.weights Tryd.prog 22, y ≤ reachBytes) :
    ∃ (a : Option Addr) (n c : Nat) (l : List T3), v = .slice a n c ∧ l.length = n ∧ n ≤ 1152921504606846976 ∧ Rd W a (fl enc3 l) ∧ ∀ t ∈ l, t.1 < 256 ∧ t.2.1 < 256 ∧ t.2.2 < 256 := by
  obtain ⟨a, n, c, l, h1, h2, h3, ⟨h4a, h4b⟩, h4, h5, h6, h7⟩ := rd_openS enc3_len (by omega) (good := T3Ok) Tryd.underlying22 cells3u rd_t3 hv h hsz
  rw [bytes3u] at h4
  refine ⟨a, n, c, l, h1, h2, by unfold reachBytes at h4; omega, h6, fun t ht => ?_⟩
  obtain ⟨i, hi, rfl⟩ := List.getElem_of_mem ht
  exact h7 i hi
end Go.Proofs.YtmfomjaomhohkaaDoor
