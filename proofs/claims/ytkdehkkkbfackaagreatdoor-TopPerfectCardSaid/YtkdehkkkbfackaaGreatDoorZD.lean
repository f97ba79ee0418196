/- Lists of numbers in increasing order, each once (plain). treecmp: sets of numbers: has, put. maps.Keys of sets of numbers: the iterator. slices.Sort of numbers of 64 bits: the row in memory; cmp.Less; insertion. slices.Sort of numbers of 64 bits: the heap; the turned range. slices.Sort of numbers of 64 bits: sorting by the heap; the turned range. slices.Sort of numbers of 64 bits: the turned range; insertion in part. slices.Sort of numbers of 64 bits: insertion in part. slices.Sort of numbers of 64 bits: the pivot's choice. slices.Sort of numbers of 64 bits: the pivot's choice, the whole. slices.Sort of numbers of 64 bits: patterns broken. -/
import Derived.Test.YtkdehkkkbfackaaGreatDoorZC
import Derived.Sort.MapsRangeIn
import Derived.RangeFuncKeeps
import Derived.RangeFuncWrites
import Derived.Test.YtkdehkkkbfackaaGreatDoorZA
import Derived.Sort.AssemblyPlain
import Derived.Sort.Grow
import Derived.CellFam
import Derived.BigGuard
import Derived.BigCall
namespace Go.Proofs.YtkdehkkkbfackaaGreatDoor
/-- x put into an increasing list. -/
def insU (x : Nat) : List Nat → List Nat
  | [] => [x]
  | y :: l => if x < y then x :: y :: l else if x = y then y :: l else y :: insU x l
theorem insU_mem (x z : Nat) : ∀ l : List Nat, z ∈ insU x l ↔ z = x ∨ z ∈ l := by
  intro l
  induction l with
  | nil => simp [insU]
  | cons y l ih =>
    unfold insU
    by_cases h1 : x < y
    · rw [if_pos h1]; simp
    · rw [if_neg h1]
      by_cases h2 : x = y
      · rw [if_pos h2]; subst h2; simp
      · rw [if_neg h2, List.mem_cons, ih, List.mem_cons]
        constructor
        · rintro (h | h | h)
          · exact .inr (.inl h)
          · exact .inl h
          · exact .inr (.inr h)
        · rintro (h | h | h)
          · exact .inr (.inl h)
          · exact .inl h
          · exact .inr (.inr h)
theorem insU_pw {x : Nat} : ∀ {l : List Nat}, l.Pairwise (· < ·) → (insU x l).Pairwise (· < ·) := by
  intro l
  induction l with
  | nil => intro _; simp [insU]
  | cons y l ih =>
    intro h
    rw [List.pairwise_cons] at h
    unfold insU
    by_cases h1 : x < y
    · rw [if_pos h1, List.pairwise_cons, List.pairwise_cons]
      exact ⟨fun z hz => by
        rcases List.mem_cons.1 hz with e | e
        · omega
        · have := h.1 z e; omega, h⟩
    · rw [if_neg h1]
      by_cases h2 : x = y
      · rw [if_pos h2, List.pairwise_cons]; exact h
      · rw [if_neg h2, List.pairwise_cons]
        refine ⟨fun z hz => ?_, ih h.2⟩
        rcases (insU_mem x z l).1 hz with e | e
        · omega
        · exact h.1 z e
/-- The numbers of a list in increasing order, each once. -/
def sdU (l : List Nat) : List Nat := l.foldl (fun acc x => insU x acc) []
theorem sdU_snoc (l : List Nat) (x : Nat) : sdU (l ++ [x]) = insU x (sdU l) := by simp [sdU]
theorem snoc_rec {α : Type} {P : List α → Prop} (h0 : P []) (hs : ∀ l x, P l → P (l ++ [x])) (l : List α) : P l := by
  have : ∀ n (l : List α), l.length = n → P l := by
    intro n
    induction n with
    | zero => intro l hl; rw [List.length_eq_zero_iff.1 hl]; exact h0
    | succ n ih =>
      intro l hl
      have hne : l ≠ [] := fun e => by rw [e] at hl; simp at hl
      rw [← List.dropLast_concat_getLast hne]
      exact hs _ _ (ih _ (by rw [List.length_dropLast]; omega))
  exact this l.length l rfl
theorem sdU_mem (x : Nat) (l : List Nat) : x ∈ sdU l ↔ x ∈ l := by
  refine snoc_rec (P := fun l => x ∈ sdU l ↔ x ∈ l) ?_ (fun l y ih => ?_) l
  · simp [sdU]
  · rw [sdU_snoc, insU_mem, ih]; simp [or_comm]
theorem sdU_pw (l : List Nat) : (sdU l).Pairwise (· < ·) := by
  refine snoc_rec (P := fun l => (sdU l).Pairwise (· < ·)) ?_ (fun l y ih => ?_) l
  · simp [sdU]
  · rw [sdU_snoc]; exact insU_pw ih
theorem sd_ext {l m : List Nat} (hl : l.Pairwise (· < ·)) (hm : m.Pairwise (· < ·)) (h : ∀ x, x ∈ l ↔ x ∈ m) : l = m :=
  sorted_ext4 (R := (· < ·)) (fun x => Nat.lt_irrefl x) (fun x y h1 h2 => by omega) hl hm h
theorem sd_nodup {l : List Nat} (hl : l.Pairwise (· < ·)) : l.Nodup := hl.imp (fun h => Nat.ne_of_lt h)
/-- What a list without twins gives when it is sorted. -/
theorem sd_sort {l : List Nat} (hn : l.Nodup) : l.mergeSort (fun x y => decide (x ≤ y)) = sdU l := by
  refine sd_ext ?_ (sdU_pw l) fun x => by rw [List.mem_mergeSort, sdU_mem]
  have h1 : (l.mergeSort (fun x y => decide (x ≤ y))).Pairwise (fun x y => x ≤ y) := by
    have := List.pairwise_mergeSort (le := fun x y => decide ((x : Nat) ≤ y)) (fun a b c h1 h2 => by simp at *; omega) (fun a b => by simp; omega) l
    exact this.imp (fun h => by simpa using h)
  have h2 : (l.mergeSort (fun x y => decide (x ≤ y))).Nodup := (List.mergeSort_perm l _).nodup_iff.2 hn
  exact (h1.and h2).imp (fun ⟨a, b⟩ => by omega)
theorem sdU_congr {l m : List Nat} (h : ∀ x, x ∈ l ↔ x ∈ m) : sdU l = sdU m := sd_ext (sdU_pw l) (sdU_pw m) fun x => by rw [sdU_mem, sdU_mem, h]
theorem sdU_len {l : List Nat} (hn : l.Nodup) : (sdU l).length = l.length := by rw [← sd_sort hn, List.length_mergeSort]
theorem sdU_le (l : List Nat) : (sdU l).length ≤ l.length := by
  refine snoc_rec (P := fun l => (sdU l).length ≤ l.length) ?_ (fun l y ih => ?_) l
  · simp [sdU]
  · rw [sdU_snoc, List.length_append, List.length_singleton]
    have key : ∀ m : List Nat, (insU y m).length ≤ m.length + 1 := by
      intro m
      induction m with
      | nil => simp [insU]
      | cons z m ih2 =>
        unfold insU
        split
        · simp
        · split
          · simp
          · simp; exact ih2
    have := key (sdU l)
    omega
theorem sdU_self {l : List Nat} (h : l.Pairwise (· < ·)) : sdU l = l := sd_ext (sdU_pw l) h fun x => sdU_mem x l
end Go.Proofs.YtkdehkkkbfackaaGreatDoor
namespace Go.Proofs.YtkdehkkkbfackaaGreatDoor
open Go Go.RowKit Go.Maps
set_option maxHeartbeats 2000000 in
theorem hasU_any (b n x : Nat) (S : List Nat) (w : World) (h : MU w b n S) (hx : x < 18446744073709551616) :
    Calls Tryz.prog 37 #[.map (some b), .int .u64 (x : Int)] w fun e w' => e = .returned (.bool (decide (x ∈ S))) ∧ w' = w.alloc (.cells #[] 108) := by
  have hlk := h.ask x hx
  obtain ⟨c, hc⟩ : ∃ c, c = decide (x ∈ S) := ⟨_, rfl⟩
  rw [← hc] at hlk ⊢
  clear hc h
  go_enter Tryz.func37, Tryz.ntmps37
  go_wp2_with fail
  go_ret
  exact ⟨rfl, rfl⟩
/-- A set with the numbers of a list. -/
def addL (S l : List Nat) : List Nat := l.foldl addU S
theorem addL_snoc (S l : List Nat) (x : Nat) : addL S (l ++ [x]) = addU (addL S l) x := by simp [addL]
theorem addL_mem (S l : List Nat) (y : Nat) : y ∈ addL S l ↔ y ∈ S ∨ y ∈ l := by
  refine snoc_rec (P := fun l => y ∈ addL S l ↔ y ∈ S ∨ y ∈ l) (by simp [addL]) (fun l x ih => ?_) l
  rw [addL_snoc, addU_mem, ih]
  simp [or_assoc]
theorem addL_nd {S : List Nat} (h : S.Nodup) (l : List Nat) : (addL S l).Nodup :=
  snoc_rec (P := fun l => (addL S l).Nodup) (by simpa [addL] using h) (fun l x ih => by rw [addL_snoc]; exact addU_nd ih x) l
theorem take_snocV {l : List Nat} {k : Nat} (h : k < l.length) : l.take (k + 1) = l.take k ++ [vA l k] := by
  rw [List.take_succ_eq_append_getElem h]
  simp [vA, h]
set_option maxRecDepth 100000 in
set_option maxHeartbeats 2000000 in
theorem putU_any (b n : Nat) (S : List Nat) (a : Option Addr) (N c : Nat) (l : List Nat) (w : World) (h : MU w b n S) (hl : l.length = N) (hN : N ≤ 1048576) (hn : n ≤ 1048576) (hA : Rd w a (fl encV l)) (hF : ∀ i, i < N → vA l i < 18446744073709551616) :
    Calls Tryz.prog 80 #[.map (some b), .slice a N c] w fun e w' => e = .returned (.tuple #[]) ∧ MU w' b (n + N) (addL S l) ∧ w.grownBy w' (some b) := by
  have HL := Lib.hid hl
  have HA := Lib.hid hA
  have HF := Lib.hid hF
  have HM := Lib.hid h
  have HG : Hid (w.grownBy w (some b)) := ⟨rfl, rfl, rfl, Nat.le_refl _, fun _ _ _ => rfl⟩
  obtain ⟨es, cl, hbk⟩ := h.blk
  have HBK := Lib.hid hbk
  clear h hl hA hF hbk
  go_enter Tryz.func80, Tryz.ntmps80
  go_wp2_with fail
  go_loopw [8, 5] (fun x _ wr => ∃ k : Nat, k ≤ N ∧ x = .int .i64 k ∧ Hid (MU wr b (n + k) (addL S (l.take k))) ∧ Hid (w.grownBy wr (some b))) (fun x _ _ => N - (intOf x).toNat)
  case atStart => exact ⟨0, by omega, rfl, (by show MU w b (n + 0) (addL S (l.take 0)); exact HM.out), HG⟩
  case round =>
    clear HM HG
    obtain ⟨k, hk, rfl, HM, HG⟩ := hrel
    by_cases hlt : k < N
    · have HR : Hid (Rd wr a (fl encV l)) := by
        intro h0
        obtain ⟨bb, off, e, hlt2, hc⟩ := HA.out h0
        have hbb : bb ≠ b := fun e2 => by
          have h1 := hc 0 (by omega)
          subst e2
          simp [World.cell?, HBK.out] at h1
        exact ⟨bb, off, e, Nat.lt_of_lt_of_le hlt2 HG.out.size, fun i hi => by
          rw [← hc i hi]
          simp only [World.cell?]
          rw [HG.out.block bb hlt2 (fun e2 => hbb (Option.some.inj e2))]⟩
      obtain ⟨bb, o, rfl, hb, hc⟩ := rdV HR.out (by rw [HL.out]; omega)
      have G := hc k (by rw [HL.out]; exact hlt)
      have hz := HF.out k hlt
      have HNX : Hid (addU (addL S (l.take k)) (vA l k) = addL S (l.take (k + 1))) := by
        show _ = _
        rw [take_snocV (by rw [HL.out]; exact hlt), addL_snoc]
      clear hc
      generalize vA l k = z at *
      go_wp2_with (refine wpList_putU rfl (.tmp 12) (.tmp 13) (.tmp 14) rfl b (n + k) _ rfl HM.out (by omega) z rfl rfl hz ?_; intro w2 hm2 hg2; have HM2 := Lib.hid hm2; have HG2 := Lib.hid hg2; clear hm2 hg2)
      go_roundw
      case rel => exact ⟨k + 1, by omega, by go_num, by rw [← HNX.out]; exact HM2.out, ⟨HG2.out.os.trans HG.out.os, HG2.out.tape.trans HG.out.tape, HG2.out.output.trans HG.out.output, Nat.le_trans HG.out.size HG2.out.size, fun i hi hne => (HG2.out.block i (Nat.lt_of_lt_of_le hi HG.out.size) hne).trans (HG.out.block i hi hne)⟩⟩
      case measure => simp [intOf]; omega
    · obtain rfl : k = N := by omega
      go_wp2_with fail
      go_end0
      refine ⟨rfl, ?_, HG.out⟩
      have h := HM.out
      rw [List.take_of_length_le (by rw [HL.out]; exact Nat.le_refl _)] at h
      exact h
end Go.Proofs.YtkdehkkkbfackaaGreatDoor
namespace Go.Proofs.YtkdehkkkbfackaaGreatDoor
open Go Go.RowKit Go.Maps Go.Shelf
/-- What has come of a set. -/
def ColN (D : DataW Unit) (left : Lit → Bool) (ss : List Nat) : Prop := ss.Nodup ∧ ∀ x : Nat, x ∈ ss ↔ (has D (kU x) = true ∧ left (kU x) = false)
theorem ColN.start (D : DataW Unit) : ColN D (has D) [] := ⟨List.nodup_nil, fun x => by
  constructor
  · intro h; simp at h
  · rintro ⟨h1, h2⟩; rw [h1] at h2; cases h2⟩
theorem kU_same (x y : Nat) : (kU x).sameKey (kU y) = decide (x = y) := by
  by_cases h : x = y
  · subst h; simp [kU, Lit.sameKey]
  · rw [sameKey_ne (fun e => h (kU_inj e)), decide_eq_false h]
theorem ColN.step {D : DataW Unit} {left : Lit → Bool} {ss : List Nat} (h : ColN D left ss) {x : Nat} (hl : left (kU x) = true) (hh : has D (kU x) = true) : ColN D (fun z => left z && !z.sameKey (kU x)) (ss ++ [x]) := by
  have hx : x ∉ ss := fun hm => by rw [((h.2 x).1 hm).2] at hl; cases hl
  refine ⟨?_, fun y => ?_⟩
  · rw [List.nodup_append]
    exact ⟨h.1, by simp, fun a ha b hb e => by rw [List.mem_singleton.1 hb] at e; rw [e] at ha; exact hx ha⟩
  · rw [List.mem_append, List.mem_singleton, h.2 y]
    show _ ↔ has D (kU y) = true ∧ (left (kU y) && !(kU y).sameKey (kU x)) = false
    rw [kU_same]
    by_cases e : y = x
    · subst e; simp [hh]
    · simp [e]
set_option maxHeartbeats 1000000 in
theorem keysU_any (b : Nat) (w : World) : Calls Tryz.prog 58 #[.map (some b)] w fun e w' => e = .returned (.func (.func 74) #[] #[.pointer (some ⟨w.heap.size, 0, none⟩)]) ∧ w' = w.alloc (.cells #[.map (some b)] 74) := by
  go_enter Tryz.func58, Tryz.ntmps58
  go_wp2_with fail
  go_ret
  exact ⟨rfl, rfl⟩
set_option maxRecDepth 100000 in
set_option maxHeartbeats 2000000 in
theorem keysU_stops (m Bm b n : Nat) (S : List Nat) (w : World) (hm : 1 ≤ m) (hBm : Bm < w.heap.size) (hc : w.cell? ⟨Bm, 0, none⟩ = some (.map (some b))) (h : MU w b n S) :
    SeqStopsK Fence.wide m Tryz.prog 74 #[.pointer (some ⟨Bm, 0, none⟩)] (fun x : Nat => #[.int .u64 (x : Int)]) KeepsWalks (fun xs => xs.Perm S) (fun _ => True) S.length w := fun l J Jx W hW hJ hJx hY h0 => by
  have hW0 := h.bl hW
  have hcW : W.cell? ⟨Bm, 0, none⟩ = some (.map (some b)) := (hW.cell (p := ⟨Bm, 0, none⟩) hBm).trans hc
  obtain ⟨D, hown, hhas, hsz⟩ := hW0.ex
  have HP : Hid (∀ ss, ColN D (fun _ => false) ss → ss.Perm S) := fun ss hC => by
    refine (List.perm_ext_iff_of_nodup hC.1 h.nd).2 fun x => ?_
    rw [hC.2 x, hhas]
    simp
  have HSZ := Lib.hid hsz
  have HLT := Lib.hid (fun x (hx : has D (kU x) = true) => h.lt x (by rw [hhas] at hx; simpa using hx))
  have HJ := Lib.hid hJ
  have HJx := Lib.hid hJx
  have HY := Lib.hid hY
  have H0 := Lib.hid h0
  clear hW hJ hJx hY h0 h hW0 hc hBm hsz hhas
  refine callsIn_of_wp Tryz.func74 rfl trivial ?_ rfl
  simp only [Tryz.ntmps74, List.size_toArray, List.length_cons, List.length_nil, Nat.reduceAdd, Nat.reduceSub, Array.replicate_succ, Array.replicate_zero, List.push_toArray, List.append_toArray, List.nil_append, List.cons_append]
  gi_wp2_with (first
    | (gi_at_range; refine wpListIn_range_own _ rfl _ 74 rfl 35 108 lawU Tryz.underlying74 _ b n _ rfl hown ?_; intro w0 hrg0 hg0 hs0)
    | gi_in)
  try go_frame
  gi_loopw [3] (fun _ wr => ∃ (left : Lit → Bool) (cnt : Nat) (ss : List Nat), wr.ranges Tryz.prog 35 unitElem b W.heap.size n D left cnt ∧ ss.length + cnt ≤ S.length ∧ Hid (ColN D left ss) ∧ Hid (J ss wr))
    (fun _ wr => wr.rangeLeft b W.heap.size)
  case atStart =>
    exact ⟨_, _, [], hrg0, by rw [HSZ.out]; simp, ColN.start D, HJ.out [] W w0 none H0.out hg0 (fun r e => by cases e)⟩
  case round =>
    clear hrg0 hg0 hs0
    obtain ⟨left, cnt, ss, hrg, hcs, hC, hJs⟩ := hrel
    gi_wp2_with (first
      | (gi_at_next; refine wpListIn_next_ranges _ rfl _ rfl 35 lawU unitElem (Value.int .u64) id (fun key kl hk => by obtain ⟨x, hx, _⟩ := Maps.keyOf_int_inv Tryz.underlying35 hk; exact ⟨x, hx⟩) (fun v _ _ => ⟨v, rfl⟩) b W.heap.size n _ _ _ rfl hrg ?_ ?_)
      | gi_in)
    · intro hc0 hl0
      have hl : left = fun _ => false := funext hl0
      have HF := Lib.hid (HP.out ss (by rw [← hl]; exact hC.out))
      clear hl
      gi_wp2
      go_end0
      exact ⟨⟨_, rfl⟩, .inl ⟨ss, HF.out, hJs.out⟩⟩
    · intro x c kl yd yp w2 cnt2 hkey hlk hv hat hrg2 hlt hg2 hs2 hen
      obtain ⟨x', ex, rfl, hwf⟩ := Maps.keyOf_int_inv Tryz.underlying35 hkey
      obtain rfl : x = x' := by injection ex
      obtain ⟨y, rfl⟩ : ∃ y : Nat, x = (y : Int) := ⟨x.toNat, by simp [Lit.wf, IntKind.min, IntKind.max, IntKind.bits, IntKind.signed] at hwf; omega⟩
      have hh : has D (kU y) = true := has_true_of_atKey hat
      have hC2 := Lib.hid (hC.out.step hlk hh)
      have hJ2 : J ss w2 := HJ.out ss wr w2 (some W.heap.size) hJs.out hg2 (fun r e => by cases e; exact ⟨Nat.le_refl _, hrg.iter_walk⟩)
      obtain ⟨fn, tmps, assign, body, hy, hR⟩ := HY.out ss y w2 hJ2 (by omega)
      have HR := Lib.hid hR
      have HRG2 := Lib.hid hrg2
      have HRG := Lib.hid hrg
      clear hs2 hJ2 hR hrg2 hrg hv hat hwf hkey hlk ex
      gi_wp2
      refine HR.out.mono ?_
      rintro e W3 (⟨rfl, hJ3, hk3⟩ | ⟨rfl, hJx3⟩)
      · have hrg3 := Lib.hid (HRG2.out.of_walks hk3)
        have HJ3 := Lib.hid hJ3
        clear hk3 hJ3
        gi_wp2
        go_roundw
        case rel => exact ⟨_, cnt2, ss ++ [y], hrg3.out, by simp; omega, hC2, HJ3⟩
        case measure => rw [hrg3.out.left_eq, HRG.out.left_eq]; exact hlt
      · have HJx3 := Lib.hid hJx3
        clear hJx3
        gi_wp2
        refine bodyPost_ret (results_none rfl _ _ _) rfl ?_
        exact ⟨⟨_, rfl⟩, .inr ⟨ss ++ [y], trivial, HJx3.out⟩⟩
end Go.Proofs.YtkdehkkkbfackaaGreatDoor
namespace Go.Proofs.YtkdehkkkbfackaaGreatDoor
open Go Go.RowKit Go.Shelf Go.Sort
/-- Numbers in a row of memory, and their order. -/
def encN (x : Nat) : Value := .int .u64 (x : Int)
def ltN (x y : Nat) : Bool := decide (x < y)
theorem swoN : SWO ltN := ⟨fun x => by simp [ltN], fun x y z h1 h2 => by simp [ltN] at *; omega, fun x y z h1 h2 => by simp [ltN] at *; omega⟩
/-- w' is w, the row of block blk turned to d; new blocks, more draws. -/
def RowTo (w w' : World) (blk off : Nat) (d : Array Nat) : Prop := ∃ (m : Nat) (os : Array Obj), w' = grow (putRow encN (Sort.ahead w m) blk off d) os
theorem RowTo.of_put {w w' : World} {blk off m : Nat} {d : Array Nat} (h : w' = putRow encN (Sort.ahead w m) blk off d) : RowTo w w' blk off d := ⟨m, #[], by rw [h, grow_empty]⟩
theorem RowTo.self {w : World} {blk off : Nat} {d : Array Nat} (h : Holds encN w blk off d) : RowTo w w blk off d := ⟨0, #[], by rw [grow_empty]; exact (putRow_self encN w blk off d h).symm⟩
theorem RowTo.size {w w' : World} {blk off : Nat} {d : Array Nat} (h : RowTo w w' blk off d) : w.heap.size ≤ w'.heap.size := by
  obtain ⟨m, os, rfl⟩ := h
  rw [size_grow, size_putRow]
  show w.heap.size ≤ w.heap.size + _
  omega
theorem RowTo.holds {w w' : World} {blk off : Nat} {d0 d : Array Nat} (h : RowTo w w' blk off d) (h0 : Holds encN w blk off d0) (hs : d.size = d0.size) (hb : blk < w.heap.size) : Holds encN w' blk off d := by
  obtain ⟨m, os, rfl⟩ := h
  exact holds_grow _ _ _ _ _ _ (by rw [size_putRow]; exact hb) (holds_putRow encN _ blk off d0 d (holds_ahead _ _ m _ _ _ h0) hs)
theorem RowTo.trans {w w1 w2 : World} {blk off : Nat} {d1 d2 : Array Nat} (h1 : RowTo w w1 blk off d1) (h2 : RowTo w1 w2 blk off d2) (hs : d2.size = d1.size) (hb : blk < w.heap.size) : RowTo w w2 blk off d2 := by
  obtain ⟨m, os, rfl⟩ := h1
  obtain ⟨n, os', rfl⟩ := h2
  exact ⟨m + n, os ++ os', grow_step_grow encN w os os' m n blk off d1 d2 hb hs⟩
theorem RowTo.draws {w w1 : World} {blk off : Nat} {d : Array Nat} (h : RowTo w w1 blk off d) (n : Nat) : RowTo w (w1.drewN n) blk off d := by
  obtain ⟨m, os, rfl⟩ := h
  refine ⟨m + n, os, ?_⟩
  show Sort.ahead (grow (putRow encN (Sort.ahead w m) blk off d) os) n = _
  rw [ahead_grow, putRow_ahead, putRow_ahead, ahead_ahead]
theorem draws_put {w w1 : World} {blk off m : Nat} {d : Array Nat} (h : w1 = putRow encN (Sort.ahead w m) blk off d) (n : Nat) : w1.drewN n = putRow encN (Sort.ahead w (m + n)) blk off d := by
  rw [h]
  show Sort.ahead (putRow encN (Sort.ahead w m) blk off d) n = _
  rw [putRow_ahead, putRow_ahead, ahead_ahead]
/-- Two cells exchanged. -/
theorem swap_put {w w1 : World} {blk off m i j : Nat} {d : Array Nat} (h : w1 = putRow encN (Sort.ahead w m) blk off d) (n : Nat) (hi : i < d.size) (hj : j < d.size) :
    ((w1.drewN n).setCell ⟨blk, off + i, none⟩ (encN d[j]!)).setCell ⟨blk, off + j, none⟩ (encN d[i]!) = putRow encN (Sort.ahead w (m + n)) blk off (swp d i j) := by
  rw [draws_put h]
  exact putRow_swp encN _ blk off d i j hi hj
theorem put_cells {w w1 : World} {blk off m : Nat} {d0 d : Array Nat} (h0 : Holds encN w blk off d0) (h : w1 = putRow encN (Sort.ahead w m) blk off d) (hs : d.size = d0.size) : Holds encN w1 blk off d := by
  rw [h]; exact holds_putRow encN _ blk off d0 d (holds_ahead _ _ m _ _ _ h0) hs
/-- The row's cells under one name. -/
theorem row_fam {w : World} {blk off : Nat} {d : Array Nat} (h : Holds encN w blk off d) : ∃ G : Nat → Nat, Hid (∀ t, G t = d[t]!) ∧ (∀ t, t < d.size → w.cell? ⟨blk, off + t, none⟩ = some (.int .u64 (G t : Int))) ∧ ∀ t, t < d.size → w.frozen? ⟨blk, off + t, none⟩ = false :=
  ⟨fun t => d[t]!, fun _ => rfl, fun t ht => (h t ht).1, fun t ht => (h t ht).2⟩
set_option maxHeartbeats 1000000 in
theorem nanU_any (x : Nat) (w : World) : Calls Tryz.prog 107 #[.int .u64 (x : Int)] w fun e w' => e = .returned (.bool false) ∧ w' = w := by
  go_enter Tryz.func107, Tryz.ntmps107
  go_wp2_with fail
  go_ret
  exact ⟨by simp, rfl⟩
set_option maxHeartbeats 1000000 in
theorem lessU_any (x y : Nat) (w : World) : Calls Tryz.prog 92 #[.int .u64 (x : Int), .int .u64 (y : Int)] w fun e w' => e = .returned (.bool (ltN x y)) ∧ w' = w := by
  have H := Lib.hid (fun x w => nanU_any x w)
  go_enter Tryz.func92, Tryz.ntmps92
  go_wp2_with (go_at_call 107; refine (H.out _ _).mono ?_; rintro e w' ⟨rfl, rfl⟩)
  go_ret
  exact ⟨by simp [ltN], rfl⟩
theorem ins_go (a j : Nat) (d : Array Nat) (hj : a < j) (hl : ltN d[j]! d[j - 1]! = true) : insInner ltN a j d = insInner ltN a (j - 1) (swp d j (j - 1)) := by
  cases j with
  | zero => omega
  | succ k => rw [insInner]; simp only [Nat.add_sub_cancel] at hl ⊢; rw [hl]; simp [hj]
theorem ins_stop (a j : Nat) (d : Array Nat) (h : j ≤ a ∨ ltN d[j]! d[j - 1]! = false) : insInner ltN a j d = d := by
  cases j with
  | zero => rw [insInner]
  | succ k =>
    rw [insInner]
    simp only [Nat.add_sub_cancel] at h
    rcases h with h | h
    · simp [show ¬ k + 1 > a by omega]
    · simp [h]
theorem ins_outer {a b i : Nat} (d : Array Nat) (h : i < b) : insOuter ltN a b i d = insOuter ltN a b (i + 1) (insInner ltN a i d) := by rw [insOuter, if_pos h]
theorem ins_outer_end {a b i : Nat} (d : Array Nat) (h : ¬ i < b) : insOuter ltN a b i d = d := by rw [insOuter, if_neg h]
set_option maxRecDepth 100000 in
set_option maxHeartbeats 4000000 in
theorem insU_any (blk off cap a b : Nat) (d : Array Nat) (w : World) (hH : Holds encN w blk off d) (hab : a ≤ b) (hb : b ≤ d.size) (hsz : d.size < 4611686018427387904) :
    Calls Tryz.prog 86 #[.slice (some ⟨blk, off, none⟩) d.size cap, .int .i64 a, .int .i64 b] w fun e w' =>
      e = .returned (.tuple #[]) ∧ ∃ n, w' = putRow encN (Sort.ahead w n) blk off (Sort.insertionSort ltN d a b) := by
  have HH := Lib.hid hH
  have HS := Lib.hid (putRow_self encN w blk off d hH).symm
  have HL := Lib.hid (fun x y w => lessU_any x y w)
  clear hH
  go_enter Tryz.func86, Tryz.ntmps86
  go_wp2_with fail
  go_loopw [6] (fun vi wr => ∃ (i n : Nat) (dk : Array Nat), vi = .int .i64 i ∧ a < i ∧ i ≤ b + 1 ∧ Hid (dk.size = d.size) ∧ Hid (wr = putRow encN (Sort.ahead w n) blk off dk) ∧ Hid (insOuter ltN a b i dk = insOuter ltN a b (a + 1) d)) (fun vi _ => b + 1 - (intOf vi).toNat)
  case atStart => exact ⟨a + 1, 0, d, by go_num, by omega, by omega, rfl, HS.out, rfl⟩
  case round =>
    obtain ⟨i, n, dk, rfl, hai, hib, hsk, HW0, HO⟩ := hrel
    by_cases hlt : i < b
    · go_wp2_with fail
      go_loopw [7] (fun vj wr2 => ∃ (j m : Nat) (dj : Array Nat), vj = .int .i64 j ∧ a ≤ j ∧ j ≤ i ∧ Hid (dj.size = d.size) ∧ Hid (wr2 = putRow encN (Sort.ahead w m) blk off dj) ∧ Hid (insInner ltN a j dj = insInner ltN a i dk)) (fun vj _ => (intOf vj).toNat)
      case atStart => exact ⟨i, n, dk, rfl, by omega, Nat.le_refl _, hsk, HW0, rfl⟩
      case round =>
        obtain ⟨j, m, dj, rfl, haj, hji, hsj, HW, HI⟩ := hrel
        obtain ⟨G, HG, hcw0, hfw0⟩ := row_fam (put_cells HH.out HW.out hsj.out)
        have hcw : ∀ t, t < d.size → wr.cell? ⟨blk, off + t, none⟩ = some (.int .u64 (G t : Int)) := fun t ht => hcw0 t (by rw [hsj.out]; exact ht)
        have hfw : ∀ t, t < d.size → wr.frozen? ⟨blk, off + t, none⟩ = false := fun t ht => hfw0 t (by rw [hsj.out]; exact ht)
        clear hcw0 hfw0
        have OUT : Hid ((j ≤ a ∨ ltN (G j) (G (j - 1)) = false) → ∀ q, ∃ (i' n' : Nat) (dk' : Array Nat), Value.int .i64 ((i : Int) + 1) = .int .i64 (i' : Nat) ∧ a < i' ∧ i' ≤ b + 1 ∧ Hid (dk'.size = d.size) ∧
            Hid (wr.drewN q = putRow encN (Sort.ahead w n') blk off dk') ∧ Hid (insOuter ltN a b i' dk' = insOuter ltN a b (a + 1) d)) := fun hs q =>
          ⟨i + 1, m + q, dj, by go_num, by omega, by omega, hsj, draws_put HW.out q, by
            show _ = _
            rw [HG.out, HG.out] at hs
            rw [← HO.out, ins_outer dk hlt, ← HI.out, ins_stop _ _ _ hs]⟩
        by_cases hja : a < j
        · rcases Bool.eq_false_or_eq_true (ltN (G j) (G (j - 1))) with hl | hl
          · have HL1 := Lib.hid hl
            have HC : Hid (∀ W, Calls Tryz.prog 92 #[.int .u64 (G j : Int), .int .u64 (G (j - 1) : Int)] W fun e w' => e = .returned (.bool true) ∧ w' = W) := fun W => by rw [← hl]; exact HL.out _ _ W
            clear hl
            go_wp2_with fail
            go_quiet (first | (go_at_call 92; refine Calls.quiet_of_same (HC.out _)))
            go_wp2_with fail
            go_region
            all_goals go_wp2_with fail
            go_roundw
            case rel =>
              refine ⟨j - 1, m + (nq + 1), swp dj j (j - 1), by congr 1; omega, by omega, by omega, by show _ = _; rw [size_swp]; exact hsj.out, ?_, ?_⟩
              · show _ = _
                rw [HG.out, HG.out]
                exact swap_put (w1 := wr) HW.out (nq + 1) (i := j) (j := j - 1) (by rw [hsj.out]; omega) (by rw [hsj.out]; omega)
              · show _ = _
                rw [← HI.out, ins_go a j dj hja (by rw [← HG.out, ← HG.out]; exact HL1.out)]
            case measure => simp [intOf]; omega
          · have HL1 := Lib.hid hl
            have HC : Hid (∀ W, Calls Tryz.prog 92 #[.int .u64 (G j : Int), .int .u64 (G (j - 1) : Int)] W fun e w' => e = .returned (.bool false) ∧ w' = W) := fun W => by rw [← hl]; exact HL.out _ _ W
            clear hl
            go_wp2_with fail
            go_quiet (first | (go_at_call 92; refine Calls.quiet_of_same (HC.out _)))
            go_wp2_with fail
            go_roundw
            case rel => exact OUT.out (Or.inr HL1.out) nq
            case measure => simp [intOf]; omega
        · go_wp2_with fail
          go_quiet (fail)
          go_wp2_with fail
          go_roundw
          case rel => exact OUT.out (Or.inl (by omega)) nq
          case measure => simp [intOf]; omega
    · go_wp2_with fail
      go_end0
      exact ⟨rfl, n, by
        rw [HW0.out]
        congr 1
        unfold Sort.insertionSort; rw [← HO.out, ins_outer_end dk hlt]⟩
end Go.Proofs.YtkdehkkkbfackaaGreatDoor
namespace Go.Proofs.YtkdehkkkbfackaaGreatDoor
open Go Go.RowKit Go.Shelf Go.Sort
theorem sift_size (hi F : Nat) : ∀ (n root : Nat) (d : Array Nat), hi - root ≤ n → (siftDown ltN hi F root d).size = d.size := by
  intro n
  induction n with
  | zero =>
    intro root d h
    rw [siftDown, dif_pos (by omega)]
  | succ n ih =>
    intro root d h
    rw [siftDown]
    split
    · rfl
    · split
      · split
        · rfl
        · split
          · rw [ih _ _ (by omega), size_swp]
          · rfl
      · split
        · rfl
        · rw [ih _ _ (by omega), size_swp]
/-- The greater child. -/
def kidD (hi F root : Nat) (d : Array Nat) : Nat := if 2 * root + 2 < hi ∧ ltN d[F + (2 * root + 1)]! d[F + (2 * root + 2)]! = true then 2 * root + 2 else 2 * root + 1
theorem sift_eq {hi F root : Nat} (d : Array Nat) (h : 2 * root + 1 < hi) : siftDown ltN hi F root d = if ltN d[F + root]! d[F + kidD hi F root d]! = true then siftDown ltN hi F (kidD hi F root d) (swp d (F + root) (F + kidD hi F root d)) else d := by
  rw [siftDown, dif_neg (by omega)]
  unfold kidD
  by_cases c : 2 * root + 2 < hi ∧ ltN d[F + (2 * root + 1)]! d[F + (2 * root + 2)]! = true
  · rw [if_pos (show (decide (2 * root + 1 + 1 < hi) && ltN d[F + (2 * root + 1)]! d[F + (2 * root + 1) + 1]!) = true by
      rw [show F + (2 * root + 1) + 1 = F + (2 * root + 2) by omega, c.2]; simp; omega), if_pos c]
    cases q : ltN d[F + root]! d[F + (2 * root + 2)]! with
    | true => rw [if_neg (by simp), if_pos rfl, dif_pos c.1]
    | false => rw [if_pos (by simp), if_neg (by simp)]
  · rw [if_neg (show ¬ (decide (2 * root + 1 + 1 < hi) && ltN d[F + (2 * root + 1)]! d[F + (2 * root + 1) + 1]!) = true by
      rw [show F + (2 * root + 1) + 1 = F + (2 * root + 2) by omega]
      intro e
      rw [Bool.and_eq_true, decide_eq_true_eq] at e
      exact c ⟨by omega, e.2⟩), if_neg c]
    cases q : ltN d[F + root]! d[F + (2 * root + 1)]! with
    | true => rw [if_neg (by simp), if_pos rfl]
    | false => rw [if_pos (by simp), if_neg (by simp)]
set_option maxRecDepth 100000 in
set_option maxHeartbeats 4000000 in
theorem siftU_any (blk off len cap : Nat) (d : Array Nat) (hlen : d.size = len) (lo hi F : Nat) (w : World) (hH : Holds encN w blk off d) (hlo : lo ≤ hi) (hb : F + hi ≤ len) (hsz : len < 4611686018427387904) :
    Calls Tryz.prog 104 #[.slice (some ⟨blk, off, none⟩) len cap, .int .i64 lo, .int .i64 hi, .int .i64 F] w fun e w' =>
      e = .returned (.tuple #[]) ∧ ∃ n, w' = putRow encN (Sort.ahead w n) blk off (siftDown ltN hi F lo d) := by
  have HH := Lib.hid hH
  have HS := Lib.hid (putRow_self encN w blk off d hH).symm
  have HL := Lib.hid (fun x y w => lessU_any x y w)
  have HLN := Lib.hid hlen
  clear hH hlen
  go_enter Tryz.func104, Tryz.ntmps104
  go_wp2_with fail
  go_loopw [8, 9] (fun vi _ wr => ∃ (r n : Nat) (dk : Array Nat), vi = .int .i64 r ∧ r ≤ hi ∧ Hid (dk.size = len) ∧ Hid (wr = putRow encN (Sort.ahead w n) blk off dk) ∧ Hid (siftDown ltN hi F r dk = siftDown ltN hi F lo d)) (fun vi _ _ => hi - (intOf vi).toNat)
  case atStart => exact ⟨lo, 0, d, rfl, by omega, HLN, HS.out, rfl⟩
  case round =>
    obtain ⟨r, n, dk, rfl, hr, hsk, HW, HO⟩ := hrel
    obtain ⟨G, HG, hcw0, hfw0⟩ := row_fam (put_cells HH.out HW.out (by rw [hsk.out, HLN.out]))
    have hcw : ∀ t, t < len → wr.cell? ⟨blk, off + t, none⟩ = some (.int .u64 (G t : Int)) := fun t ht => hcw0 t (by rw [hsk.out]; exact ht)
    have hfw : ∀ t, t < len → wr.frozen? ⟨blk, off + t, none⟩ = false := fun t ht => hfw0 t (by rw [hsk.out]; exact ht)
    clear hcw0 hfw0
    by_cases h1 : 2 * r + 1 < hi
    · have HE := Lib.hid (sift_eq (F := F) dk h1)
      have HK : Hid (kidD hi F r dk = if 2 * r + 2 < hi ∧ ltN (G (F + (2 * r + 1))) (G (F + (2 * r + 2))) = true then 2 * r + 2 else 2 * r + 1) := by
        show _ = _
        rw [HG.out, HG.out]; rfl
      have hge : ¬ (hi : Int) ≤ 2 * r + 1 := by omega
      by_cases h2 : 2 * r + 2 < hi
      · have h2' : (2 * (r : Int) + 1 + 1) < hi := by omega
        rcases Bool.eq_false_or_eq_true (ltN (G (F + (2 * r + 1))) (G (F + (2 * r + 2)))) with hm | hm
        · have HM := Lib.hid hm
          have HC1 : Hid (∀ W, Calls Tryz.prog 92 #[.int .u64 (G (F + (2 * r + 1)) : Int), .int .u64 (G (F + (2 * r + 2)) : Int)] W fun e w' => e = .returned (.bool true) ∧ w' = W) := fun W => by rw [← hm]; exact HL.out _ _ W
          clear hm
          have HKC : Hid (kidD hi F r dk = 2 * r + 2) := by
            show _ = _
            rw [HK.out]; exact if_pos ⟨h2, HM.out⟩
          rcases Bool.eq_false_or_eq_true (ltN (G (F + r)) (G (F + (2 * r + 2)))) with hl | hl
          · have HL1 := Lib.hid hl
            have HC2 : Hid (∀ W, Calls Tryz.prog 92 #[.int .u64 (G (F + r) : Int), .int .u64 (G (F + (2 * r + 2)) : Int)] W fun e w' => e = .returned (.bool true) ∧ w' = W) := fun W => by rw [← hl]; exact HL.out _ _ W
            clear hl
            go_wp2_with fail
            go_quiet (first | (go_at_call 92; refine Calls.quiet_of_same (HC1.out _)))
            revert nq; intro nq1
            generalize hw2 : wr.drewN nq1 = wr2 at *
            have HW2 : Hid (wr2 = putRow encN (Sort.ahead w (n + nq1)) blk off dk) := by rw [← hw2]; exact draws_put HW.out nq1
            have hcw2 : ∀ t, t < len → wr2.cell? ⟨blk, off + t, none⟩ = some (.int .u64 (G t : Int)) := fun t ht => by rw [← hw2]; exact hcw t ht
            have hfw2 : ∀ t, t < len → wr2.frozen? ⟨blk, off + t, none⟩ = false := fun t ht => by rw [← hw2]; exact hfw t ht
            clear hw2 hcw hfw
            go_wp2_with fail
            go_quiet (first | (go_at_call 92; refine Calls.quiet_of_same (HC2.out _)))
            generalize hw3 : wr2.drewN nq = wr3 at *
            have HW3 : Hid (wr3 = putRow encN (Sort.ahead w (n + nq1 + nq)) blk off dk) := by rw [← hw3]; exact draws_put HW2.out nq
            have hcw3 : ∀ t, t < len → wr3.cell? ⟨blk, off + t, none⟩ = some (.int .u64 (G t : Int)) := fun t ht => by rw [← hw3]; exact hcw2 t ht
            have hfw3 : ∀ t, t < len → wr3.frozen? ⟨blk, off + t, none⟩ = false := fun t ht => by rw [← hw3]; exact hfw2 t ht
            clear hw3 hcw2 hfw2
            go_wp2_with fail
            go_region
            all_goals go_wp2_with fail
            go_roundw
            case rel =>
              refine ⟨2 * r + 2, n + nq1 + nq + 1, swp dk (F + r) (F + (2 * r + 2)), by go_num, by omega, by show _ = _; rw [size_swp]; exact hsk.out, ?_, ?_⟩
              · show _ = _
                rw [HG.out, HG.out]
                exact swap_put (w1 := wr3) HW3.out 1 (i := F + r) (j := F + (2 * r + 2)) (by rw [hsk.out]; omega) (by rw [hsk.out]; omega)
              · show _ = _
                rw [← HO.out, HE.out, HKC.out, ← HG.out, ← HG.out, if_pos HL1.out]
            case measure => simp [intOf]; omega
          · have HL1 := Lib.hid hl
            have HC2 : Hid (∀ W, Calls Tryz.prog 92 #[.int .u64 (G (F + r) : Int), .int .u64 (G (F + (2 * r + 2)) : Int)] W fun e w' => e = .returned (.bool false) ∧ w' = W) := fun W => by rw [← hl]; exact HL.out _ _ W
            clear hl
            go_wp2_with fail
            go_quiet (first | (go_at_call 92; refine Calls.quiet_of_same (HC1.out _)))
            revert nq; intro nq1
            generalize hw2 : wr.drewN nq1 = wr2 at *
            have HW2 : Hid (wr2 = putRow encN (Sort.ahead w (n + nq1)) blk off dk) := by rw [← hw2]; exact draws_put HW.out nq1
            have hcw2 : ∀ t, t < len → wr2.cell? ⟨blk, off + t, none⟩ = some (.int .u64 (G t : Int)) := fun t ht => by rw [← hw2]; exact hcw t ht
            clear hw2 hcw hfw
            go_wp2_with fail
            go_quiet (first | (go_at_call 92; refine Calls.quiet_of_same (HC2.out _)))
            go_wp2_with fail
            refine bodyPost_ret (results_none rfl _ _ _) rfl ?_
            exact ⟨rfl, n + nq1 + nq, by
              rw [draws_put HW2.out nq, ← HO.out, HE.out, HKC.out, ← HG.out, ← HG.out, if_neg (by rw [HL1.out]; simp)]⟩
        · have HM := Lib.hid hm
          have HC1 : Hid (∀ W, Calls Tryz.prog 92 #[.int .u64 (G (F + (2 * r + 1)) : Int), .int .u64 (G (F + (2 * r + 2)) : Int)] W fun e w' => e = .returned (.bool false) ∧ w' = W) := fun W => by rw [← hm]; exact HL.out _ _ W
          clear hm
          have HKC : Hid (kidD hi F r dk = 2 * r + 1) := by
            show _ = _
            rw [HK.out]; exact if_neg (fun h => by rw [HM.out] at h; exact absurd h.2 (by simp))
          rcases Bool.eq_false_or_eq_true (ltN (G (F + r)) (G (F + (2 * r + 1)))) with hl | hl
          · have HL1 := Lib.hid hl
            have HC2 : Hid (∀ W, Calls Tryz.prog 92 #[.int .u64 (G (F + r) : Int), .int .u64 (G (F + (2 * r + 1)) : Int)] W fun e w' => e = .returned (.bool true) ∧ w' = W) := fun W => by rw [← hl]; exact HL.out _ _ W
            clear hl
            go_wp2_with fail
            go_quiet (first | (go_at_call 92; refine Calls.quiet_of_same (HC1.out _)))
            revert nq; intro nq1
            generalize hw2 : wr.drewN nq1 = wr2 at *
            have HW2 : Hid (wr2 = putRow encN (Sort.ahead w (n + nq1)) blk off dk) := by rw [← hw2]; exact draws_put HW.out nq1
            have hcw2 : ∀ t, t < len → wr2.cell? ⟨blk, off + t, none⟩ = some (.int .u64 (G t : Int)) := fun t ht => by rw [← hw2]; exact hcw t ht
            have hfw2 : ∀ t, t < len → wr2.frozen? ⟨blk, off + t, none⟩ = false := fun t ht => by rw [← hw2]; exact hfw t ht
            clear hw2 hcw hfw
            go_wp2_with fail
            go_quiet (first | (go_at_call 92; refine Calls.quiet_of_same (HC2.out _)))
            generalize hw3 : wr2.drewN nq = wr3 at *
            have HW3 : Hid (wr3 = putRow encN (Sort.ahead w (n + nq1 + nq)) blk off dk) := by rw [← hw3]; exact draws_put HW2.out nq
            have hcw3 : ∀ t, t < len → wr3.cell? ⟨blk, off + t, none⟩ = some (.int .u64 (G t : Int)) := fun t ht => by rw [← hw3]; exact hcw2 t ht
            have hfw3 : ∀ t, t < len → wr3.frozen? ⟨blk, off + t, none⟩ = false := fun t ht => by rw [← hw3]; exact hfw2 t ht
            clear hw3 hcw2 hfw2
            go_wp2_with fail
            go_region
            all_goals go_wp2_with fail
            go_roundw
            case rel =>
              refine ⟨2 * r + 1, n + nq1 + nq + 1, swp dk (F + r) (F + (2 * r + 1)), by go_num, by omega, by show _ = _; rw [size_swp]; exact hsk.out, ?_, ?_⟩
              · show _ = _
                rw [HG.out, HG.out]
                exact swap_put (w1 := wr3) HW3.out 1 (i := F + r) (j := F + (2 * r + 1)) (by rw [hsk.out]; omega) (by rw [hsk.out]; omega)
              · show _ = _
                rw [← HO.out, HE.out, HKC.out, ← HG.out, ← HG.out, if_pos HL1.out]
            case measure => simp [intOf]; omega
          · have HL1 := Lib.hid hl
            have HC2 : Hid (∀ W, Calls Tryz.prog 92 #[.int .u64 (G (F + r) : Int), .int .u64 (G (F + (2 * r + 1)) : Int)] W fun e w' => e = .returned (.bool false) ∧ w' = W) := fun W => by rw [← hl]; exact HL.out _ _ W
            clear hl
            go_wp2_with fail
            go_quiet (first | (go_at_call 92; refine Calls.quiet_of_same (HC1.out _)))
            revert nq; intro nq1
            generalize hw2 : wr.drewN nq1 = wr2 at *
            have HW2 : Hid (wr2 = putRow encN (Sort.ahead w (n + nq1)) blk off dk) := by rw [← hw2]; exact draws_put HW.out nq1
            have hcw2 : ∀ t, t < len → wr2.cell? ⟨blk, off + t, none⟩ = some (.int .u64 (G t : Int)) := fun t ht => by rw [← hw2]; exact hcw t ht
            clear hw2 hcw hfw
            go_wp2_with fail
            go_quiet (first | (go_at_call 92; refine Calls.quiet_of_same (HC2.out _)))
            go_wp2_with fail
            refine bodyPost_ret (results_none rfl _ _ _) rfl ?_
            exact ⟨rfl, n + nq1 + nq, by
              rw [draws_put HW2.out nq, ← HO.out, HE.out, HKC.out, ← HG.out, ← HG.out, if_neg (by rw [HL1.out]; simp)]⟩
      · have h2' : ¬ (2 * (r : Int) + 1 + 1) < hi := by omega
        have h2d : decide (2 * (r : Int) + 1 + 1 < (hi : Int)) = false := by simp; omega
        have HKC : Hid (kidD hi F r dk = 2 * r + 1) := by
          show _ = _
          rw [HK.out]; exact if_neg (fun h => h2 h.1)
        rcases Bool.eq_false_or_eq_true (ltN (G (F + r)) (G (F + (2 * r + 1)))) with hl | hl
        · have HL1 := Lib.hid hl
          have HC2 : Hid (∀ W, Calls Tryz.prog 92 #[.int .u64 (G (F + r) : Int), .int .u64 (G (F + (2 * r + 1)) : Int)] W fun e w' => e = .returned (.bool true) ∧ w' = W) := fun W => by rw [← hl]; exact HL.out _ _ W
          clear hl
          go_wp2_with fail
          go_quiet (fail)
          revert nq; intro nq1
          generalize hw2 : wr.drewN nq1 = wr2 at *
          have HW2 : Hid (wr2 = putRow encN (Sort.ahead w (n + nq1)) blk off dk) := by rw [← hw2]; exact draws_put HW.out nq1
          have hcw2 : ∀ t, t < len → wr2.cell? ⟨blk, off + t, none⟩ = some (.int .u64 (G t : Int)) := fun t ht => by rw [← hw2]; exact hcw t ht
          have hfw2 : ∀ t, t < len → wr2.frozen? ⟨blk, off + t, none⟩ = false := fun t ht => by rw [← hw2]; exact hfw t ht
          clear hw2 hcw hfw
          go_wp2_with fail
          go_quiet (first | (go_at_call 92; refine Calls.quiet_of_same (HC2.out _)))
          generalize hw3 : wr2.drewN nq = wr3 at *
          have HW3 : Hid (wr3 = putRow encN (Sort.ahead w (n + nq1 + nq)) blk off dk) := by rw [← hw3]; exact draws_put HW2.out nq
          have hcw3 : ∀ t, t < len → wr3.cell? ⟨blk, off + t, none⟩ = some (.int .u64 (G t : Int)) := fun t ht => by rw [← hw3]; exact hcw2 t ht
          have hfw3 : ∀ t, t < len → wr3.frozen? ⟨blk, off + t, none⟩ = false := fun t ht => by rw [← hw3]; exact hfw2 t ht
          clear hw3 hcw2 hfw2
          go_wp2_with fail
          go_region
          all_goals go_wp2_with fail
          go_roundw
          case rel =>
            refine ⟨2 * r + 1, n + nq1 + nq + 1, swp dk (F + r) (F + (2 * r + 1)), by go_num, by omega, by show _ = _; rw [size_swp]; exact hsk.out, ?_, ?_⟩
            · show _ = _
              rw [HG.out, HG.out]
              exact swap_put (w1 := wr3) HW3.out 1 (i := F + r) (j := F + (2 * r + 1)) (by rw [hsk.out]; omega) (by rw [hsk.out]; omega)
            · show _ = _
              rw [← HO.out, HE.out, HKC.out, ← HG.out, ← HG.out, if_pos HL1.out]
          case measure => simp [intOf]; omega
        · have HL1 := Lib.hid hl
          have HC2 : Hid (∀ W, Calls Tryz.prog 92 #[.int .u64 (G (F + r) : Int), .int .u64 (G (F + (2 * r + 1)) : Int)] W fun e w' => e = .returned (.bool false) ∧ w' = W) := fun W => by rw [← hl]; exact HL.out _ _ W
          clear hl
          go_wp2_with fail
          go_quiet (fail)
          revert nq; intro nq1
          generalize hw2 : wr.drewN nq1 = wr2 at *
          have HW2 : Hid (wr2 = putRow encN (Sort.ahead w (n + nq1)) blk off dk) := by rw [← hw2]; exact draws_put HW.out nq1
          have hcw2 : ∀ t, t < len → wr2.cell? ⟨blk, off + t, none⟩ = some (.int .u64 (G t : Int)) := fun t ht => by rw [← hw2]; exact hcw t ht
          clear hw2 hcw hfw
          go_wp2_with fail
          go_quiet (first | (go_at_call 92; refine Calls.quiet_of_same (HC2.out _)))
          go_wp2_with fail
          refine bodyPost_ret (results_none rfl _ _ _) rfl ?_
          exact ⟨rfl, n + nq1 + nq, by
            rw [draws_put HW2.out nq, ← HO.out, HE.out, HKC.out, ← HG.out, ← HG.out, if_neg (by rw [HL1.out]; simp)]⟩
    · have hge : (hi : Int) ≤ 2 * r + 1 := by omega
      have HE : Hid (siftDown ltN hi F r dk = dk) := by
        show _ = _
        rw [siftDown, dif_pos (by omega)]
      go_wp2_with fail
      go_end0
      exact ⟨rfl, n, by rw [HW.out, ← HO.out, HE.out]⟩
end Go.Proofs.YtkdehkkkbfackaaGreatDoor
namespace Go.Proofs.YtkdehkkkbfackaaGreatDoor
open Go Go.RowKit Go.Shelf Go.Sort
theorem half_st {a b : Nat} (hab : a ≤ b) : ((b : Int) - (a : Int) - 1).tdiv 2 = (((b - a - 1) / 2 + 1 : Nat) : Int) - 1 := by
  by_cases h : a < b
  · have e : (b : Int) - (a : Int) - 1 = ((b - a - 1 : Nat) : Int) := by omega
    rw [e, show ((b - a - 1 : Nat) : Int).tdiv 2 = (((b - a - 1) / 2 : Nat) : Int) from rfl]
    omega
  · obtain rfl : a = b := by omega
    simp
theorem build_size (hi F : Nat) : ∀ (k : Nat) (d : Array Nat), (heapBuild ltN hi F k d).size = d.size := by
  intro k
  induction k with
  | zero => intro d; rfl
  | succ k ih => intro d; rw [heapBuild, ih, sift_size _ _ _ _ _ (Nat.le_refl _)]
set_option maxRecDepth 100000 in
set_option maxHeartbeats 4000000 in
theorem heapU_any (blk off len cap a b : Nat) (d : Array Nat) (hlen : d.size = len) (w : World) (hH : Holds encN w blk off d) (hab : a ≤ b) (hb : b ≤ len) (hsz : len < 4611686018427387904) :
    Calls Tryz.prog 87 #[.slice (some ⟨blk, off, none⟩) len cap, .int .i64 a, .int .i64 b] w fun e w' =>
      e = .returned (.tuple #[]) ∧ ∃ n, w' = putRow encN (Sort.ahead w n) blk off (heapSort ltN d a b) := by
  have HH := Lib.hid hH
  have HS := Lib.hid (putRow_self encN w blk off d hH).symm
  have HLN := Lib.hid hlen
  have HHALF := Lib.hid (half_st hab)
  have HSD := Lib.hid (fun d' hl' lo hi F w' hH' hlo hb' => siftU_any blk off len cap d' hl' lo hi F w' hH' hlo hb' hsz)
  have ecast : (b : Int) - (a : Int) = ((b - a : Nat) : Int) := by omega
  have hba : b - a ≤ len := by omega
  have hab2 : a + (b - a) ≤ len := by omega
  rw [ecast] at HHALF
  clear hH hlen
  obtain ⟨H, hHd⟩ : ∃ H, H = b - a := ⟨_, rfl⟩
  have HHd := Lib.hid hHd
  rw [← hHd] at HHALF ecast hba hab2
  clear hHd
  obtain ⟨q, hq⟩ : ∃ q, q = (H - 1) / 2 + 1 := ⟨_, rfl⟩
  have hqb : q ≤ H + 1 := by omega
  rw [← hq] at HHALF
  have HQ := Lib.hid hq
  clear hq
  have hhalf := HHALF.out
  go_enter Tryz.func87, Tryz.ntmps87
  go_wp2_with fail
  go_loopw [9] (fun x wr => ∃ (k n : Nat) (dk : Array Nat), x = .int .i64 ((k : Int) - 1) ∧ k ≤ q ∧ Hid (dk.size = len) ∧ Hid (wr = putRow encN (Sort.ahead w n) blk off dk) ∧ Hid (heapBuild ltN H a k dk = heapBuild ltN H a q d)) (fun x _ => (intOf x + 1).toNat)
  case atStart => exact ⟨q, 0, d, rfl, Nat.le_refl _, HLN, HS.out, rfl⟩
  case round =>
    obtain ⟨k, n, dk, rfl, hk, hsk, HW, HO⟩ := hrel
    clear hhalf
    cases k with
    | zero =>
      have HB : Hid (heapBuild ltN H a q d = dk) := HO.out.symm
      clear HO
      have d0 : ¬ ((0 : Int) ≤ ((0 : Nat) : Int) - 1) := by omega
      go_wp2_with fail
      go_loopw [10] (fun x wr => ∃ (k n : Nat) (dj : Array Nat), x = .int .i64 ((k : Int) - 1) ∧ k ≤ H ∧ Hid (dj.size = len) ∧ Hid (wr = putRow encN (Sort.ahead w n) blk off dj) ∧ Hid (heapPop ltN a k dj = heapPop ltN a H dk)) (fun x _ => (intOf x + 1).toNat)
      case atStart => exact ⟨H, n, dk, rfl, Nat.le_refl _, hsk, HW, rfl⟩
      case round =>
        obtain ⟨k, m, dj, rfl, hk2, hsj, HW2, HO2⟩ := hrel
        cases k with
        | zero =>
          have d1 : ¬ ((0 : Int) ≤ ((0 : Nat) : Int) - 1) := by omega
          go_wp2_with fail
          go_end0
          refine ⟨rfl, m, ?_⟩
          rw [HW2.out]
          congr 1
          have e1 : dj = heapPop ltN a H dk := HO2.out
          rw [e1, ← HB.out, HQ.out]
          unfold heapSort
          rw [HHd.out]
        | succ k =>
          have d1 : (0 : Int) ≤ ((k + 1 : Nat) : Int) - 1 := by omega
          have ek : ((k + 1 : Nat) : Int) - 1 = (k : Int) := by omega
          rw [ek] at d1 ⊢
          obtain ⟨G, HG, hcw0, hfw0⟩ := row_fam (put_cells HH.out HW2.out (by rw [hsj.out, HLN.out]))
          have hcw : ∀ t, t < len → wr.cell? ⟨blk, off + t, none⟩ = some (.int .u64 (G t : Int)) := fun t ht => hcw0 t (by rw [hsj.out]; exact ht)
          have hfw : ∀ t, t < len → wr.frozen? ⟨blk, off + t, none⟩ = false := fun t ht => hfw0 t (by rw [hsj.out]; exact ht)
          clear hcw0 hfw0
          rcases Nat.eq_zero_or_pos k with hk0 | hkp
          · subst hk0
            rw [show ((0 : Nat) : Int) = 0 from rfl] at d1 ⊢
            go_wp2_with fail
            go_region
            all_goals go_wp2_with fail
            have HW3 : Hid (((wr.setCell ⟨blk, off + a, none⟩ (.int .u64 (G (a) : Int))).setCell ⟨blk, off + (a), none⟩ (.int .u64 (G a : Int))).drew = putRow encN (Sort.ahead w (m + 1)) blk off (swp dj a (a))) := by
              show _ = _
              simp only [HG.out]
              exact swap_put (w1 := wr) HW2.out 1 (i := a) (j := a) (by rw [hsj.out]; omega) (by rw [hsj.out]; omega)
            generalize hw3 : ((wr.setCell ⟨blk, off + a, none⟩ (.int .u64 (G (a) : Int))).setCell ⟨blk, off + (a), none⟩ (.int .u64 (G a : Int))).drew = w3 at *
            have hC0 := HSD.out (swp dj a (a)) (by rw [size_swp]; exact hsj.out) 0 0 a w3 (put_cells HH.out HW3.out (by rw [size_swp, hsj.out, HLN.out])) (Nat.zero_le _) (by omega)
            rw [show ((0 : Nat) : Int) = 0 from rfl] at hC0
            have HC := Lib.hid hC0
            clear hC0 hw3 hcw hfw
            go_wp2_with (go_at_call 104; refine HC.out.mono ?_; rintro e w1 ⟨rfl, p, hw1⟩; have HX1 := Lib.hid hw1; clear hw1)
            have HW1 : Hid (w1 = putRow encN (Sort.ahead w (m + 1 + p)) blk off (siftDown ltN 0 a 0 (swp dj a (a)))) := by
              show _ = _
              rw [HX1.out, HW3.out, putRow_ahead_putRow encN w (m + 1) p blk off _ _ (sift_size _ _ _ _ _ (Nat.le_refl _))]
            go_roundw
            case rel => exact ⟨0, m + 1 + p, siftDown ltN 0 a 0 (swp dj a (a)), by go_num, by omega, by show _ = _; rw [sift_size _ _ _ _ _ (Nat.le_refl _), size_swp]; exact hsj.out, HW1, HO2⟩
            case measure => simp [intOf]
          ·
            go_wp2_with fail
            go_region
            all_goals go_wp2_with fail
            have HW3 : Hid (((wr.setCell ⟨blk, off + a, none⟩ (.int .u64 (G (a + k) : Int))).setCell ⟨blk, off + (a + k), none⟩ (.int .u64 (G a : Int))).drew = putRow encN (Sort.ahead w (m + 1)) blk off (swp dj a (a + k))) := by
              show _ = _
              simp only [HG.out]
              exact swap_put (w1 := wr) HW2.out 1 (i := a) (j := a + k) (by rw [hsj.out]; omega) (by rw [hsj.out]; omega)
            generalize hw3 : ((wr.setCell ⟨blk, off + a, none⟩ (.int .u64 (G (a + k) : Int))).setCell ⟨blk, off + (a + k), none⟩ (.int .u64 (G a : Int))).drew = w3 at *
            have hC0 := HSD.out (swp dj a (a + k)) (by rw [size_swp]; exact hsj.out) 0 k a w3 (put_cells HH.out HW3.out (by rw [size_swp, hsj.out, HLN.out])) (Nat.zero_le _) (by omega)
            rw [show ((0 : Nat) : Int) = 0 from rfl] at hC0
            have HC := Lib.hid hC0
            clear hC0 hw3 hcw hfw
            go_wp2_with (go_at_call 104; refine HC.out.mono ?_; rintro e w1 ⟨rfl, p, hw1⟩; have HX1 := Lib.hid hw1; clear hw1)
            have HW1 : Hid (w1 = putRow encN (Sort.ahead w (m + 1 + p)) blk off (siftDown ltN k a 0 (swp dj a (a + k)))) := by
              show _ = _
              rw [HX1.out, HW3.out, putRow_ahead_putRow encN w (m + 1) p blk off _ _ (sift_size _ _ _ _ _ (Nat.le_refl _))]
            go_roundw
            case rel => exact ⟨k, m + 1 + p, siftDown ltN k a 0 (swp dj a (a + k)), by go_num, by omega, by show _ = _; rw [sift_size _ _ _ _ _ (Nat.le_refl _), size_swp]; exact hsj.out, HW1, HO2⟩
            case measure => simp [intOf]
    | succ k =>
      have d1 : (0 : Int) ≤ ((k + 1 : Nat) : Int) - 1 := by omega
      have ek : ((k + 1 : Nat) : Int) - 1 = (k : Int) := by omega
      rw [ek] at d1 ⊢
      have HC := Lib.hid (HSD.out dk hsk.out k H a wr (put_cells HH.out HW.out (by rw [hsk.out, HLN.out])) (by omega) hab2)
      go_wp2_with (go_at_call 104; refine HC.out.mono ?_; rintro e w1 ⟨rfl, m, hw1⟩; have HX1 := Lib.hid hw1; clear hw1)
      have HW1 : Hid (w1 = putRow encN (Sort.ahead w (n + m)) blk off (siftDown ltN H a k dk)) := by
        show _ = _
        rw [HX1.out, HW.out, putRow_ahead_putRow encN w n m blk off dk _ (sift_size _ _ _ _ _ (Nat.le_refl _))]
      go_roundw
      case rel => exact ⟨k, n + m, siftDown ltN H a k dk, by go_num, by omega, by show _ = _; rw [sift_size _ _ _ _ _ (Nat.le_refl _)]; exact hsk.out, HW1, HO⟩
      case measure => simp [intOf]
end Go.Proofs.YtkdehkkkbfackaaGreatDoor
namespace Go.Proofs.YtkdehkkkbfackaaGreatDoor
open Go Go.RowKit Go.Shelf Go.Sort
set_option maxRecDepth 100000 in
set_option maxHeartbeats 4000000 in
theorem revU_any (blk off len cap a b : Nat) (d : Array Nat) (hlen : d.size = len) (w : World) (hH : Holds encN w blk off d) (hab : a < b) (hb : b ≤ len) (hsz : len < 4611686018427387904) :
    Calls Tryz.prog 90 #[.slice (some ⟨blk, off, none⟩) len cap, .int .i64 a, .int .i64 b] w fun e w' =>
      e = .returned (.tuple #[]) ∧ ∃ n d', PermIn a b d d' ∧ w' = putRow encN (Sort.ahead w n) blk off d' := by
  have HH := Lib.hid hH
  have HS := Lib.hid (putRow_self encN w blk off d hH).symm
  have HLN := Lib.hid hlen
  clear hH hlen
  go_enter Tryz.func90, Tryz.ntmps90
  go_wp2_with fail
  go_loopw [6, 7] (fun x y wr => ∃ (i j n : Nat) (dk : Array Nat), x = .int .i64 i ∧ y = .int .i64 j ∧ a ≤ i ∧ j < b ∧ i ≤ j + 1 ∧ Hid (PermIn a b d dk) ∧ Hid (wr = putRow encN (Sort.ahead w n) blk off dk)) (fun x y _ => (intOf y - intOf x + 1).toNat)
  case atStart => exact ⟨a, b - 1, 0, d, rfl, by go_num, Nat.le_refl _, by omega, by omega, permIn_refl _ _ _, HS.out⟩
  case round =>
    obtain ⟨i, j, n, dk, rfl, rfl, hai, hjb, hij, hP, HW⟩ := hrel
    have hsk : Hid (dk.size = len) := by show _ = _; rw [hP.out.1, HLN.out]
    by_cases hlt : i < j
    · obtain ⟨G, HG, hcw0, hfw0⟩ := row_fam (put_cells HH.out HW.out (by rw [hsk.out, HLN.out]))
      have hcw : ∀ t, t < len → wr.cell? ⟨blk, off + t, none⟩ = some (.int .u64 (G t : Int)) := fun t ht => hcw0 t (by rw [hsk.out]; exact ht)
      have hfw : ∀ t, t < len → wr.frozen? ⟨blk, off + t, none⟩ = false := fun t ht => hfw0 t (by rw [hsk.out]; exact ht)
      clear hcw0 hfw0
      go_wp2_with fail
      go_region
      all_goals go_wp2_with fail
      have HW3 : Hid (((wr.setCell ⟨blk, off + i, none⟩ (.int .u64 (G j : Int))).setCell ⟨blk, off + j, none⟩ (.int .u64 (G i : Int))).drew = putRow encN (Sort.ahead w (n + 1)) blk off (swp dk i j)) := by
        show _ = _
        simp only [HG.out]
        exact swap_put (w1 := wr) HW.out 1 (i := i) (j := j) (by rw [hsk.out]; omega) (by rw [hsk.out]; omega)
      go_roundw
      case rel => exact ⟨i + 1, j - 1, n + 1, swp dk i j, by go_num, by congr 1; omega, by omega, by omega, by omega, permIn_trans _ _ _ _ _ hP.out (swp_permIn dk a b i j (by omega) (by omega) (by omega) (by omega) (by rw [hsk.out]; omega)), HW3⟩
      case measure => simp [intOf]; omega
    · go_wp2_with fail
      go_end0
      exact ⟨rfl, n, dk, hP.out, HW.out⟩
end Go.Proofs.YtkdehkkkbfackaaGreatDoor
namespace Go.Proofs.YtkdehkkkbfackaaGreatDoor
open Go Go.RowKit Go.Shelf Go.Sort
theorem scan_go {d : Array Nat} {b i : Nat} (h : i < b) (hl : ltN d[i]! d[i - 1]! = false) : scanSorted ltN d b i = scanSorted ltN d b (i + 1) := by
  rw [scanSorted, if_pos (by simp [h, hl])]
theorem scan_stop {d : Array Nat} {b i : Nat} (h : b ≤ i ∨ ltN d[i]! d[i - 1]! = true) : scanSorted ltN d b i = i := by
  rw [scanSorted, if_neg]
  rintro e
  rw [Bool.and_eq_true, decide_eq_true_eq] at e
  rcases h with h | h
  · omega
  · rw [h] at e; simp at e
theorem down_go {d : Array Nat} {j : Nat} (h : 1 ≤ j) (hl : ltN d[j]! d[j - 1]! = true) : shiftDown ltN j d = shiftDown ltN (j - 1) (swp d j (j - 1)) := by
  cases j with
  | zero => omega
  | succ k => rw [shiftDown]; simp only [Nat.add_sub_cancel] at hl ⊢; rw [hl]; simp
theorem down_stop {d : Array Nat} {j : Nat} (h : j = 0 ∨ ltN d[j]! d[j - 1]! = false) : shiftDown ltN j d = d := by
  cases j with
  | zero => rw [shiftDown]
  | succ k =>
    rw [shiftDown]; simp only [Nat.add_sub_cancel] at h
    rcases h with h | h
    · omega
    · rw [h]; simp
theorem up_go {d : Array Nat} {b j : Nat} (h : j < b) (hl : ltN d[j]! d[j - 1]! = true) : shiftUp ltN b j d = shiftUp ltN b (j + 1) (swp d j (j - 1)) := by
  rw [shiftUp, if_pos h, hl]; simp
theorem up_stop {d : Array Nat} {b j : Nat} (h : b ≤ j ∨ ltN d[j]! d[j - 1]! = false) : shiftUp ltN b j d = d := by
  rw [shiftUp]
  rcases h with h | h
  · rw [if_neg (by omega)]
  · by_cases q : j < b
    · rw [if_pos q, h]; simp
    · rw [if_neg q]
theorem scan_ge (d : Array Nat) (b : Nat) : ∀ k i, b - i ≤ k → i ≤ b → i ≤ scanSorted ltN d b i ∧ scanSorted ltN d b i ≤ b := by
  intro k
  induction k with
  | zero => intro i h1 h2; rw [scan_stop (.inl (by omega))]; omega
  | succ k ih =>
    intro i h1 h2
    by_cases h : i < b
    · rcases Bool.eq_false_or_eq_true (ltN d[i]! d[i - 1]!) with hl | hl
      · rw [scan_stop (.inr hl)]; omega
      · rw [scan_go h hl]
        have := ih (i + 1) (by omega) (by omega)
        omega
    · rw [scan_stop (.inl (by omega))]; omega
theorem down_size : ∀ (j : Nat) (d : Array Nat), (shiftDown ltN j d).size = d.size := by
  intro j
  induction j with
  | zero => intro d; rfl
  | succ j ih => intro d; rw [shiftDown]; split
                 · rfl
                 · rw [ih, size_swp]
theorem up_size (b : Nat) : ∀ (k j : Nat) (d : Array Nat), b - j ≤ k → (shiftUp ltN b j d).size = d.size := by
  intro k
  induction k with
  | zero => intro j d h; rw [up_stop (.inl (by omega))]
  | succ k ih =>
    intro j d h
    by_cases q : j < b
    · rcases Bool.eq_false_or_eq_true (ltN d[j]! d[j - 1]!) with hl | hl
      · rw [up_go q hl, ih _ _ (by omega), size_swp]
      · rw [up_stop (.inr hl)]
    · rw [up_stop (.inl (by omega))]
/-- Behind the exchange and the two shifts. -/
def shD (a i : Nat) (d : Array Nat) : Array Nat := if 2 ≤ i - a then shiftDown ltN (i - 1) d else d
def shU (b i : Nat) (d : Array Nat) : Array Nat := if 2 ≤ b - i then shiftUp ltN b (i + 1) d else d
theorem part_eq (a b s i : Nat) (d : Array Nat) : partialIns ltN a b (s + 1) i d =
    if scanSorted ltN d b i = b then (d, true) else if b - a < 50 then (d, false) else
      partialIns ltN a b s (scanSorted ltN d b i) (shU b (scanSorted ltN d b i) (shD a (scanSorted ltN d b i) (swp d (scanSorted ltN d b i) (scanSorted ltN d b i - 1)))) := rfl
set_option maxRecDepth 100000 in
set_option maxHeartbeats 4000000 in
theorem partU_any (blk off len cap a b : Nat) (d : Array Nat) (hlen : d.size = len) (w : World) (hH : Holds encN w blk off d) (hab : a < b) (hb : b ≤ len) (hsz : len < 4611686018427387904) :
    Calls Tryz.prog 91 #[.slice (some ⟨blk, off, none⟩) len cap, .int .i64 a, .int .i64 b] w fun e w' =>
      e = .returned (.bool (partialInsertionSort ltN d a b).2) ∧ ∃ n, w' = putRow encN (Sort.ahead w n) blk off (partialInsertionSort ltN d a b).1 := by
  have HH := Lib.hid hH
  have HS := Lib.hid (putRow_self encN w blk off d hH).symm
  have HLN := Lib.hid hlen
  have HL := Lib.hid (fun x y w => lessU_any x y w)
  obtain ⟨R, hR⟩ : ∃ R, R = partialInsertionSort ltN d a b := ⟨_, rfl⟩
  rw [← hR]
  have HR : Hid (R = partialIns ltN a b 5 (a + 1) d) := hR
  clear hH hlen hR
  go_enter Tryz.func91, Tryz.ntmps91
  go_wp2_with fail
  go_loopw [7, 8, 9, 10] (fun x y _ _ wr => ∃ (i s n : Nat) (dk : Array Nat), x = .int .i64 i ∧ y = .int .i64 (5 - (s : Int)) ∧ s ≤ 5 ∧ a < i ∧ i ≤ b ∧ Hid (dk.size = len) ∧ Hid (wr = putRow encN (Sort.ahead w n) blk off dk) ∧ Hid (partialIns ltN a b s i dk = R)) (fun _ y _ _ _ => (5 - intOf y).toNat)
  case atStart => exact ⟨a + 1, 5, 0, d, by go_num, by rfl, by omega, by omega, by omega, HLN, HS.out, HR.out.symm⟩
  case round =>
    obtain ⟨i, s, n, dk, rfl, rfl, hs5, hai, hib, hsk, HW, HO⟩ := hrel
    cases s with
    | zero =>
      have e0 : ¬ (5 - ((0 : Nat) : Int) < 5) := by omega
      go_wp2_with fail
      go_ret
      exact ⟨by rw [← HO.out]; rfl, n, by rw [HW.out, ← HO.out]; rfl⟩
    | succ s =>
      have e0 : 5 - ((s + 1 : Nat) : Int) < 5 := by omega
      go_wp2_with fail
      go_loopw [7] (fun x wr2 => ∃ (i2 n2 : Nat), x = .int .i64 i2 ∧ a < i2 ∧ i2 ≤ b ∧ Hid (wr2 = putRow encN (Sort.ahead w n2) blk off dk) ∧ Hid (scanSorted ltN dk b i2 = scanSorted ltN dk b i)) (fun x _ => b - (intOf x).toNat)
      case atStart => exact ⟨i, n, rfl, hai, hib, HW, rfl⟩
      case round =>
        clear HW
        obtain ⟨i2, n2, rfl, hai2, hib2, HW, HO2⟩ := hrel
        obtain ⟨G, HG, hcw0, hfw0⟩ := row_fam (put_cells HH.out HW.out (by rw [hsk.out, HLN.out]))
        have hcw : ∀ t, t < len → wr.cell? ⟨blk, off + t, none⟩ = some (.int .u64 (G t : Int)) := fun t ht => hcw0 t (by rw [hsk.out]; exact ht)
        have hfw : ∀ t, t < len → wr.frozen? ⟨blk, off + t, none⟩ = false := fun t ht => hfw0 t (by rw [hsk.out]; exact ht)
        clear hcw0 hfw0
        by_cases hlt : i2 < b
        · rcases Bool.eq_false_or_eq_true (ltN (G i2) (G (i2 - 1))) with hl | hl
          · -- the scan stops
            have HL1 := Lib.hid hl
            have HC : Hid (∀ W, Calls Tryz.prog 92 #[.int .u64 (G i2 : Int), .int .u64 (G (i2 - 1) : Int)] W fun e w' => e = .returned (.bool true) ∧ w' = W) := fun W => by rw [← hl]; exact HL.out _ _ W
            clear hl
            have HSC : Hid (scanSorted ltN dk b i = i2) := by show _ = _; rw [← HO2.out]; exact scan_stop (.inr (by rw [← HG.out, ← HG.out]; exact HL1.out))
            go_wp2_with fail
            go_quiet (first | (go_at_call 92; refine Calls.quiet_of_same (HC.out _)))
            generalize hw2 : wr.drewN nq = wr2 at *
            have HW2 : Hid (wr2 = putRow encN (Sort.ahead w (n2 + nq)) blk off dk) := by rw [← hw2]; exact draws_put HW.out nq
            have hcw2 : ∀ t, t < len → wr2.cell? ⟨blk, off + t, none⟩ = some (.int .u64 (G t : Int)) := fun t ht => by rw [← hw2]; exact hcw t ht
            have hfw2 : ∀ t, t < len → wr2.frozen? ⟨blk, off + t, none⟩ = false := fun t ht => by rw [← hw2]; exact hfw t ht
            generalize n2 + nq = m2 at *
            clear hw2 hcw hfw HW HO2
            have hne : ((i2 : Int) == (b : Int)) = false := by simp; omega
            have hneb : ¬ i2 = b := by omega
            by_cases h50 : b - a < 50
            · have h50' : (b : Int) - (a : Int) < 50 := by omega
              have e : Hid (R = (dk, false)) := by show _ = _; rw [← HO.out, part_eq, if_neg (by rw [HSC.out]; exact hneb), if_pos h50]
              go_wp2_with fail
              go_ret
              exact ⟨by rw [e.out]; rfl, m2, by rw [e.out]; exact HW2.out⟩
            · have h50' : ¬ ((b : Int) - (a : Int) < 50) := by omega
              have HE : Hid (partialIns ltN a b s i2 (shU b i2 (shD a i2 (swp dk i2 (i2 - 1)))) = R) := by
                show _ = _
                rw [← HO.out, part_eq, HSC.out, if_neg hneb, if_neg h50]
              clear HO HSC
              go_wp2_with fail
              go_region
              go_upto_if 61 with fail
              have HW3 : Hid (((wr2.setCell ⟨blk, off + i2, none⟩ (.int .u64 (G (i2 - 1) : Int))).setCell ⟨blk, off + (i2 - 1), none⟩ (.int .u64 (G i2 : Int))).drew = putRow encN (Sort.ahead w (m2 + 1)) blk off (swp dk i2 (i2 - 1))) := by
                show _ = _
                simp only [HG.out]
                exact swap_put (w1 := wr2) HW2.out 1 (i := i2) (j := i2 - 1) (by rw [hsk.out]; omega) (by rw [hsk.out]; omega)
              generalize hw3 : ((wr2.setCell ⟨blk, off + i2, none⟩ (.int .u64 (G (i2 - 1) : Int))).setCell ⟨blk, off + (i2 - 1), none⟩ (.int .u64 (G i2 : Int))).drew = w3 at *
              have hs3 : Hid ((swp dk i2 (i2 - 1)).size = len) := by show _ = _; rw [size_swp]; exact hsk.out
              generalize swp dk i2 (i2 - 1) = d3 at *
              clear hw3 hcw2 hfw2 HW2
              go_cut [9] (fun _ wx => ∃ n, Hid (wx = putRow encN (Sort.ahead w n) blk off (shD a i2 d3)))
              case first =>
                by_cases h2 : 2 ≤ i2 - a
                · have h2' : (2 : Int) ≤ (i2 : Int) - (a : Int) := by omega
                  have HT : Hid (shD a i2 d3 = shiftDown ltN (i2 - 1) d3) := if_pos h2
                  go_wp2_with fail
                  go_loopw [9] (fun x wr3 => ∃ (j m : Nat) (dj : Array Nat), x = .int .i64 j ∧ j < b ∧ Hid (dj.size = len) ∧ Hid (wr3 = putRow encN (Sort.ahead w m) blk off dj) ∧ Hid (shiftDown ltN j dj = shiftDown ltN (i2 - 1) d3)) (fun x _ => (intOf x).toNat)
                  case atStart => exact ⟨i2 - 1, m2 + 1, d3, by congr 1; omega, by omega, hs3, HW3, rfl⟩
                  case round =>
                    clear HW3 HG HC
                    obtain ⟨j, m, dj, rfl, hjb, hsj, HWj, HOj⟩ := hrel
                    obtain ⟨G, HG, hcw0, hfw0⟩ := row_fam (put_cells HH.out HWj.out (by rw [hsj.out, HLN.out]))
                    have hcw : ∀ t, t < len → wr.cell? ⟨blk, off + t, none⟩ = some (.int .u64 (G t : Int)) := fun t ht => hcw0 t (by rw [hsj.out]; exact ht)
                    have hfw : ∀ t, t < len → wr.frozen? ⟨blk, off + t, none⟩ = false := fun t ht => hfw0 t (by rw [hsj.out]; exact ht)
                    clear hcw0 hfw0
                    by_cases hj0 : j = 0
                    · subst hj0
                      have e1 : Hid (dj = shD a i2 d3) := by show _ = _; rw [HT.out, ← HOj.out]; rfl
                      go_wp2_with fail
                      go_meet
                      exact ⟨m, by rw [← e1.out]; exact HWj⟩
                    · have hj1 : (1 : Int) ≤ (j : Int) := by omega
                      rcases Bool.eq_false_or_eq_true (ltN (G j) (G (j - 1))) with hl | hl
                      · have HL2 := Lib.hid hl
                        have HC : Hid (∀ W, Calls Tryz.prog 92 #[.int .u64 (G j : Int), .int .u64 (G (j - 1) : Int)] W fun e w' => e = .returned (.bool true) ∧ w' = W) := fun W => by rw [← hl]; exact HL.out _ _ W
                        clear hl
                        go_wp2_with fail
                        go_quiet (first | (go_at_call 92; refine Calls.quiet_of_same (HC.out _)))
                        generalize hw2 : wr.drewN nq = wr2 at *
                        have HWk : Hid (wr2 = putRow encN (Sort.ahead w (m + nq)) blk off dj) := by rw [← hw2]; exact draws_put HWj.out nq
                        have hcw2 : ∀ t, t < len → wr2.cell? ⟨blk, off + t, none⟩ = some (.int .u64 (G t : Int)) := fun t ht => by rw [← hw2]; exact hcw t ht
                        have hfw2 : ∀ t, t < len → wr2.frozen? ⟨blk, off + t, none⟩ = false := fun t ht => by rw [← hw2]; exact hfw t ht
                        clear hw2 hcw hfw
                        go_wp2_with fail
                        go_region
                        all_goals go_wp2_with fail
                        have HWl : Hid (((wr2.setCell ⟨blk, off + j, none⟩ (.int .u64 (G (j - 1) : Int))).setCell ⟨blk, off + (j - 1), none⟩ (.int .u64 (G j : Int))).drew = putRow encN (Sort.ahead w (m + nq + 1)) blk off (swp dj j (j - 1))) := by
                          show _ = _
                          simp only [HG.out]
                          exact swap_put (w1 := wr2) HWk.out 1 (i := j) (j := j - 1) (by rw [hsj.out]; omega) (by rw [hsj.out]; omega)
                        go_roundw
                        case rel => exact ⟨j - 1, m + nq + 1, swp dj j (j - 1), by congr 1; omega, by omega, by show _ = _; rw [size_swp]; exact hsj.out, HWl, by
                          show _ = _
                          exact (down_go (d := dj) (j := j) (by omega) (by rw [← HG.out, ← HG.out]; exact HL2.out)).symm.trans HOj.out⟩
                        case measure => simp [intOf]; omega
                      · have HL2 := Lib.hid hl
                        have HC : Hid (∀ W, Calls Tryz.prog 92 #[.int .u64 (G j : Int), .int .u64 (G (j - 1) : Int)] W fun e w' => e = .returned (.bool false) ∧ w' = W) := fun W => by rw [← hl]; exact HL.out _ _ W
                        clear hl
                        have e1 : Hid (dj = shD a i2 d3) := by
                          show _ = _
                          rw [HT.out, ← HOj.out, down_stop (.inr (by rw [← HG.out, ← HG.out]; exact HL2.out))]
                        go_wp2_with fail
                        go_quiet (first | (go_at_call 92; refine Calls.quiet_of_same (HC.out _)))
                        go_wp2_with fail
                        go_meet
                        exact ⟨m + nq, by rw [← e1.out]; exact draws_put HWj.out nq⟩
                · have h2' : ¬ ((2 : Int) ≤ (i2 : Int) - (a : Int)) := by omega
                  have HT : Hid (shD a i2 d3 = d3) := if_neg h2
                  go_wp2_with fail
                  go_meet
                  exact ⟨m2 + 1, by rw [HT.out]; exact HW3⟩
              case rest =>
                obtain ⟨m4, HW4⟩ := hcut
                have hs4 : Hid ((shD a i2 d3).size = len) := by
                  show _ = _
                  unfold shD
                  split
                  · rw [down_size, hs3.out]
                  · exact hs3.out
                generalize shD a i2 d3 = d4 at *
                clear HW3 hs3
                have OUT : Hid (∀ (m : Nat) (wx : World), wx = putRow encN (Sort.ahead w m) blk off (shU b i2 d4) → ∃ (i' s' n' : Nat) (dk' : Array Nat), Value.int .i64 (i2 : Int) = .int .i64 (i' : Int) ∧ Value.int .i64 (5 - ((s + 1 : Nat) : Int) + 1) = .int .i64 (5 - (s' : Int)) ∧ s' ≤ 5 ∧ a < i' ∧ i' ≤ b ∧ Hid (dk'.size = len) ∧ Hid (wx = putRow encN (Sort.ahead w n') blk off dk') ∧ Hid (partialIns ltN a b s' i' dk' = R)) := fun m wx hwx =>
                  ⟨i2, s, m, shU b i2 d4, rfl, by congr 1; omega, by omega, hai2, hib2, by
                    show _ = _
                    unfold shU
                    split
                    · rw [up_size _ _ _ _ (Nat.le_refl _), hs4.out]
                    · exact hs4.out, hwx, HE⟩
                clear HG HC
                by_cases h2 : 2 ≤ b - i2
                · have h2' : (2 : Int) ≤ (b : Int) - (i2 : Int) := by omega
                  have HT : Hid (shU b i2 d4 = shiftUp ltN b (i2 + 1) d4) := if_pos h2
                  go_wp2_with fail
                  go_loopw [10] (fun x wr3 => ∃ (j m : Nat) (dj : Array Nat), x = .int .i64 j ∧ i2 < j ∧ j ≤ b ∧ Hid (dj.size = len) ∧ Hid (wr3 = putRow encN (Sort.ahead w m) blk off dj) ∧ Hid (shiftUp ltN b j dj = shiftUp ltN b (i2 + 1) d4)) (fun x _ => b - (intOf x).toNat)
                  case atStart => exact ⟨i2 + 1, m4, d4, by go_num, by omega, by omega, hs4, HW4, rfl⟩
                  case round =>
                    clear HW4
                    obtain ⟨j, m, dj, rfl, hij, hjb, hsj, HWj, HOj⟩ := hrel
                    obtain ⟨G, HG, hcw0, hfw0⟩ := row_fam (put_cells HH.out HWj.out (by rw [hsj.out, HLN.out]))
                    have hcw : ∀ t, t < len → wr.cell? ⟨blk, off + t, none⟩ = some (.int .u64 (G t : Int)) := fun t ht => hcw0 t (by rw [hsj.out]; exact ht)
                    have hfw : ∀ t, t < len → wr.frozen? ⟨blk, off + t, none⟩ = false := fun t ht => hfw0 t (by rw [hsj.out]; exact ht)
                    clear hcw0 hfw0
                    by_cases hj0 : j < b
                    · rcases Bool.eq_false_or_eq_true (ltN (G j) (G (j - 1))) with hl | hl
                      · have HL2 := Lib.hid hl
                        have HC : Hid (∀ W, Calls Tryz.prog 92 #[.int .u64 (G j : Int), .int .u64 (G (j - 1) : Int)] W fun e w' => e = .returned (.bool true) ∧ w' = W) := fun W => by rw [← hl]; exact HL.out _ _ W
                        clear hl
                        go_wp2_with fail
                        go_quiet (first | (go_at_call 92; refine Calls.quiet_of_same (HC.out _)))
                        generalize hw2 : wr.drewN nq = wr2 at *
                        have HWk : Hid (wr2 = putRow encN (Sort.ahead w (m + nq)) blk off dj) := by rw [← hw2]; exact draws_put HWj.out nq
                        have hcw2 : ∀ t, t < len → wr2.cell? ⟨blk, off + t, none⟩ = some (.int .u64 (G t : Int)) := fun t ht => by rw [← hw2]; exact hcw t ht
                        have hfw2 : ∀ t, t < len → wr2.frozen? ⟨blk, off + t, none⟩ = false := fun t ht => by rw [← hw2]; exact hfw t ht
                        clear hw2 hcw hfw
                        go_wp2_with fail
                        go_region
                        all_goals go_wp2_with fail
                        have HWl : Hid (((wr2.setCell ⟨blk, off + j, none⟩ (.int .u64 (G (j - 1) : Int))).setCell ⟨blk, off + (j - 1), none⟩ (.int .u64 (G j : Int))).drew = putRow encN (Sort.ahead w (m + nq + 1)) blk off (swp dj j (j - 1))) := by
                          show _ = _
                          simp only [HG.out]
                          exact swap_put (w1 := wr2) HWk.out 1 (i := j) (j := j - 1) (by rw [hsj.out]; omega) (by rw [hsj.out]; omega)
                        go_roundw
                        case rel => exact ⟨j + 1, m + nq + 1, swp dj j (j - 1), by go_num, by omega, by omega, by show _ = _; rw [size_swp]; exact hsj.out, HWl, by
                          show _ = _
                          rw [← HOj.out, up_go hj0 (by rw [← HG.out, ← HG.out]; exact HL2.out)]⟩
                        case measure => simp [intOf]; omega
                      · have HL2 := Lib.hid hl
                        have HC : Hid (∀ W, Calls Tryz.prog 92 #[.int .u64 (G j : Int), .int .u64 (G (j - 1) : Int)] W fun e w' => e = .returned (.bool false) ∧ w' = W) := fun W => by rw [← hl]; exact HL.out _ _ W
                        clear hl
                        have e1 : Hid (dj = shU b i2 d4) := by
                          show _ = _
                          rw [HT.out, ← HOj.out, up_stop (.inr (by rw [← HG.out, ← HG.out]; exact HL2.out))]
                        go_wp2_with fail
                        go_quiet (first | (go_at_call 92; refine Calls.quiet_of_same (HC.out _)))
                        go_wp2_with fail
                        go_roundw
                        case rel => exact OUT.out (m + nq) _ (by rw [← e1.out]; exact draws_put HWj.out nq)
                        case measure => simp [intOf]; omega
                    · have e1 : Hid (dj = shU b i2 d4) := by
                        show _ = _
                        rw [HT.out, ← HOj.out, up_stop (.inl (by omega))]
                      go_wp2_with fail
                      go_roundw
                      case rel => exact OUT.out m _ (by rw [← e1.out]; exact HWj.out)
                      case measure => simp [intOf]; omega
                · have h2' : ¬ ((2 : Int) ≤ (b : Int) - (i2 : Int)) := by omega
                  have HT : Hid (shU b i2 d4 = d4) := if_neg h2
                  go_wp2_with fail
                  go_roundw
                  case rel => exact OUT.out m4 _ (by rw [HT.out]; exact HW4.out)
                  case measure => simp [intOf]; omega
          · have HL1 := Lib.hid hl
            have HC : Hid (∀ W, Calls Tryz.prog 92 #[.int .u64 (G i2 : Int), .int .u64 (G (i2 - 1) : Int)] W fun e w' => e = .returned (.bool false) ∧ w' = W) := fun W => by rw [← hl]; exact HL.out _ _ W
            clear hl
            go_wp2_with fail
            go_quiet (first | (go_at_call 92; refine Calls.quiet_of_same (HC.out _)))
            go_wp2_with fail
            go_roundw
            case rel => exact ⟨i2 + 1, n2 + nq, by go_num, by omega, by omega, draws_put HW.out nq, by
              show _ = _
              rw [← HO2.out, scan_go hlt (by rw [← HG.out, ← HG.out]; exact HL1.out)]⟩
            case measure => simp [intOf]; omega
        · obtain rfl : i2 = b := by omega
          have HSC : Hid (scanSorted ltN dk i2 i = i2) := by show _ = _; rw [← HO2.out]; exact scan_stop (.inl (Nat.le_refl _))
          go_wp2_with fail
          go_quiet (fail)
          go_wp2_with fail
          go_ret
          have e : R = (dk, true) := by rw [← HO.out, part_eq, if_pos HSC.out]
          exact ⟨by rw [e]; rfl, n2 + nq, by rw [e]; exact draws_put HW.out nq⟩
end Go.Proofs.YtkdehkkkbfackaaGreatDoor
namespace Go.Proofs.YtkdehkkkbfackaaGreatDoor
open Go Go.RowKit Go.Shelf Go.Sort
/-- The world with m draws more and a counter in a new block. -/
def CntW (w : World) (m s : Nat) : World := (Sort.ahead w m).alloc (.cells #[.int .i64 (s : Int)] 3)
theorem cnt_draws (w : World) (m s n : Nat) : (CntW w m s).drewN n = CntW w (m + n) s := by
  show Sort.ahead ((Sort.ahead w m).alloc _) n = _
  unfold CntW
  rw [alloc_eq_grow, alloc_eq_grow, ahead_grow, ahead_ahead]
theorem cnt_set (w : World) (m s s' : Nat) : (CntW w m s).setCell ⟨w.heap.size, 0, none⟩ (.int .i64 (s' : Int)) = CntW w m s' := by
  unfold CntW World.setCell World.alloc
  congr 1
  apply Array.ext_getElem?
  intro k
  show ((w.heap.push _).modify w.heap.size _)[k]? = (w.heap.push _)[k]?
  rw [Array.getElem?_modify, Array.getElem?_push, Array.getElem?_push]
  by_cases h : w.heap.size = k
  · subst h; simp
  · rw [if_neg h]
    have h2 : ¬ k = w.heap.size := fun e => h e.symm
    rw [if_neg h2, if_neg h2]
theorem cnt_cell (w : World) (m s : Nat) : (CntW w m s).cell? ⟨w.heap.size, 0, none⟩ = some (.int .i64 (s : Int)) := by
  have := (Blk.new (Sort.ahead w m) #[.int .i64 (s : Int)] 3).cell 0
  exact this
theorem cnt_frozen (w : World) (m s : Nat) : (CntW w m s).frozen? ⟨w.heap.size, 0, none⟩ = false := by
  have h := World.alloc_heap_new (Sort.ahead w m) (.cells #[.int .i64 (s : Int)] 3)
  unfold CntW World.frozen?
  rw [show (Sort.ahead w m).heap.size = w.heap.size from rfl] at h
  rw [h]
  simp
theorem cnt_holds {w : World} {blk off : Nat} {d : Array Nat} (h : Holds encN w blk off d) (hb : blk < w.heap.size) (m s : Nat) : Holds encN (CntW w m s) blk off d := by
  unfold CntW
  rw [alloc_eq_grow]
  exact holds_grow _ _ _ _ _ _ hb (holds_ahead _ _ m _ _ _ h)
theorem cnt_grow (w : World) (m s : Nat) : CntW w m s = grow (Sort.ahead w m) #[.cells #[.int .i64 (s : Int)] 3] := alloc_eq_grow _ _
set_option maxRecDepth 100000 in
set_option maxHeartbeats 4000000 in
theorem ord2U_any (blk off len cap a b m s : Nat) (d : Array Nat) (hlen : d.size = len) (w : World) (hH : Holds encN w blk off d) (hbw : blk < w.heap.size) (ha : a < len) (hb : b < len) (hs : s ≤ 1000000) (hsz : len < 4611686018427387904) :
    Calls Tryz.prog 111 #[.slice (some ⟨blk, off, none⟩) len cap, .int .i64 a, .int .i64 b, .pointer (some ⟨w.heap.size, 0, none⟩)] (CntW w m s) fun e w' =>
      ∃ x y m' s' : Nat, e = .returned (.tuple #[.int .i64 (x : Nat), .int .i64 (y : Nat)]) ∧ ((x = a ∧ y = b) ∨ (x = b ∧ y = a)) ∧ s' ≤ s + 1 ∧ w' = CntW w m' s' := by
  have HL := Lib.hid (fun x y w => lessU_any x y w)
  have HCD := Lib.hid (fun m s n => cnt_draws w m s n)
  have HCS := Lib.hid (fun m s s' => cnt_set w m s s')
  have HCC := Lib.hid (fun m s => cnt_cell w m s)
  obtain ⟨G, HG, hcw0, hfw0⟩ := row_fam (cnt_holds hH hbw m s)
  obtain ⟨W, hW⟩ : ∃ W, W = CntW w m s := ⟨_, rfl⟩
  rw [← hW] at hcw0 hfw0 ⊢
  have HW := Lib.hid hW
  have hcw : ∀ t, t < len → W.cell? ⟨blk, off + t, none⟩ = some (.int .u64 (G t : Int)) := fun t ht => hcw0 t (by rw [hlen]; exact ht)
  have c0 : W.cell? ⟨w.heap.size, 0, none⟩ = some (.int .i64 (s : Int)) := by rw [hW]; exact cnt_cell w m s
  have f0 : W.frozen? ⟨w.heap.size, 0, none⟩ = false := by rw [hW]; exact cnt_frozen w m s
  clear hcw0 hfw0 hH hW
  obtain ⟨S, hS⟩ : ∃ S, S = w.heap.size := ⟨_, rfl⟩
  rw [← hS] at c0 f0 HCS HCC ⊢
  clear hS hbw
  rcases Bool.eq_false_or_eq_true (ltN (G b) (G a)) with hl | hl
  · have HC : Hid (∀ W, Calls Tryz.prog 92 #[.int .u64 (G b : Int), .int .u64 (G a : Int)] W fun e w' => e = .returned (.bool true) ∧ w' = W) := fun W => by rw [← hl]; exact HL.out _ _ W
    clear hl
    go_enter Tryz.func111, Tryz.ntmps111
    go_wp2_with fail
    go_quiet (first | (go_at_call 92; refine Calls.quiet_of_same (HC.out _)))
    go_wp2_with fail
    go_ret2
    refine ⟨b, a, m + nq, s + 1, rfl, .inr ⟨rfl, rfl⟩, Nat.le_refl _, ?_⟩
    rw [HW.out, HCD.out]
    exact HCS.out (m + nq) s (s + 1)
  · have HC : Hid (∀ W, Calls Tryz.prog 92 #[.int .u64 (G b : Int), .int .u64 (G a : Int)] W fun e w' => e = .returned (.bool false) ∧ w' = W) := fun W => by rw [← hl]; exact HL.out _ _ W
    clear hl
    go_enter Tryz.func111, Tryz.ntmps111
    go_wp2_with fail
    go_quiet (first | (go_at_call 92; refine Calls.quiet_of_same (HC.out _)))
    go_wp2_with fail
    go_ret2
    exact ⟨a, b, m + nq, s, rfl, .inl ⟨rfl, rfl⟩, by omega, by rw [HW.out, HCD.out]⟩
set_option maxRecDepth 100000 in
set_option maxHeartbeats 4000000 in
theorem medU_any (blk off len cap a b c m s : Nat) (d : Array Nat) (hlen : d.size = len) (w : World) (hH : Holds encN w blk off d) (hbw : blk < w.heap.size) (ha : a < len) (hb : b < len) (hc : c < len) (hs : s ≤ 999990) (hsz : len < 4611686018427387904) :
    Calls Tryz.prog 106 #[.slice (some ⟨blk, off, none⟩) len cap, .int .i64 a, .int .i64 b, .int .i64 c, .pointer (some ⟨w.heap.size, 0, none⟩)] (CntW w m s) fun e w' =>
      ∃ x m' s' : Nat, e = .returned (.int .i64 (x : Nat)) ∧ (x = a ∨ x = b ∨ x = c) ∧ s' ≤ s + 3 ∧ w' = CntW w m' s' := by
  have HC := Lib.hid (fun a b m s ha hb hs => ord2U_any blk off len cap a b m s d hlen w hH hbw ha hb hs hsz)
  clear hlen hH hbw
  obtain ⟨S, hS⟩ : ∃ S, S = w.heap.size := ⟨_, rfl⟩
  rw [← hS] at HC ⊢
  clear hS
  go_enter Tryz.func106, Tryz.ntmps106
  go_wp2_with fail
  refine (HC.out a b m s ha hb (by omega)).mono ?_
  rintro e w1 ⟨x1, y1, m1, s1, rfl, h1, hs1, rfl⟩
  have H1 := Lib.hid h1
  have hx1 : x1 < len := by rcases h1 with ⟨rfl, rfl⟩ | ⟨rfl, rfl⟩ <;> assumption
  have hy1 : y1 < len := by rcases h1 with ⟨rfl, rfl⟩ | ⟨rfl, rfl⟩ <;> assumption
  clear h1
  go_wp2_with fail
  refine (HC.out y1 c m1 s1 hy1 hc (by omega)).mono ?_
  rintro e w2 ⟨x2, y2, m2, s2, rfl, h2, hs2, rfl⟩
  have H2 := Lib.hid h2
  have hx2 : x2 < len := by rcases h2 with ⟨rfl, rfl⟩ | ⟨rfl, rfl⟩ <;> assumption
  clear h2
  go_wp2_with fail
  refine (HC.out x1 x2 m2 s2 hx1 hx2 (by omega)).mono ?_
  rintro e w3 ⟨x3, y3, m3, s3, rfl, h3, hs3, rfl⟩
  have H3 := Lib.hid h3
  clear h3
  go_wp2_with fail
  go_ret
  refine ⟨y3, m3, s3, rfl, ?_, by omega, rfl⟩
  rcases H1.out with ⟨rfl, rfl⟩ | ⟨rfl, rfl⟩ <;> rcases H2.out with ⟨rfl, rfl⟩ | ⟨rfl, rfl⟩ <;> rcases H3.out with ⟨rfl, rfl⟩ | ⟨rfl, rfl⟩ <;> simp
set_option maxRecDepth 100000 in
set_option maxHeartbeats 4000000 in
theorem madU_any (blk off len cap a m s : Nat) (d : Array Nat) (hlen : d.size = len) (w : World) (hH : Holds encN w blk off d) (hbw : blk < w.heap.size) (ha0 : 1 ≤ a) (ha : a + 1 < len) (hs : s ≤ 999990) (hsz : len < 4611686018427387904) :
    Calls Tryz.prog 105 #[.slice (some ⟨blk, off, none⟩) len cap, .int .i64 a, .pointer (some ⟨w.heap.size, 0, none⟩)] (CntW w m s) fun e w' =>
      ∃ x m' s' : Nat, e = .returned (.int .i64 (x : Nat)) ∧ a - 1 ≤ x ∧ x ≤ a + 1 ∧ s' ≤ s + 3 ∧ w' = CntW w m' s' := by
  have hc0 := medU_any blk off len cap (a - 1) a (a + 1) m s d hlen w hH hbw (by omega) (by omega) (by omega) hs hsz
  have e1 : ((a - 1 : Nat) : Int) = (a : Int) - 1 := by omega
  have e2 : ((a + 1 : Nat) : Int) = (a : Int) + 1 := by omega
  rw [e1, e2] at hc0
  have HC := Lib.hid hc0
  clear hlen hH hbw hc0 e1 e2
  obtain ⟨S, hS⟩ : ∃ S, S = w.heap.size := ⟨_, rfl⟩
  rw [← hS] at HC ⊢
  clear hS
  go_enter Tryz.func105, Tryz.ntmps105
  go_wp2_with fail
  refine HC.out.mono ?_
  rintro e w1 ⟨x1, m1, s1, rfl, h1, hs1, rfl⟩
  go_wp2_with fail
  go_ret
  exact ⟨x1, m1, s1, rfl, by omega, by omega, hs1, rfl⟩
end Go.Proofs.YtkdehkkkbfackaaGreatDoor
namespace Go.Proofs.YtkdehkkkbfackaaGreatDoor
open Go Go.RowKit Go.Shelf Go.Sort
def PivPost (w : World) (a b : Nat) (e : Ending) (w' : World) : Prop :=
  ∃ p h m s : Nat, e = .returned (.tuple #[.int .i64 (p : Nat), .int .i64 (h : Nat)]) ∧ a ≤ p ∧ p < b ∧ h ≤ 2 ∧ w' = CntW w m s
set_option maxRecDepth 100000 in
set_option maxHeartbeats 8000000 in
theorem pivU_any (blk off len cap a b : Nat) (d : Array Nat) (hlen : d.size = len) (w : World) (hH : Holds encN w blk off d) (hbw : blk < w.heap.size) (hab : a < b) (hb : b ≤ len) (hsz : len < 4611686018427387904) :
    Calls Tryz.prog 89 #[.slice (some ⟨blk, off, none⟩) len cap, .int .i64 a, .int .i64 b] w (PivPost w a b) := by
  have HM := Lib.hid (fun x y z m s hx hy hz hs => medU_any blk off len cap x y z m s d hlen w hH hbw hx hy hz hs hsz)
  have HA := Lib.hid (fun x m s hx0 hx hs => madU_any blk off len cap x m s d hlen w hH hbw hx0 hx hs hsz)
  have HCC := Lib.hid (fun m s => cnt_cell w m s)
  have HW0 : Hid (w.alloc (.cells #[.int .i64 0] 3) = CntW w 0 0) := rfl
  clear hlen hH hbw
  obtain ⟨S, hS⟩ : ∃ S, S = w.heap.size := ⟨_, rfl⟩
  rw [← hS] at HM HA HCC
  have HS := Lib.hid hS
  clear hS
  obtain ⟨H, hHd⟩ : ∃ H, H = b - a := ⟨_, rfl⟩
  have ecast : (b : Int) - (a : Int) = (H : Int) := by omega
  have hbH : b = a + H := by omega
  obtain ⟨q, hq⟩ : ∃ q, q = H / 4 := ⟨_, rfl⟩
  have e4 : (H : Int).tdiv 4 = (q : Int) := by rw [hq]; rfl
  have HB : Hid (b = a + H) := hbH
  have hqb : 4 * q ≤ H := by omega
  have hq2 : H < 4 * q + 4 := by omega
  have hHl : a + H ≤ len := by omega
  have hH0 : 0 < H := by omega
  clear hHd hbH hq
  have END : ∀ (s : Nat) (P : Prop), (s = 0 → P) → (s = 12 → P) → (s ≠ 0 → s ≠ 12 → P) → P := fun s P h1 h2 h3 => by
    by_cases q1 : s = 0
    · exact h1 q1
    · by_cases q2 : s = 12
      · exact h2 q2
      · exact h3 q1 q2
  have HE := Lib.hid END
  clear END
  obtain ⟨i, hi⟩ : ∃ i, i = a + q := ⟨_, rfl⟩
  obtain ⟨j, hj⟩ : ∃ j, j = a + q * 2 := ⟨_, rfl⟩
  obtain ⟨k, hk⟩ : ∃ k, k = a + q * 3 := ⟨_, rfl⟩
  have ei : (a : Int) + (q : Int) = (i : Int) := by omega
  have ej : (a : Int) + (q : Int) * 2 = (j : Int) := by omega
  have ek : (a : Int) + (q : Int) * 3 = (k : Int) := by omega
  have hi1 : a ≤ i ∧ i < a + H ∧ (50 ≤ H → 1 ≤ i ∧ a + 1 ≤ i ∧ i + 1 < a + H) := by omega
  have hj1 : a ≤ j ∧ j < a + H ∧ (50 ≤ H → 1 ≤ j ∧ a + 1 ≤ j ∧ j + 1 < a + H) := by omega
  have hk1 : a ≤ k ∧ (8 ≤ H → k < a + H) ∧ (50 ≤ H → 1 ≤ k ∧ a + 1 ≤ k ∧ k + 1 < a + H) := by omega
  clear hi hj hk
  go_enter Tryz.func89, Tryz.ntmps89
  by_cases h8 : 8 ≤ H
  · by_cases h50 : 50 ≤ H
    · go_wp2_with fail
      rw [← HS.out, HW0.out]
      refine (HA.out i 0 0 (by omega) (by omega) (by omega)).mono ?_
      rintro e w1 ⟨x1, m1, s1, rfl, l1, u1, hs1, rfl⟩
      go_wp2_with fail
      refine (HA.out j m1 s1 (by omega) (by omega) (by omega)).mono ?_
      rintro e w1 ⟨x2, m2, s2, rfl, l2, u2, hs2, rfl⟩
      go_wp2_with fail
      refine (HA.out k m2 s2 (by omega) (by omega) (by omega)).mono ?_
      rintro e w1 ⟨x3, m3, s3, rfl, l3, u3, hs3, rfl⟩
      go_wp2_with fail
      refine (HM.out x1 x2 x3 m3 s3 (by omega) (by omega) (by omega) (by omega)).mono ?_
      rintro e w1 ⟨p9, m9, s9, rfl, hp, hs9, rfl⟩
      have hp1 : a ≤ p9 ∧ p9 < a + H := by rcases hp with rfl | rfl | rfl <;> omega
      clear hp
      have c9 := HCC.out m9 s9
      generalize hW9 : CntW w m9 s9 = W9 at *
      have HW9 : Hid (W9 = CntW w m9 s9) := hW9.symm
      clear hW9
      by_cases q0 : s9 = 0
      · have t0 : ((s9 : Int) == 0) = true := by simp; omega
        go_wp2_with fail
        go_ret2
        exact ⟨p9, 1, m9, s9, rfl, by omega, by have := HB.out; omega, by omega, HW9.out⟩
      · have t0 : ((s9 : Int) == 0) = false := by simp; omega
        by_cases q1 : s9 = 12
        · have t1 : ((s9 : Int) == 12) = true := by simp; omega
          go_wp2_with fail
          go_ret2
          exact ⟨p9, 2, m9, s9, rfl, by omega, by have := HB.out; omega, by omega, HW9.out⟩
        · have t1 : ((s9 : Int) == 12) = false := by simp; omega
          go_wp2_with fail
          go_ret2
          exact ⟨p9, 0, m9, s9, rfl, by omega, by have := HB.out; omega, by omega, HW9.out⟩
    · go_wp2_with fail
      rw [← HS.out, HW0.out]
      refine (HM.out i j k 0 0 (by omega) (by omega) (by omega) (by omega)).mono ?_
      rintro e w1 ⟨p9, m9, s9, rfl, hp, hs9, rfl⟩
      have hp1 : a ≤ p9 ∧ p9 < a + H := by rcases hp with rfl | rfl | rfl <;> omega
      clear hp
      have c9 := HCC.out m9 s9
      generalize hW9 : CntW w m9 s9 = W9 at *
      have HW9 : Hid (W9 = CntW w m9 s9) := hW9.symm
      clear hW9
      by_cases q0 : s9 = 0
      · have t0 : ((s9 : Int) == 0) = true := by simp; omega
        go_wp2_with fail
        go_ret2
        exact ⟨p9, 1, m9, s9, rfl, by omega, by have := HB.out; omega, by omega, HW9.out⟩
      · have t0 : ((s9 : Int) == 0) = false := by simp; omega
        by_cases q1 : s9 = 12
        · have t1 : ((s9 : Int) == 12) = true := by simp; omega
          go_wp2_with fail
          go_ret2
          exact ⟨p9, 2, m9, s9, rfl, by omega, by have := HB.out; omega, by omega, HW9.out⟩
        · have t1 : ((s9 : Int) == 12) = false := by simp; omega
          go_wp2_with fail
          go_ret2
          exact ⟨p9, 0, m9, s9, rfl, by omega, by have := HB.out; omega, by omega, HW9.out⟩
  · go_wp2_with fail
    rw [HW0.out]
    go_ret2
    exact ⟨j, 1, 0, 0, rfl, by omega, by have := HB.out; omega, by omega, rfl⟩
end Go.Proofs.YtkdehkkkbfackaaGreatDoor
namespace Go.Proofs.YtkdehkkkbfackaaGreatDoor
open Go Go.RowKit Go.Shelf Go.Sort
theorem bitLen_aux : ∀ (f n : Nat), 0 < n → n < 2 ^ f → 2 ^ (Lib.bitLenAux f n) ≤ 2 * n ∧ Lib.bitLenAux f n ≤ f := by
  intro f
  induction f with
  | zero => intro n h0 h1; simp at h1; omega
  | succ f ih =>
    intro n h0 h1
    rw [Lib.bitLenAux, if_neg (by omega)]
    by_cases h : n / 2 = 0
    · have : Lib.bitLenAux f (n / 2) = 0 := by rw [h]; cases f <;> rfl
      rw [this]; simp; omega
    · obtain ⟨a, b⟩ := ih (n / 2) (by omega) (by rw [Nat.pow_succ] at h1; omega)
      rw [Nat.add_comm 1, Nat.pow_succ]
      omega
theorem bitLen_two {n : Nat} (h : 0 < n) (h2 : n < 4611686018427387904) : 2 ^ (Lib.bitLen n) ≤ 2 * n ∧ Lib.bitLen n ≤ 63 := by
  unfold Lib.bitLen
  have h1 := (bitLen_aux 64 n h (by omega)).1
  refine ⟨h1, ?_⟩
  rcases Nat.lt_or_ge 63 (Lib.bitLenAux 64 n) with q | q
  · have : 2 ^ 64 ≤ 2 ^ Lib.bitLenAux 64 n := Nat.pow_le_pow_right (by omega) q
    omega
  · exact q
set_option maxRecDepth 100000 in
set_option maxHeartbeats 4000000 in
theorem npow_any (H : Nat) (w : World) (h0 : 0 < H) (h1 : H < 4611686018427387904) :
    Calls Tryz.prog 61 #[.int .i64 H] w fun e w' => ∃ M : Nat, e = .returned (.int .u64 (M : Nat)) ∧ 1 ≤ M ∧ M ≤ 2 * H ∧ w' = w := by
  have HB := Lib.hid (bitLen_two h0 h1)
  have hc := fun w => Tryz.bits_Len (H : Int) w (by omega) (by omega)
  rw [Int.toNat_natCast] at hc
  have HC := Lib.hid hc
  clear hc
  obtain ⟨L, hL⟩ : ∃ L, L = Lib.bitLen H := ⟨_, rfl⟩
  rw [← hL] at HB HC
  have hL63 := HB.out.2
  clear hL
  go_enter Tryz.func61, Tryz.ntmps61
  go_wp2_with fail
  refine (HC.out _).mono ?_
  rintro e w1 ⟨rfl, rfl⟩
  go_wp2_with fail
  go_ret
  refine ⟨2 ^ L, ?_, Nat.two_pow_pos _, HB.out.1, rfl⟩
  have hp : 2 ^ L ≤ 2 ^ 63 := Nat.pow_le_pow_right (by omega) hL63
  have e : ((2 : Int) ^ L) = ((2 ^ L : Nat) : Int) := by simp
  have e2 : IntKind.u64.wrap ((2 : Int) ^ L) = ((2 ^ L : Nat) : Int) := by
    rw [e, IntKind.wrap_u64]
    have h64 : 2 ^ L < 18446744073709551616 := by omega
    generalize 2 ^ L = M at *
    clear e
    omega
  show Ending.returned (.int .u64 (IntKind.u64.wrap (2 ^ L))) = _
  rw [e2]
theorem xor_rng (a b : Int) : 0 ≤ bits BinOp.xor IntKind.u64 a b ∧ bits BinOp.xor IntKind.u64 a b ≤ 18446744073709551615 := by
  show 0 ≤ IntKind.u64.wrap _ ∧ IntKind.u64.wrap _ ≤ _
  rw [IntKind.wrap_u64]
  omega
/-- The world with the state of the numbers in a new block. -/
def RndW (w : World) (x : Int) : World := w.alloc (.cells #[.int .u64 x] 111)
theorem rnd_draws (w : World) (x : Int) (n : Nat) : (RndW w x).drewN n = RndW (w.drewN n) x := by
  show Sort.ahead (w.alloc _) n = (Sort.ahead w n).alloc _
  rw [alloc_eq_grow, alloc_eq_grow, ahead_grow]
theorem rnd_set (w : World) (x y : Int) : (RndW w x).setCell ⟨w.heap.size, 0, none⟩ (.int .u64 y) = RndW w y := by
  unfold RndW World.setCell World.alloc
  congr 1
  apply Array.ext_getElem?
  intro k
  show ((w.heap.push _).modify w.heap.size _)[k]? = (w.heap.push _)[k]?
  rw [Array.getElem?_modify, Array.getElem?_push, Array.getElem?_push]
  by_cases h : w.heap.size = k
  · subst h; simp
  · rw [if_neg h]
    have h2 : ¬ k = w.heap.size := fun e => h e.symm
    rw [if_neg h2, if_neg h2]
theorem rnd_cell (w : World) (x : Int) : (RndW w x).cell? ⟨w.heap.size, 0, none⟩ = some (.int .u64 x) := (Blk.new w #[.int .u64 x] 111).cell 0
theorem rnd_frozen (w : World) (x : Int) : (RndW w x).frozen? ⟨w.heap.size, 0, none⟩ = false := by
  have h := World.alloc_heap_new w (.cells #[.int .u64 x] 111)
  unfold RndW World.frozen?
  rw [h]
  simp
set_option maxRecDepth 100000 in
set_option maxHeartbeats 4000000 in
theorem next_any (B : World) (x : Int) (hx : 0 ≤ x ∧ x ≤ 18446744073709551615) :
    Calls Tryz.prog 62 #[.pointer (some ⟨B.heap.size, 0, none⟩)] (RndW B x) fun e w' => ∃ (y : Int) (n : Nat), e = .returned (.int .u64 y) ∧ (0 ≤ y ∧ y ≤ 18446744073709551615) ∧ w' = RndW (B.drewN n) y := by
  have c0 := rnd_cell B x
  have f0 := rnd_frozen B x
  have HD := Lib.hid (fun x n => rnd_draws B x n)
  have HS := Lib.hid (fun n x y => rnd_set (B.drewN n) x y)
  have HC := Lib.hid (fun n x => rnd_cell (B.drewN n) x)
  have HF := Lib.hid (fun n x => rnd_frozen (B.drewN n) x)
  obtain ⟨W, hW⟩ : ∃ W, W = RndW B x := ⟨_, rfl⟩
  rw [← hW] at c0 f0 ⊢
  have HW := Lib.hid hW
  clear hW
  go_enter Tryz.func62, Tryz.ntmps62
  go_upto_region 1 with fail
  go_region
  all_goals go_upto_region 2 with fail
  have HX1 := Lib.hid (xor_rng x (IntKind.u64.wrap (x * 8192)))
  generalize bits BinOp.xor IntKind.u64 x (IntKind.u64.wrap (x * 8192)) = y1 at *
  have HW1 : Hid ((W.setCell ⟨B.heap.size, 0, none⟩ (.int .u64 y1)).drew = RndW (B.drewN 1) y1) := by
    show (W.setCell ⟨B.heap.size, 0, none⟩ (.int .u64 y1)).drewN 1 = _
    rw [HW.out, rnd_set, rnd_draws]
  generalize hw1 : (W.setCell ⟨B.heap.size, 0, none⟩ (.int .u64 y1)).drew = W1 at *
  have c1 : W1.cell? ⟨B.heap.size, 0, none⟩ = some (.int .u64 y1) := by rw [HW1.out]; exact rnd_cell (B.drewN 1) y1
  have f1 : W1.frozen? ⟨B.heap.size, 0, none⟩ = false := by rw [HW1.out]; exact rnd_frozen (B.drewN 1) y1
  clear hw1 c0 f0 HW
  go_region
  all_goals go_upto_region 3 with fail
  have HX2 := Lib.hid (xor_rng y1 (y1 / 128))
  generalize bits BinOp.xor IntKind.u64 y1 (y1 / 128) = y2 at *
  have HW2 : Hid ((W1.setCell ⟨B.heap.size, 0, none⟩ (.int .u64 y2)).drew = RndW (B.drewN 2) y2) := by
    show (W1.setCell ⟨B.heap.size, 0, none⟩ (.int .u64 y2)).drewN 1 = _
    rw [HW1.out]
    have := rnd_set (B.drewN 1) y1 y2
    rw [show (B.drewN 1).heap.size = B.heap.size from rfl] at this
    rw [this, rnd_draws]
    rfl
  generalize hw2 : (W1.setCell ⟨B.heap.size, 0, none⟩ (.int .u64 y2)).drew = W2 at *
  have c2 : W2.cell? ⟨B.heap.size, 0, none⟩ = some (.int .u64 y2) := by rw [HW2.out]; exact rnd_cell (B.drewN 2) y2
  have f2 : W2.frozen? ⟨B.heap.size, 0, none⟩ = false := by rw [HW2.out]; exact rnd_frozen (B.drewN 2) y2
  clear hw2 c1 f1 HW1
  go_region
  all_goals go_upto_region 4 with fail
  have HX3 := Lib.hid (xor_rng y2 (IntKind.u64.wrap (y2 * 131072)))
  generalize bits BinOp.xor IntKind.u64 y2 (IntKind.u64.wrap (y2 * 131072)) = y3 at *
  have HW3 : Hid ((W2.setCell ⟨B.heap.size, 0, none⟩ (.int .u64 y3)).drew = RndW (B.drewN 3) y3) := by
    show (W2.setCell ⟨B.heap.size, 0, none⟩ (.int .u64 y3)).drewN 1 = _
    rw [HW2.out]
    have := rnd_set (B.drewN 2) y2 y3
    rw [show (B.drewN 2).heap.size = B.heap.size from rfl] at this
    rw [this, rnd_draws]
    rfl
  generalize hw3 : (W2.setCell ⟨B.heap.size, 0, none⟩ (.int .u64 y3)).drew = W3 at *
  have c3 : W3.cell? ⟨B.heap.size, 0, none⟩ = some (.int .u64 y3) := by rw [HW3.out]; exact rnd_cell (B.drewN 3) y3
  clear hw3 c2 f2 HW2
  go_wp2_with fail
  go_ret
  exact ⟨y3, 3, rfl, HX3.out, HW3.out⟩
/-- What is left of a number behind a mask. -/
theorem and_rng {y : Int} {M : Nat} (hM : 1 ≤ M) (hM2 : M ≤ 9223372036854775808) : 0 ≤ bits BinOp.and IntKind.u64 y ((M : Int) - 1) ∧ bits BinOp.and IntKind.u64 y ((M : Int) - 1) < M := by
  show 0 ≤ IntKind.u64.wrap ((BitVec.ofInt 64 y &&& BitVec.ofInt 64 ((M : Int) - 1)).toNat : Int) ∧ IntKind.u64.wrap ((BitVec.ofInt 64 y &&& BitVec.ofInt 64 ((M : Int) - 1)).toNat : Int) < _
  rw [BitVec.toNat_and]
  have e : (BitVec.ofInt 64 ((M : Int) - 1)).toNat = M - 1 := by
    rw [show (M : Int) - 1 = ((M - 1 : Nat) : Int) by omega, BitVec.ofInt_natCast, BitVec.toNat_ofNat]
    exact Nat.mod_eq_of_lt (by omega)
  rw [e]
  have h : (BitVec.ofInt 64 y).toNat &&& (M - 1) ≤ M - 1 := Nat.and_le_right
  generalize (BitVec.ofInt 64 y).toNat &&& (M - 1) = z at *
  rw [IntKind.wrap_u64]
  omega
/-- The row turned, the numbers' state in a block behind it. -/
def BrkW (w : World) (blk off m : Nat) (d : Array Nat) (x : Int) : World := RndW (putRow encN (Sort.ahead w m) blk off d) x
theorem brk_to {w : World} {blk off m : Nat} {d : Array Nat} {x : Int} : RowTo w (BrkW w blk off m d x) blk off d :=
  ⟨m, #[.cells #[.int .u64 x] 111], alloc_eq_grow _ _⟩
theorem brk_size (w : World) (blk off m : Nat) (d : Array Nat) : (putRow encN (Sort.ahead w m) blk off d).heap.size = w.heap.size := by rw [size_putRow]; rfl
theorem brk_draws (w : World) (blk off m : Nat) (d : Array Nat) (x : Int) (n : Nat) : (BrkW w blk off m d x).drewN n = BrkW w blk off (m + n) d x := by
  unfold BrkW
  rw [rnd_draws, draws_put rfl]
theorem brk_swap {w : World} {blk off m i j : Nat} {d : Array Nat} {x : Int} (hb : blk < w.heap.size) (hi : i < d.size) (hj : j < d.size) :
    ((BrkW w blk off m d x).setCell ⟨blk, off + i, none⟩ (encN d[j]!)).setCell ⟨blk, off + j, none⟩ (encN d[i]!) = BrkW w blk off m (swp d i j) x := by
  unfold BrkW RndW
  rw [alloc_eq_grow, alloc_eq_grow, setCell_eq, setCell_eq, mapBlock_grow _ _ _ _ (by rw [brk_size]; exact hb), mapBlock_grow _ _ _ _ (by simp only [mapBlock, Array.size_modify]; rw [brk_size]; exact hb)]
  congr 1
  rw [← setCell_eq, ← setCell_eq]
  exact putRow_swp encN _ blk off d i j hi hj
set_option maxRecDepth 100000 in
set_option maxHeartbeats 8000000 in
theorem brkU_any (blk off len cap a b : Nat) (d : Array Nat) (hlen : d.size = len) (w : World) (hH : Holds encN w blk off d) (hbw : blk < w.heap.size) (hab : a < b) (hb : b ≤ len) (hsz : len < 4611686018427387904) :
    Calls Tryz.prog 88 #[.slice (some ⟨blk, off, none⟩) len cap, .int .i64 a, .int .i64 b] w fun e w' =>
      e = .returned (.tuple #[]) ∧ ∃ d', PermIn a b d d' ∧ RowTo w w' blk off d' := by
  have HH := Lib.hid hH
  have HS : Hid (w = putRow encN (Sort.ahead w 0) blk off d) := (putRow_self encN w blk off d hH).symm
  have HLN := Lib.hid hlen
  have HBW := Lib.hid hbw
  clear hH hlen hbw
  obtain ⟨H, hHd⟩ : ∃ H, H = b - a := ⟨_, rfl⟩
  have ecast : (b : Int) - (a : Int) = (H : Int) := by omega
  obtain ⟨q, hq⟩ : ∃ q, q = H / 4 := ⟨_, rfl⟩
  have e4 : (H : Int).tdiv 4 = (q : Int) := by rw [hq]; rfl
  have HB : Hid (b = a + H) := by show _ = _; omega
  have hqb : 4 * q ≤ H := by omega
  have hq2 : H < 4 * q + 4 := by omega
  have hHl : a + H ≤ len := by omega
  have HN := Lib.hid (fun w h0 => npow_any H w h0 (by omega))
  clear hHd hq
  by_cases h8 : 8 ≤ H
  · go_enter Tryz.func88, Tryz.ntmps88
    go_wp2_with fail
    refine (HN.out _ (by omega)).mono ?_
    rintro e w1 ⟨M, rfl, hM1, hM2, rfl⟩
    have HW0 : Hid (w.alloc (.cells #[.int .u64 (H : Int)] 111) = BrkW w blk off 0 d (H : Int)) := by
      show RndW w (H : Int) = RndW _ _
      rw [← HS.out]
    have HNX : Hid (∀ (m : Nat) (dk : Array Nat) (y : Int), (0 ≤ y ∧ y ≤ 18446744073709551615) → Calls Tryz.prog 62 #[.pointer (some ⟨w.heap.size, 0, none⟩)] (BrkW w blk off m dk y) fun e w' => ∃ (y' : Int) (m' : Nat), e = .returned (.int .u64 y') ∧ (0 ≤ y' ∧ y' ≤ 18446744073709551615) ∧ w' = BrkW w blk off m' dk y') := fun m dk y hy => by
      have h := next_any (putRow encN (Sort.ahead w m) blk off dk) y hy
      rw [brk_size] at h
      refine h.mono ?_
      rintro e w' ⟨y', n, he, hr, hw'⟩
      refine ⟨y', m + n, he, hr, ?_⟩
      rw [hw', draws_put rfl]
      rfl
    have hM3 : (M : Int) - 1 ≤ 18446744073709551615 := by omega
    rw [HW0.out]
    go_wp2_with fail
    go_loopw [9, 10] (fun x _ wr => ∃ (i m : Nat) (dk : Array Nat) (y : Int), x = .int .i64 i ∧ a + q * 2 - 1 ≤ i ∧ i ≤ a + q * 2 + 2 ∧ Hid (PermIn a b d dk) ∧ (0 ≤ y ∧ y ≤ 18446744073709551615) ∧ Hid (wr = BrkW w blk off m dk y)) (fun x _ _ => a + q * 2 + 2 - (intOf x).toNat)
    case atStart => exact ⟨a + q * 2 - 1, 0, d, (H : Int), by congr 1; omega, Nat.le_refl _, by omega, permIn_refl _ _ _, by omega, rfl⟩
    case round =>
      obtain ⟨i, m, dk, y, rfl, hi1, hi2, HP, hy, HW⟩ := hrel
      have hsk : Hid (dk.size = len) := by show _ = _; rw [HP.out.1, HLN.out]
      by_cases hlt : i ≤ a + q * 2 + 1
      · have hlt' : (i : Int) ≤ (a : Int) + (q : Int) * 2 + 1 := by omega
        have HC := Lib.hid (HNX.out m dk y hy)
        rw [← HW.out] at HC
        go_wp2_with fail
        refine HC.out.mono ?_
        rintro e W3 ⟨y3, m3, rfl, hy3, hw3⟩
        have HW3 := Lib.hid hw3
        have HY3 := Lib.hid hy3
        have HZ := Lib.hid (and_rng (y := y3) (M := M) hM1 (by omega))
        obtain ⟨z, hz⟩ : ∃ z, z = bits BinOp.and IntKind.u64 y3 ((M : Int) - 1) := ⟨_, rfl⟩
        obtain ⟨zn, hzn⟩ : ∃ zn : Nat, z = (zn : Int) := ⟨z.toNat, by have := HZ.out; omega⟩
        have hzz : bits BinOp.and IntKind.u64 y3 ((M : Int) - 1) = (zn : Int) := by omega
        rw [hzz] at HZ
        have hzM : zn < M := by have := HZ.out; omega
        obtain ⟨G, HG, hcw0, hfw0⟩ := row_fam (brk_to.holds HH.out (show dk.size = d.size by rw [hsk.out, HLN.out]) HBW.out : Holds encN (BrkW w blk off m3 dk y3) blk off dk)
        rw [← hw3] at hcw0 hfw0
        have hcw : ∀ t, t < len → W3.cell? ⟨blk, off + t, none⟩ = some (.int .u64 (G t : Int)) := fun t ht => hcw0 t (by rw [hsk.out]; exact ht)
        have hfw : ∀ t, t < len → W3.frozen? ⟨blk, off + t, none⟩ = false := fun t ht => hfw0 t (by rw [hsk.out]; exact ht)
        clear hcw0 hfw0 hw3 hz hzn HC HW hy3 hy
        by_cases hzH : H ≤ zn
        · obtain ⟨o, ho⟩ : ∃ o, o = zn - H := ⟨_, rfl⟩
          have eo2 : (zn : Int) - (H : Int) = (o : Int) := by omega
          have hoH : o < H := by omega
          have hzH' : (H : Int) ≤ (zn : Int) := by omega
          clear ho
          rcases Nat.lt_trichotomy i (a + o) with hio | hio | hio
          ·
            go_wp2_with fail
            go_region
            all_goals go_wp2_with fail
            have HW4 : Hid (((W3.setCell ⟨blk, off + i, none⟩ (.int .u64 (G (a + o) : Int))).setCell ⟨blk, off + (a + o), none⟩ (.int .u64 (G i : Int))).drew = BrkW w blk off (m3 + 1) (swp dk i (a + o)) y3) := by
              show ((W3.setCell ⟨blk, off + i, none⟩ (.int .u64 (G (a + o) : Int))).setCell ⟨blk, off + (a + o), none⟩ (.int .u64 (G i : Int))).drewN 1 = _
              simp only [HG.out]
              rw [HW3.out]
              have := brk_swap (w := w) (blk := blk) (off := off) (m := m3) (i := i) (j := a + o) (d := dk) (x := y3) HBW.out (by rw [hsk.out]; omega) (by rw [hsk.out]; omega)
              unfold encN at this
              rw [this, brk_draws]
            go_roundw
            case rel => exact ⟨i + 1, m3 + 1, swp dk i (a + o), y3, by go_num, by omega, by omega, permIn_trans _ _ _ _ _ HP.out (swp_permIn dk a b i (a + o) (by omega) (by have := HB.out; omega) (by omega) (by have := HB.out; omega) (by rw [hsk.out]; omega)), HY3.out, HW4⟩
            case measure => simp [intOf]; omega
          ·
            have hoi : o = i - a := by omega
            have eo : (a : Int) + (o : Int) = (i : Int) := by omega
            clear hoi hio
            go_wp2_with fail
            go_region
            all_goals go_wp2_with fail
            have HW4 : Hid (((W3.setCell ⟨blk, off + i, none⟩ (.int .u64 (G (i) : Int))).setCell ⟨blk, off + (i), none⟩ (.int .u64 (G i : Int))).drew = BrkW w blk off (m3 + 1) (swp dk i (i)) y3) := by
              show ((W3.setCell ⟨blk, off + i, none⟩ (.int .u64 (G (i) : Int))).setCell ⟨blk, off + (i), none⟩ (.int .u64 (G i : Int))).drewN 1 = _
              simp only [HG.out]
              rw [HW3.out]
              have := brk_swap (w := w) (blk := blk) (off := off) (m := m3) (i := i) (j := i) (d := dk) (x := y3) HBW.out (by rw [hsk.out]; omega) (by rw [hsk.out]; omega)
              unfold encN at this
              rw [this, brk_draws]
            go_roundw
            case rel => exact ⟨i + 1, m3 + 1, swp dk i (i), y3, by go_num, by omega, by omega, permIn_trans _ _ _ _ _ HP.out (swp_permIn dk a b i (i) (by omega) (by have := HB.out; omega) (by omega) (by have := HB.out; omega) (by rw [hsk.out]; omega)), HY3.out, HW4⟩
            case measure => simp [intOf]; omega
          ·
            go_wp2_with fail
            go_region
            all_goals go_wp2_with fail
            have HW4 : Hid (((W3.setCell ⟨blk, off + i, none⟩ (.int .u64 (G (a + o) : Int))).setCell ⟨blk, off + (a + o), none⟩ (.int .u64 (G i : Int))).drew = BrkW w blk off (m3 + 1) (swp dk i (a + o)) y3) := by
              show ((W3.setCell ⟨blk, off + i, none⟩ (.int .u64 (G (a + o) : Int))).setCell ⟨blk, off + (a + o), none⟩ (.int .u64 (G i : Int))).drewN 1 = _
              simp only [HG.out]
              rw [HW3.out]
              have := brk_swap (w := w) (blk := blk) (off := off) (m := m3) (i := i) (j := a + o) (d := dk) (x := y3) HBW.out (by rw [hsk.out]; omega) (by rw [hsk.out]; omega)
              unfold encN at this
              rw [this, brk_draws]
            go_roundw
            case rel => exact ⟨i + 1, m3 + 1, swp dk i (a + o), y3, by go_num, by omega, by omega, permIn_trans _ _ _ _ _ HP.out (swp_permIn dk a b i (a + o) (by omega) (by have := HB.out; omega) (by omega) (by have := HB.out; omega) (by rw [hsk.out]; omega)), HY3.out, HW4⟩
            case measure => simp [intOf]; omega
        · have hzH' : ¬ ((H : Int) ≤ (zn : Int)) := by omega
          obtain ⟨o, ho⟩ : ∃ o, o = zn := ⟨_, rfl⟩
          rw [← ho] at hzz hzH' hzM
          have hoH : o < H := by omega
          clear ho
          rcases Nat.lt_trichotomy i (a + o) with hio | hio | hio
          ·
            go_wp2_with fail
            go_region
            all_goals go_wp2_with fail
            have HW4 : Hid (((W3.setCell ⟨blk, off + i, none⟩ (.int .u64 (G (a + o) : Int))).setCell ⟨blk, off + (a + o), none⟩ (.int .u64 (G i : Int))).drew = BrkW w blk off (m3 + 1) (swp dk i (a + o)) y3) := by
              show ((W3.setCell ⟨blk, off + i, none⟩ (.int .u64 (G (a + o) : Int))).setCell ⟨blk, off + (a + o), none⟩ (.int .u64 (G i : Int))).drewN 1 = _
              simp only [HG.out]
              rw [HW3.out]
              have := brk_swap (w := w) (blk := blk) (off := off) (m := m3) (i := i) (j := a + o) (d := dk) (x := y3) HBW.out (by rw [hsk.out]; omega) (by rw [hsk.out]; omega)
              unfold encN at this
              rw [this, brk_draws]
            go_roundw
            case rel => exact ⟨i + 1, m3 + 1, swp dk i (a + o), y3, by go_num, by omega, by omega, permIn_trans _ _ _ _ _ HP.out (swp_permIn dk a b i (a + o) (by omega) (by have := HB.out; omega) (by omega) (by have := HB.out; omega) (by rw [hsk.out]; omega)), HY3.out, HW4⟩
            case measure => simp [intOf]; omega
          ·
            have hoi : o = i - a := by omega
            have eo : (a : Int) + (o : Int) = (i : Int) := by omega
            clear hoi hio
            go_wp2_with fail
            go_region
            all_goals go_wp2_with fail
            have HW4 : Hid (((W3.setCell ⟨blk, off + i, none⟩ (.int .u64 (G (i) : Int))).setCell ⟨blk, off + (i), none⟩ (.int .u64 (G i : Int))).drew = BrkW w blk off (m3 + 1) (swp dk i (i)) y3) := by
              show ((W3.setCell ⟨blk, off + i, none⟩ (.int .u64 (G (i) : Int))).setCell ⟨blk, off + (i), none⟩ (.int .u64 (G i : Int))).drewN 1 = _
              simp only [HG.out]
              rw [HW3.out]
              have := brk_swap (w := w) (blk := blk) (off := off) (m := m3) (i := i) (j := i) (d := dk) (x := y3) HBW.out (by rw [hsk.out]; omega) (by rw [hsk.out]; omega)
              unfold encN at this
              rw [this, brk_draws]
            go_roundw
            case rel => exact ⟨i + 1, m3 + 1, swp dk i (i), y3, by go_num, by omega, by omega, permIn_trans _ _ _ _ _ HP.out (swp_permIn dk a b i (i) (by omega) (by have := HB.out; omega) (by omega) (by have := HB.out; omega) (by rw [hsk.out]; omega)), HY3.out, HW4⟩
            case measure => simp [intOf]; omega
          ·
            go_wp2_with fail
            go_region
            all_goals go_wp2_with fail
            have HW4 : Hid (((W3.setCell ⟨blk, off + i, none⟩ (.int .u64 (G (a + o) : Int))).setCell ⟨blk, off + (a + o), none⟩ (.int .u64 (G i : Int))).drew = BrkW w blk off (m3 + 1) (swp dk i (a + o)) y3) := by
              show ((W3.setCell ⟨blk, off + i, none⟩ (.int .u64 (G (a + o) : Int))).setCell ⟨blk, off + (a + o), none⟩ (.int .u64 (G i : Int))).drewN 1 = _
              simp only [HG.out]
              rw [HW3.out]
              have := brk_swap (w := w) (blk := blk) (off := off) (m := m3) (i := i) (j := a + o) (d := dk) (x := y3) HBW.out (by rw [hsk.out]; omega) (by rw [hsk.out]; omega)
              unfold encN at this
              rw [this, brk_draws]
            go_roundw
            case rel => exact ⟨i + 1, m3 + 1, swp dk i (a + o), y3, by go_num, by omega, by omega, permIn_trans _ _ _ _ _ HP.out (swp_permIn dk a b i (a + o) (by omega) (by have := HB.out; omega) (by omega) (by have := HB.out; omega) (by rw [hsk.out]; omega)), HY3.out, HW4⟩
            case measure => simp [intOf]; omega
      · have hlt' : ¬ ((i : Int) ≤ (a : Int) + (q : Int) * 2 + 1) := by omega
        go_wp2_with fail
        go_end0
        exact ⟨rfl, dk, HP.out, by rw [HW.out]; exact brk_to⟩
  · go_enter Tryz.func88, Tryz.ntmps88
    go_wp2_with fail
    go_end0
    exact ⟨rfl, d, permIn_refl _ _ _, RowTo.of_put HS.out⟩
end Go.Proofs.YtkdehkkkbfackaaGreatDoor
