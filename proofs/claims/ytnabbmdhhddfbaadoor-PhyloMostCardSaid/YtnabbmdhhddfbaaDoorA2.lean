/- tree: letters, names; maps of the call's own with strings as keys; tree.Check at every list of nodes. -/
import Derived.Test.YtnabbmdhhddfbaaDoorA1
import Derived.Test.YtnabbmdhhddfbaaDoorProg
import Derived.Maps.OwnOps
import Derived.Maps.OwnSet
import Derived.Maps.Views
import Derived.Carry
import Derived.StringKeys
namespace Go.Proofs.YtnabbmdhhddfbaaDoor
open Go.RowKit
/-- A byte that may be in a name. -/
def ltrI (n : Int) : Bool := decide (97 ≤ n ∧ n ≤ 122 ∨ 65 ≤ n ∧ n ≤ 90 ∨ 48 ≤ n ∧ n ≤ 57 ∨ n = 45)
set_option maxHeartbeats 4000000 in
theorem letter_any (n : Int) (w : World) (h0 : 0 ≤ n) (h1 : n ≤ 255) : Calls Tryd.prog 87 #[.int .u8 n] w fun e w' => e = .returned (.bool (ltrI n)) ∧ w' = w := by
  obtain ⟨r, hr⟩ : ∃ r, r = ltrI n := ⟨_, rfl⟩
  have HR : Hid (r = decide (97 ≤ n ∧ n ≤ 122 ∨ 65 ≤ n ∧ n ≤ 90 ∨ 48 ≤ n ∧ n ≤ 57 ∨ n = 45)) := hr
  rw [← hr]
  clear hr
  by_cases H : 97 ≤ n ∧ n ≤ 122 ∨ 65 ≤ n ∧ n ≤ 90 ∨ 48 ≤ n ∧ n ≤ 57 ∨ n = 45
  · have HV : Hid (r = true) := by show _ = _; rw [HR.out]; exact decide_eq_true H
    by_cases a7 : n = 45
    · have b1 : ¬ 97 ≤ n := by omega
      have b2 : ¬ 65 ≤ n := by omega
      have b3 : ¬ 48 ≤ n := by omega
      have b4 : (n == 45) = true := by simp [a7]
      first
        | omega
        | (clear a7 H
           go_enter Tryd.func87, Tryd.ntmps87
           go_wp2
           go_ret
           exact ⟨ret_b (by rw [HV.out]; try simp [*]), rfl⟩)
    · have b4 : (n == 45) = false := by simp [a7]
      by_cases a1 : 97 ≤ n <;> by_cases a2 : n ≤ 122 <;> by_cases a3 : 65 ≤ n <;> by_cases a4 : n ≤ 90 <;> by_cases a5 : 48 ≤ n <;> by_cases a6 : n ≤ 57
      all_goals first
        | omega
        | (clear a7 H
           go_enter Tryd.func87, Tryd.ntmps87
           go_wp2
           go_ret
           exact ⟨ret_b (by rw [HV.out]; try simp [*]), rfl⟩)
  · have HV : Hid (r = false) := by show _ = _; rw [HR.out]; exact decide_eq_false H
    by_cases a7 : n = 45
    · have b1 : ¬ 97 ≤ n := by omega
      have b2 : ¬ 65 ≤ n := by omega
      have b3 : ¬ 48 ≤ n := by omega
      have b4 : (n == 45) = true := by simp [a7]
      first
        | omega
        | (clear a7 H
           go_enter Tryd.func87, Tryd.ntmps87
           go_wp2
           go_ret
           exact ⟨ret_b (by rw [HV.out]; try simp [*]), rfl⟩)
    · have b4 : (n == 45) = false := by simp [a7]
      by_cases a1 : 97 ≤ n <;> by_cases a2 : n ≤ 122 <;> by_cases a3 : 65 ≤ n <;> by_cases a4 : n ≤ 90 <;> by_cases a5 : 48 ≤ n <;> by_cases a6 : n ≤ 57
      all_goals first
        | omega
        | (clear a7 H
           go_enter Tryd.func87, Tryd.ntmps87
           go_wp2
           go_ret
           exact ⟨ret_b (by rw [HV.out]; try simp [*]), rfl⟩)
/-- A name: 1 to 24 letters. -/
def nmB (s : ByteArray) : Bool := (s.data.toList.all fun c => ltrI c.toNat) && decide (0 < s.size) && decide (s.size ≤ 24)
set_option maxHeartbeats 1000000 in
theorem named_any (s : ByteArray) (w : World) (hs : s.size ≤ 9223372036854775807) : Calls Tryd.prog 77 #[.string s] w fun e w' => e = .returned (.bool (nmB s)) ∧ w' = w := by
  go_enter Tryd.func77, Tryd.ntmps77
  go_wp2_with fail
  go_loopw [6, 3] (fun x _ wr => ∃ k : Nat, k ≤ s.size ∧ x = .int .i64 k ∧ Hid ((s.data.toList.take k).all (fun c => ltrI c.toNat) = true) ∧ wr = w) (fun x _ _ => s.size - (intOf x).toNat)
  case atStart => exact ⟨0, by omega, rfl, rfl, rfl⟩
  case round =>
    obtain ⟨k, hk, rfl, hal, rfl⟩ := hrel
    by_cases hlt : k < s.size
    · have hts : s.data.toList.take (k + 1) = s.data.toList.take k ++ [s[k]] := by
        rw [List.take_succ_eq_append_getElem (by simpa using hlt)]; rfl
      have HNX : Hid ((s.data.toList.take (k + 1)).all (fun c => ltrI c.toNat) = ((s.data.toList.take k).all (fun c => ltrI c.toNat) && ltrI s[k].toNat)) := by
        show _ = _
        rw [hts, List.all_append]; simp
      have HNO : Hid (ltrI s[k].toNat = false → nmB s = false) := fun h => by
        have : s.data.toList.all (fun c => ltrI c.toNat) = false := by
          rw [List.all_eq_false]
          exact ⟨s[k], by exact Array.mem_toList_iff.2 (Array.getElem_mem _), by rw [h]; simp⟩
        rw [nmB, this]; rfl
      clear hts
      have hc0 : (0 : Int) ≤ (s[k].toNat : Int) := by omega
      have hc1 : (s[k].toNat : Int) ≤ 255 := by have := s[k].toNat_lt; omega
      go_wp2_with fail
      refine (letter_any _ _ hc0 hc1).mono ?_
      rintro e w' ⟨rfl, rfl⟩
      rcases Bool.eq_false_or_eq_true (ltrI s[k].toNat) with hp | hp
      · have HP := Lib.hid hp
        rw [hp]
        clear hp
        go_wp2_with fail
        go_roundw
        case rel => exact ⟨k + 1, by omega, by go_num, by show _ = _; rw [HNX.out, hal.out, HP.out]; rfl, by trivial⟩
        case measure => simp [intOf]; omega
      · have HP := Lib.hid hp
        rw [hp]
        clear hp
        go_wp2_with fail
        go_ret
        exact ⟨ret_b (HNO.out HP.out).symm, rfl⟩
    · have e : k = s.size := by omega
      have hfin : Hid (nmB s = (decide (0 < s.size) && decide (s.size ≤ 24))) := by
        have h1 := hal.out
        rw [e, List.take_of_length_le (by simp)] at h1
        show _ = _
        rw [nmB, h1]; rfl
      clear hal
      by_cases b1 : 0 < s.size
      · have b1' : decide (0 < s.size) = true := by simpa using b1
        go_wp2_with fail
        go_ret
        exact ⟨ret_b (by rw [hfin.out, b1']; simp; omega), rfl⟩
      · have b1' : decide (0 < s.size) = false := by simpa using b1
        go_wp2_with fail
        go_ret
        exact ⟨ret_b (by rw [hfin.out, b1']; simp), rfl⟩
end Go.Proofs.YtnabbmdhhddfbaaDoor
namespace Go.Proofs.YtnabbmdhhddfbaaDoor
open Go.RowKit Go.Maps
theorem law9 : Keyed Tryd.prog 9 := string_keyed Tryd.underlying9
theorem strLit_inj {s t : ByteArray} : (Lit.string s.data.toList) = Lit.string t.data.toList ↔ s = t := by
  constructor
  · intro h
    injection h with h
    exact ByteArray.ext (by rw [← Array.toList_inj]; exact h)
  · intro h; rw [h]
/-- A map's content, changed at one key. -/
def updS {α : Type} (F : ByteArray → α) (s : ByteArray) (v : α) : ByteArray → α := fun t => if t = s then v else F t
/-- Block b is a map from strings to numbers (to bools) that reads as F. -/
def MI (w : World) (b n : Nat) (F : ByteArray → Int) : Prop := ∃ D : DataW Unit, w.ownsMap Tryd.prog 9 (plainElem Tryd.prog 3) b n D ∧ ∀ s : ByteArray, D.atKey (.string s.data.toList) (.lit (.int .i64 0)) = .lit (.int .i64 (F s))
def MB (w : World) (b n : Nat) (F : ByteArray → Bool) : Prop := ∃ D : DataW Unit, w.ownsMap Tryd.prog 9 (plainElem Tryd.prog 4) b n D ∧ ∀ s : ByteArray, D.atKey (.string s.data.toList) (.lit (.bool false)) = .lit (.bool (F s))
theorem MI.made (w : World) : MI (w.alloc (.map #[] 0)) w.heap.size 0 (fun _ => 0) := ⟨_, World.ownsMap_made w _ _ _, fun _ => rfl⟩
theorem MB.made (w : World) : MB (w.alloc (.map #[] 0)) w.heap.size 0 (fun _ => false) := ⟨_, World.ownsMap_made w _ _ _, fun _ => rfl⟩
theorem MI.kept {w w' : World} {b n : Nat} {F : ByteArray → Int} {row : Option Nat} (h : MI w b n F) (hg : w.grownBy w' row) (hne : some b ≠ row) : MI w' b n F := let ⟨D, h1, h2⟩ := h; ⟨D, h1.kept hg hne, h2⟩
theorem MB.kept {w w' : World} {b n : Nat} {F : ByteArray → Bool} {row : Option Nat} (h : MB w b n F) (hg : w.grownBy w' row) (hne : some b ≠ row) : MB w' b n F := let ⟨D, h1, h2⟩ := h; ⟨D, h1.kept hg hne, h2⟩
theorem MI.alloc {w : World} {b n : Nat} {F : ByteArray → Int} (h : MI w b n F) (o : Obj) : MI (w.alloc o) b n F := let ⟨D, h1, h2⟩ := h; ⟨D, h1.alloc o, h2⟩
theorem MB.alloc {w : World} {b n : Nat} {F : ByteArray → Bool} (h : MB w b n F) (o : Obj) : MB (w.alloc o) b n F := let ⟨D, h1, h2⟩ := h; ⟨D, h1.alloc o, h2⟩
theorem MI.lt {w : World} {b n : Nat} {F : ByteArray → Int} (h : MI w b n F) : b < w.heap.size := let ⟨_, h1, _⟩ := h; h1.lt
theorem MB.lt {w : World} {b n : Nat} {F : ByteArray → Bool} (h : MB w b n F) : b < w.heap.size := let ⟨_, h1, _⟩ := h; h1.lt
theorem MI.bl {w w' : World} {b n : Nat} {F : ByteArray → Int} (h : MI w b n F) (hb : Below w.heap.size w w') : MI w' b n F := by
  obtain ⟨D, ⟨es, clock, h1, h2⟩, h3⟩ := h
  exact ⟨D, ⟨es, clock, (hb.block b (Array.getElem?_eq_some_iff.1 h1).1).trans h1, h2⟩, h3⟩
theorem MB.bl {w w' : World} {b n : Nat} {F : ByteArray → Bool} (h : MB w b n F) (hb : Below w.heap.size w w') : MB w' b n F := by
  obtain ⟨D, ⟨es, clock, h1, h2⟩, h3⟩ := h
  exact ⟨D, ⟨es, clock, (hb.block b (Array.getElem?_eq_some_iff.1 h1).1).trans h1, h2⟩, h3⟩
theorem plainElem_bool_inv {H : Type} {P : Program} {e : TypeId} (he : P.underlying e = some .bool) {v : Value} {z : DataW H × List MemPlace} (h : plainElem P e v = some z) : ∃ x, v = .bool x ∧ z = (.lit (.bool x), []) := by
  unfold plainElem at h
  rw [he] at h
  cases v <;> simp at h
  exact ⟨_, rfl, h.symm⟩
theorem zero3 (w : World) : (zeroValue 3).run Tryd.prog w = .ok (.int .i64 0) w := by kernel_rfl
theorem zero4 (w : World) : (zeroValue 4).run Tryd.prog w = .ok (.bool false) w := by kernel_rfl
theorem MI.look {w : World} {b n t : Nat} {F : ByteArray → Int} (h : MI w b n F) (ht : Tryd.prog.underlying t = some (.map 9 3)) (s : ByteArray) (hs : s.size ≤ maxLen) : (Instr.lookup t (.map (some b)) (.string s) false).run Tryd.prog w = .ok (.int .i64 (F s)) w := by
  obtain ⟨D, h1, h2⟩ := h
  obtain ⟨c, hrun, hat, _⟩ := h1.lookup_int law9 ht Tryd.underlying3 (zero3 w) (Go.WideMaps.keyOf_string_mk Tryd.underlying9 hs)
  have e := (h2 s).symm.trans hat
  simp only [DataW.lit.injEq, Lit.int.injEq, true_and] at e
  rw [e]; exact hrun
theorem MB.look {w : World} {b n t : Nat} {F : ByteArray → Bool} (h : MB w b n F) (ht : Tryd.prog.underlying t = some (.map 9 4)) (s : ByteArray) (hs : s.size ≤ maxLen) : (Instr.lookup t (.map (some b)) (.string s) false).run Tryd.prog w = .ok (.bool (F s)) w := by
  obtain ⟨D, h1, h2⟩ := h
  obtain ⟨v, ps, hrun, hv⟩ := h1.lookup law9 ht (zero4 w) (plainElem_bool Tryd.underlying4 false) (Go.WideMaps.keyOf_string_mk Tryd.underlying9 hs)
  obtain ⟨x, rfl, hz⟩ := plainElem_bool_inv Tryd.underlying4 hv
  have e := (h2 s).symm.trans (congrArg Prod.fst hz)
  simp only [DataW.lit.injEq, Lit.bool.injEq] at e
  rw [e]; exact hrun
theorem wpList_putI {w : World} {ops : Array Oper} {rest : List Oper} {o : Oper} {a : Act} {Q : Exit → Act → World → Prop} (hg : o.guard = none) (m x v : Operand) (t : TypeId) (hop : o.op = Op.mapUpdate t m x v) (ht : Tryd.prog.underlying t = some (.map 9 3)) {b n : Nat} {F : ByteArray → Int} (hm : a.eval m = .map (some b)) (h : MI w b n F) (hn : n < 1048576)
    (s : ByteArray) (hx : a.eval x = .string s) (c : Int) (hv : a.eval v = .int .i64 c) (hs : s.size ≤ maxLen) (hc : (Lit.int .i64 c).wf = true) (hK : ∀ w', MI w' b (n + 1) (updS F s c) → w.grownBy w' (some b) → wpList Tryd.prog ops Q rest (a.put o.dst undef) w') : wpList Tryd.prog ops Q (o :: rest) a w := by
  obtain ⟨D, h1, h2⟩ := h
  have hkey := Go.WideMaps.keyOf_string_mk (P := Tryd.prog) Tryd.underlying9 hs
  refine wpList_mapUpdate_own w hg m x v t hop 9 3 law9 ht _ b n D hm h1 (by unfold maxLen; omega) _ _ _ hx hv hkey _ [] (plainElem_int Tryd.underlying3 hc) fun w' h3 h4 => hK w' ⟨_, h3, fun r => ?_⟩ h4
  unfold updS
  by_cases e : r = s
  · subst e; rw [if_pos rfl]; exact atKey_put_same h1.isMap (law9.key hkey) _ _
  · rw [if_neg e, atKey_put_other (fun e2 => e (strLit_inj.1 e2))]; exact h2 r
theorem wpList_putB {w : World} {ops : Array Oper} {rest : List Oper} {o : Oper} {a : Act} {Q : Exit → Act → World → Prop} (hg : o.guard = none) (m x v : Operand) (t : TypeId) (hop : o.op = Op.mapUpdate t m x v) (ht : Tryd.prog.underlying t = some (.map 9 4)) {b n : Nat} {F : ByteArray → Bool} (hm : a.eval m = .map (some b)) (h : MB w b n F) (hn : n < 1048576)
    (s : ByteArray) (hx : a.eval x = .string s) (c : Bool) (hv : a.eval v = .bool c) (hs : s.size ≤ maxLen) (hK : ∀ w', MB w' b (n + 1) (updS F s c) → w.grownBy w' (some b) → wpList Tryd.prog ops Q rest (a.put o.dst undef) w') : wpList Tryd.prog ops Q (o :: rest) a w := by
  obtain ⟨D, h1, h2⟩ := h
  have hkey := Go.WideMaps.keyOf_string_mk (P := Tryd.prog) Tryd.underlying9 hs
  refine wpList_mapUpdate_own w hg m x v t hop 9 4 law9 ht _ b n D hm h1 (by unfold maxLen; omega) _ _ _ hx hv hkey _ [] (plainElem_bool Tryd.underlying4 c) fun w' h3 h4 => hK w' ⟨_, h3, fun r => ?_⟩ h4
  unfold updS
  by_cases e : r = s
  · subst e; rw [if_pos rfl]; exact atKey_put_same h1.isMap (law9.key hkey) _ _
  · rw [if_neg e, atKey_put_other (fun e2 => e (strLit_inj.1 e2))]; exact h2 r
end Go.Proofs.YtnabbmdhhddfbaaDoor
namespace Go.Proofs.YtnabbmdhhddfbaaDoor
open Go.RowKit Go.Maps
/-- The names of the first k nodes. -/
def seenB (t : List Nd) (k : Nat) (s : ByteArray) : Bool := (List.range k).any fun u => decide (nS t u = s)
theorem seenB_next (t : List Nd) (k : Nat) : updS (seenB t k) (nS t k) true = seenB t (k + 1) := by
  funext s
  unfold updS seenB
  rw [List.range_succ, List.any_append]
  by_cases e : s = nS t k
  · subst e; simp
  · have e2 : ¬ nS t k = s := fun h => e h.symm
    simp [e, e2]
/-- Node v is valid. -/
def NodeOk (t : List Nd) (v : Nat) : Prop := nP t v < v ∧ (if v = 0 then -1 else 0) ≤ nP t v ∧ nmB (nS t v) = true ∧ seenB t v (nS t v) = false
instance (t : List Nd) (v : Nat) : Decidable (NodeOk t v) := by unfold NodeOk; infer_instance
def TreeOk (t : List Nd) : Prop := 1 ≤ t.length ∧ t.length ≤ 63 ∧ ∀ v, v < t.length → NodeOk t v
instance (t : List Nd) : Decidable (TreeOk t) := by unfold TreeOk; infer_instance
def chkE (t : List Nd) : Int := if TreeOk t then 0 else 16
set_option maxRecDepth 100000 in
set_option maxHeartbeats 2000000 in
theorem check_any (a : Option Addr) (n c : Nat) (t : List Nd) (w : World) (hn : t.length = n) (hN : n ≤ 1152921504606846976) (hA : Rd w a (fl encNd t)) (hS : ∀ v, v < n → (nS t v).size ≤ 9223372036854775807) :
    Calls Tryd.prog 57 #[.slice a n c] w fun e w' => e = .returned (.int .i64 (chkE t)) ∧ Below w.heap.size w w' := by
  have HN := Lib.hid hn
  have HS := Lib.hid hS
  have HBAD : Hid (∀ v, v < n → ¬ NodeOk t v → chkE t = 16) := fun v hv h => if_neg fun h2 => h (h2.2.2 v (by rw [hn]; exact hv))
  clear hS
  by_cases h0 : n = 0
  · have he := Lib.hid (show chkE t = 16 from if_neg (by unfold TreeOk; omega))
    have hb : ((n : Int) == 0) = true := by simp; omega
    clear hn h0
    go_enter Tryd.func57, Tryd.ntmps57
    go_wp2_with fail
    go_ret
    exact ⟨by rw [he.out]; try rfl, Below.refl _ _⟩
  · have hb : ((n : Int) == 0) = false := by simp; omega
    by_cases h1 : 63 < n
    · have he := Lib.hid (show chkE t = 16 from if_neg (by unfold TreeOk; omega))
      clear hn h0
      go_enter Tryd.func57, Tryd.ntmps57
      go_wp2_with fail
      go_ret
      exact ⟨by rw [he.out]; try rfl, Below.refl _ _⟩
    · have hd : decide (63 < n) = false := by simpa using h1
      have hn63 : n ≤ 63 := by omega
      have hn1 : 1 ≤ n := by omega
      have HOK : Hid ((∀ v, v < n → NodeOk t v) → chkE t = 0) := fun h => if_pos ⟨by omega, by omega, fun v hv => h v (by omega)⟩
      have hmm := @run_makeMap Tryd.prog
      clear hn h0 h1
      go_enter Tryd.func57, Tryd.ntmps57
      go_wp2_with fail
      have hm0 : MB (w.alloc (.map #[] 0)) w.heap.size 0 (seenB t 0) := MB.made w
      have hb0 := bl_alloc (Below.refl _ w) (.map #[] 0)
      go_loopw [17, 4, 5] (fun x _ _ wr => ∃ k : Nat, k ≤ n ∧ x = .int .i64 k ∧ Hid (∀ v, v < k → NodeOk t v) ∧ MB wr w.heap.size k (seenB t k) ∧ Below w.heap.size w wr) (fun x _ _ _ => n - (intOf x).toNat)
      case atStart => exact ⟨0, by omega, rfl, fun v h => absurd h (by omega), hm0, hb0⟩
      case round =>
        obtain ⟨k, hk, rfl, hok, hmb, hbl⟩ := hrel
        clear hm0 hb0 hmm
        by_cases hlt : k < n
        · obtain ⟨b, o, rfl, _, hc⟩ := rdNd (hA.bl hbl) (by rw [HN.out]; omega)
          obtain ⟨g0, g1⟩ := hc k (by rw [HN.out]; omega)
          have hlk0 := hmb.lt
          have hsz := HS.out k hlt
          have hno := Lib.hid (HBAD.out k hlt)
          have HND : Hid (NodeOk t k ↔ nP t k < k ∧ (if k = 0 then -1 else 0) ≤ nP t k ∧ nmB (nS t k) = true ∧ seenB t k (nS t k) = false) := Iff.rfl
          have hnx := Lib.hid (seenB_next t k)
          have hnm := fun w' => named_any (nS t k) w' hsz
          have HNM := Lib.hid hnm
          have HLK : Hid (∀ w', MB w' w.heap.size k (seenB t k) → (Instr.lookup 104 (.map (some w.heap.size)) (.string (nS t k)) false).run Tryd.prog w' = .ok (.bool (seenB t k (nS t k))) w') := fun w' h => h.look Tryd.underlying104 _ (by unfold maxLen; omega)
          clear hc hnm
          generalize nP t k = p at *
          obtain ⟨s, hs⟩ : ∃ s, s = nS t k := ⟨_, rfl⟩
          rw [← hs] at g1 hsz HND hnx HNM HLK
          obtain ⟨sb, hsb⟩ : ∃ sb, sb = seenB t k s := ⟨_, rfl⟩
          rw [← hsb] at HND HLK
          have hmb1 := hmb.alloc (.cells #[.int .i64 p, .string s] 60)
          have hlk := HLK.out _ hmb1
          have hbl1 := bl_alloc hbl (.cells #[.int .i64 p, .string s] 60)
          have HSS := Lib.hid hs
          clear hs hsb
          by_cases a1 : (k : Int) ≤ p
          · have he := Lib.hid (hno.out (fun h => by have := (HND.out.1 h).1; omega))
            go_wp2_with fail
            go_ret
            exact ⟨by rw [he.out]; try rfl, hbl1⟩
          · by_cases hk0 : k = 0
            · have hk1 : (k : Int) < 1 := by omega
              have hk2 : (k : Int) - 1 < 0 := by omega
              have HK0 := Lib.hid hk0
              clear hk0
              by_cases a2 : p < (k : Int) - 1
              · have he := Lib.hid (hno.out (fun h => by have := (HND.out.1 h).2.1; rw [if_pos HK0.out] at this; have := HK0.out; omega))
                go_wp2_with fail
                go_ret
                exact ⟨by rw [he.out]; try rfl, hbl1⟩
              · rcases Bool.eq_false_or_eq_true (nmB s) with hp | hp
                · have HP := Lib.hid hp
                  clear hp
                  cases sb with
                  | true =>
                    have he := Lib.hid (hno.out (fun h => by have := (HND.out.1 h).2.2.2; cases this))
                    go_wp2_with (go_at_call 77; refine (HNM.out _).mono ?_; rintro e w' ⟨rfl, rfl⟩; rw [HP.out])
                    go_ret
                    exact ⟨by rw [he.out]; try rfl, hbl1⟩
                  | false =>
                    have hok2 : Hid (∀ v, v < k + 1 → NodeOk t v) := fun v hv => by
                      by_cases e : v = k
                      · rw [e]; exact HND.out.2 ⟨by omega, by rw [if_pos HK0.out]; have := HK0.out; omega, HP.out, rfl⟩
                      · exact hok.out v (by omega)
                    go_wp2_with (first | (go_at_call 77; refine (HNM.out _).mono ?_; rintro e w' ⟨rfl, rfl⟩; rw [HP.out]) | (refine wpList_putB rfl (.tmp 46) (.tmp 48) (.const (.bool true)) 104 rfl Tryd.underlying104 rfl hmb1 (by omega) s rfl true rfl (by unfold maxLen; omega) ?_; intro w8 hm8 hg8))
                    rw [hnx.out] at hm8
                    have hbl8 := Below.grown hbl1 hg8 (by have := hbl1.size; omega) (fun r hr => by rw [← Option.some.inj hr]; exact Nat.le_refl _)
                    go_wp2_with fail
                    go_roundw
                    case rel => exact ⟨k + 1, by omega, by go_num, hok2, hm8, hbl8⟩
                    case measure => simp [intOf]; omega
                · have HP := Lib.hid hp
                  have he := Lib.hid (hno.out (fun h => by have := (HND.out.1 h).2.2.1; rw [hp] at this; cases this))
                  clear hp
                  go_wp2_with (go_at_call 77; refine (HNM.out _).mono ?_; rintro e w' ⟨rfl, rfl⟩; rw [HP.out])
                  go_ret
                  exact ⟨by rw [he.out]; try rfl, hbl1⟩
            · have hk1 : (1 : Int) ≤ k := by omega
              have hk2 : (0 : Int) ≤ (k : Int) - 1 := by omega
              have HK0 := Lib.hid hk0
              clear hk0
              by_cases hk3 : (k : Int) ≤ 1
              all_goals
                by_cases a2 : p < 0
                · have he := Lib.hid (hno.out (fun h => by have := (HND.out.1 h).2.1; rw [if_neg HK0.out] at this; omega))
                  go_wp2_with fail
                  go_ret
                  exact ⟨by rw [he.out]; try rfl, hbl1⟩
                · rcases Bool.eq_false_or_eq_true (nmB s) with hp | hp
                  · have HP := Lib.hid hp
                    clear hp
                    cases sb with
                    | true =>
                      have he := Lib.hid (hno.out (fun h => by have := (HND.out.1 h).2.2.2; cases this))
                      go_wp2_with (go_at_call 77; refine (HNM.out _).mono ?_; rintro e w' ⟨rfl, rfl⟩; rw [HP.out])
                      go_ret
                      exact ⟨by rw [he.out]; try rfl, hbl1⟩
                    | false =>
                      have hok2 : Hid (∀ v, v < k + 1 → NodeOk t v) := fun v hv => by
                        by_cases e : v = k
                        · rw [e]; exact HND.out.2 ⟨by omega, by rw [if_neg HK0.out]; omega, HP.out, rfl⟩
                        · exact hok.out v (by omega)
                      go_wp2_with (first | (go_at_call 77; refine (HNM.out _).mono ?_; rintro e w' ⟨rfl, rfl⟩; rw [HP.out]) | (refine wpList_putB rfl (.tmp 46) (.tmp 48) (.const (.bool true)) 104 rfl Tryd.underlying104 rfl hmb1 (by omega) s rfl true rfl (by unfold maxLen; omega) ?_; intro w8 hm8 hg8))
                      rw [hnx.out] at hm8
                      have hbl8 := Below.grown hbl1 hg8 (by have := hbl1.size; omega) (fun r hr => by rw [← Option.some.inj hr]; exact Nat.le_refl _)
                      go_wp2_with fail
                      go_roundw
                      case rel => exact ⟨k + 1, by omega, by go_num, hok2, hm8, hbl8⟩
                      case measure => simp [intOf]; omega
                  · have HP := Lib.hid hp
                    have he := Lib.hid (hno.out (fun h => by have := (HND.out.1 h).2.2.1; rw [hp] at this; cases this))
                    clear hp
                    go_wp2_with (go_at_call 77; refine (HNM.out _).mono ?_; rintro e w' ⟨rfl, rfl⟩; rw [HP.out])
                    go_ret
                    exact ⟨by rw [he.out]; try rfl, hbl1⟩
        · have : k = n := by omega
          subst this
          have he := Lib.hid (HOK.out hok.out)
          go_wp2_with fail
          go_ret
          exact ⟨by rw [he.out]; try rfl, hbl⟩
end Go.Proofs.YtnabbmdhhddfbaaDoor
