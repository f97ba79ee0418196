/- strconv.Itoa at 0 to 99, by the shelf's contract (written by the kit's tool for this dump). tree: letters, names; glotto.inner. Maps of the call's own with strings as keys: what is asked, what is put. tree.Check at every list of nodes. glotto: the name of a merge or of a language; the example's distances. -/
import Derived.Shelf.Strconv.Itoa0
import Derived.Shelf.Strconv.Itoa1
import Derived.Shelf.Strconv.Itoa2
import Derived.Shelf.Strconv.Itoa3
import Derived.Test.YtahgffjkkdbjeaaDoorProg
import Derived.Test.YtahgffjkkdbjeaaDoorZ8
import Derived.Maps.OwnOps
import Derived.Maps.OwnSet
import Derived.Maps.Views
import Derived.Carry
import Derived.StringKeys
import Derived.Test.YtahgffjkkdbjeaaDoorZ1
import Derived.Test.YtahgffjkkdbjeaaDoorRows
namespace Go.Proofs
open Go.Shelf
def Tryd.lays171_ren : Go.Shelf.Ren := ⟨fun | 171 => 93 | 243 => 102 | 246 => 104 | 283 => 106 | 284 => 107 | 285 => 108 | 286 => 109 | 129 => 111 | 317 => 110 | 318 => 112 | 319 => 113 | 320 => 114 | 337 => 115 | 338 => 116 | n => n, fun | 3 => 3 | 9 => 9 | 2 => 2 | 4 => 4 | 171 => 50 | 0 => 0 | 53 => 149 | 37 => 59 | 5 => 5 | 173 => 158 | 212 => 162 | 51 => 146 | 20 => 20 | 213 => 163 | 46 => 133 | 232 => 166 | 233 => 167 | n => n, fun | 17 => 0 | 18 => 1 | 19 => 2 | n => n⟩
theorem Tryd.lays171 : Go.Proofs.Lays.n171 Tryd.prog Tryd.lays171_ren := {
  mixed := by kernel_rfl
  f129 := Tryd.func111.trans (congrArg some (by kernel_rfl))
  f171 := Tryd.func93.trans (congrArg some (by kernel_rfl))
  f243 := Tryd.func102.trans (congrArg some (by kernel_rfl))
  f246 := Tryd.func104.trans (congrArg some (by kernel_rfl))
  f283 := Tryd.func106.trans (congrArg some (by kernel_rfl))
  f284 := Tryd.func107.trans (congrArg some (by kernel_rfl))
  f285 := Tryd.func108.trans (congrArg some (by kernel_rfl))
  f286 := Tryd.func109.trans (congrArg some (by kernel_rfl))
  f317 := Tryd.func110.trans (congrArg some (by kernel_rfl))
  f318 := Tryd.func112.trans (congrArg some (by kernel_rfl))
  f319 := Tryd.func113.trans (congrArg some (by kernel_rfl))
  f320 := Tryd.func114.trans (congrArg some (by kernel_rfl))
  f337 := Tryd.func115.trans (congrArg some (by kernel_rfl))
  f338 := Tryd.func116.trans (congrArg some (by kernel_rfl))
  t0 := Tryd.underlying0
  a0 := Tryd.isAgg0
  z0 := Tryd.sizeOf0
  v0 := Tryd.zeroValue0
  t2 := Tryd.underlying2
  a2 := Tryd.isAgg2
  z2 := Tryd.sizeOf2
  v2 := Tryd.zeroValue2
  t3 := Tryd.underlying3
  a3 := Tryd.isAgg3
  z3 := Tryd.sizeOf3
  v3 := Tryd.zeroValue3
  t4 := Tryd.underlying4
  a4 := Tryd.isAgg4
  z4 := Tryd.sizeOf4
  v4 := Tryd.zeroValue4
  t5 := Tryd.underlying5
  a5 := Tryd.isAgg5
  z5 := Tryd.sizeOf5
  v5 := Tryd.zeroValue5
  t9 := Tryd.underlying9
  a9 := Tryd.isAgg9
  z9 := Tryd.sizeOf9
  v9 := Tryd.zeroValue9
  t20 := Tryd.underlying20
  a20 := Tryd.isAgg20
  z20 := Tryd.sizeOf20
  v20 := Tryd.zeroValue20
  t37 := Tryd.underlying59
  a37 := Tryd.isAgg59
  z37 := Tryd.sizeOf59
  v37 := Tryd.zeroValue59
  t46 := Tryd.underlying133
  a46 := Tryd.isAgg133
  z46 := Tryd.sizeOf133
  v46 := Tryd.zeroValue133
  t51 := Tryd.underlying146
  a51 := Tryd.isAgg146
  z51 := Tryd.sizeOf146
  v51 := Tryd.zeroValue146
  t53 := Tryd.underlying149
  a53 := Tryd.isAgg149
  z53 := Tryd.sizeOf149
  v53 := Tryd.zeroValue149
  t171 := Tryd.underlying50
  a171 := Tryd.isAgg50
  z171 := Tryd.sizeOf50
  v171 := Tryd.zeroValue50
  t173 := Tryd.underlying158
  a173 := Tryd.isAgg158
  z173 := Tryd.sizeOf158
  v173 := Tryd.zeroValue158
  t212 := Tryd.underlying162
  a212 := Tryd.isAgg162
  z212 := Tryd.sizeOf162
  v212 := Tryd.zeroValue162
  t213 := Tryd.underlying163
  a213 := Tryd.isAgg163
  z213 := Tryd.sizeOf163
  t232 := Tryd.underlying166
  a232 := Tryd.isAgg166
  z232 := Tryd.sizeOf166
  v232 := Tryd.zeroValue166
  t233 := Tryd.underlying167
  a233 := Tryd.isAgg167
  z233 := Tryd.sizeOf167
  v233 := Tryd.zeroValue167
  g17 := by kernel_rfl
  g18 := by kernel_rfl
  g19 := by kernel_rfl }
open Go.RowKit Go.Sort Go.Lib in
theorem Tryd.strconv_Itoa_small (i : Nat) (hi : i < 100) (w : World) :
    Calls Tryd.prog 93 #[.int .i64 i] w fun e w' => e = .returned (.string ⟨(Lib.decDigits i).toArray⟩) ∧ w' = w := Any.strconv_Itoa_small Tryd.lays171 i hi w
end Go.Proofs
namespace Go.Proofs.YtahgffjkkdbjeaaDoor
open Go.RowKit
/-- A byte that may be in a name. -/
def ltrI (n : Int) : Bool := decide (97 ≤ n ∧ n ≤ 122 ∨ 65 ≤ n ∧ n ≤ 90 ∨ 48 ≤ n ∧ n ≤ 57 ∨ n = 45)
set_option maxHeartbeats 4000000 in
theorem letter_any (n : Int) (w : World) (h0 : 0 ≤ n) (h1 : n ≤ 255) : Calls Tryd.prog 95 #[.int .u8 n] w fun e w' => e = .returned (.bool (ltrI n)) ∧ w' = w := by
  obtain ⟨r, hr⟩ : ∃ r, r = ltrI n := ⟨_, rfl⟩
  have HR : Hid (r = decide (97 ≤ n ∧ n ≤ 122 ∨ 65 ≤ n ∧ n ≤ 90 ∨ 48 ≤ n ∧ n ≤ 57 ∨ n = 45)) := hr
  rw [← hr]
  clear hr
  by_cases H : 97 ≤ n ∧ n ≤ 122 ∨ 65 ≤ n ∧ n ≤ 90 ∨ 48 ≤ n ∧ n ≤ 57 ∨ n = 45
  · have HV : Hid (r = true) := by show _ = _; rw [HR.out]; exact decide_eq_true H
    by_cases a7 : n = 45
    · have b1 : ¬ 97 ≤ n := by omega
      have b2 : ¬ 65 ≤ n := by omega
      have b3 : ¬ 48 ≤ n := by omega
      have b4 : (n == 45) = true := by simp [a7]
      first
        | omega
        | (clear a7 H
           go_enter Tryd.func95, Tryd.ntmps95
           go_wp2
           go_ret
           exact ⟨ret_b (by rw [HV.out]; try simp [*]), rfl⟩)
    · have b4 : (n == 45) = false := by simp [a7]
      by_cases a1 : 97 ≤ n <;> by_cases a2 : n ≤ 122 <;> by_cases a3 : 65 ≤ n <;> by_cases a4 : n ≤ 90 <;> by_cases a5 : 48 ≤ n <;> by_cases a6 : n ≤ 57
      all_goals first
        | omega
        | (clear a7 H
           go_enter Tryd.func95, Tryd.ntmps95
           go_wp2
           go_ret
           exact ⟨ret_b (by rw [HV.out]; try simp [*]), rfl⟩)
  · have HV : Hid (r = false) := by show _ = _; rw [HR.out]; exact decide_eq_false H
    by_cases a7 : n = 45
    · have b1 : ¬ 97 ≤ n := by omega
      have b2 : ¬ 65 ≤ n := by omega
      have b3 : ¬ 48 ≤ n := by omega
      have b4 : (n == 45) = true := by simp [a7]
      first
        | omega
        | (clear a7 H
           go_enter Tryd.func95, Tryd.ntmps95
           go_wp2
           go_ret
           exact ⟨ret_b (by rw [HV.out]; try simp [*]), rfl⟩)
    · have b4 : (n == 45) = false := by simp [a7]
      by_cases a1 : 97 ≤ n <;> by_cases a2 : n ≤ 122 <;> by_cases a3 : 65 ≤ n <;> by_cases a4 : n ≤ 90 <;> by_cases a5 : 48 ≤ n <;> by_cases a6 : n ≤ 57
      all_goals first
        | omega
        | (clear a7 H
           go_enter Tryd.func95, Tryd.ntmps95
           go_wp2
           go_ret
           exact ⟨ret_b (by rw [HV.out]; try simp [*]), rfl⟩)
/-- A name: 1 to 24 letters. -/
def nmB (s : ByteArray) : Bool := (s.data.toList.all fun c => ltrI c.toNat) && decide (0 < s.size) && decide (s.size ≤ 24)
def innS (i : Nat) : ByteArray := ⟨(109 :: Lib.decDigits i).toArray⟩
theorem decDigits_len (i : Nat) (h : i < 100) : (Lib.decDigits i).length ≤ 2 := by
  rw [Lib.decDigits]
  split
  · simp
  · rw [Lib.decDigits, dif_pos (by omega)]; simp
set_option maxHeartbeats 1000000 in
theorem inner_any (i : Nat) (w : World) (hi : i < 100) : Calls Tryd.prog 69 #[.int .i64 i] w fun e w' => e = .returned (.string (innS i)) ∧ w' = w := by
  have hl := decDigits_len i hi
  have HE : Hid (innS i = (⟨#[109]⟩ : ByteArray) ++ (⟨(Lib.decDigits i).toArray⟩ : ByteArray)) := by
    show _ = _
    apply ByteArray.ext
    simp [innS, ByteArray.data_append]
  go_enter Tryd.func69, Tryd.ntmps69
  go_wp2_with fail
  refine (Tryd.strconv_Itoa_small i hi _).mono ?_
  rintro e w' ⟨rfl, rfl⟩
  go_wp2_with fail
  go_ret
  exact ⟨by rw [HE.out]; rfl, rfl⟩
set_option maxHeartbeats 1000000 in
theorem named_any (s : ByteArray) (w : World) (hs : s.size ≤ 9223372036854775807) : Calls Tryd.prog 71 #[.string s] w fun e w' => e = .returned (.bool (nmB s)) ∧ w' = w := by
  go_enter Tryd.func71, Tryd.ntmps71
  go_wp2_with fail
  go_loopw [6, 3] (fun x _ wr => ∃ k : Nat, k ≤ s.size ∧ x = .int .i64 k ∧ Hid ((s.data.toList.take k).all (fun c => ltrI c.toNat) = true) ∧ wr = w) (fun x _ _ => s.size - (intOf x).toNat)
  case atStart => exact ⟨0, by omega, rfl, rfl, rfl⟩
  case round =>
    obtain ⟨k, hk, rfl, hal, rfl⟩ := hrel
    by_cases hlt : k < s.size
    · have hts : s.data.toList.take (k + 1) = s.data.toList.take k ++ [s[k]] := by
        rw [List.take_succ_eq_append_getElem (by simpa using hlt)]; rfl
      have HNX : Hid ((s.data.toList.take (k + 1)).all (fun c => ltrI c.toNat) = ((s.data.toList.take k).all (fun c => ltrI c.toNat) && ltrI s[k].toNat)) := by
        show _ = _
        rw [hts, List.all_append]; simp
      have HNO : Hid (ltrI s[k].toNat = false → nmB s = false) := fun h => by
        have : s.data.toList.all (fun c => ltrI c.toNat) = false := by
          rw [List.all_eq_false]
          exact ⟨s[k], by exact Array.mem_toList_iff.2 (Array.getElem_mem _), by rw [h]; simp⟩
        rw [nmB, this]; rfl
      clear hts
      have hc0 : (0 : Int) ≤ (s[k].toNat : Int) := by omega
      have hc1 : (s[k].toNat : Int) ≤ 255 := by have := s[k].toNat_lt; omega
      go_wp2_with fail
      refine (letter_any _ _ hc0 hc1).mono ?_
      rintro e w' ⟨rfl, rfl⟩
      rcases Bool.eq_false_or_eq_true (ltrI s[k].toNat) with hp | hp
      · have HP := Lib.hid hp
        rw [hp]
        clear hp
        go_wp2_with fail
        go_roundw
        case rel => exact ⟨k + 1, by omega, by go_num, by show _ = _; rw [HNX.out, hal.out, HP.out]; rfl, by trivial⟩
        case measure => simp [intOf]; omega
      · have HP := Lib.hid hp
        rw [hp]
        clear hp
        go_wp2_with fail
        go_ret
        exact ⟨ret_b (HNO.out HP.out).symm, rfl⟩
    · have e : k = s.size := by omega
      have hfin : Hid (nmB s = (decide (0 < s.size) && decide (s.size ≤ 24))) := by
        have h1 := hal.out
        rw [e, List.take_of_length_le (by simp)] at h1
        show _ = _
        rw [nmB, h1]; rfl
      clear hal
      by_cases b1 : 0 < s.size
      · have b1' : decide (0 < s.size) = true := by simpa using b1
        go_wp2_with fail
        go_ret
        exact ⟨ret_b (by rw [hfin.out, b1']; simp; omega), rfl⟩
      · have b1' : decide (0 < s.size) = false := by simpa using b1
        go_wp2_with fail
        go_ret
        exact ⟨ret_b (by rw [hfin.out, b1']; simp), rfl⟩
end Go.Proofs.YtahgffjkkdbjeaaDoor
namespace Go.Proofs.YtahgffjkkdbjeaaDoor
open Go.RowKit Go.Maps
theorem law9 : Keyed Tryd.prog 9 := string_keyed Tryd.underlying9
theorem strLit_inj {s t : ByteArray} : (Lit.string s.data.toList) = Lit.string t.data.toList ↔ s = t := by
  constructor
  · intro h
    injection h with h
    exact ByteArray.ext (by rw [← Array.toList_inj]; exact h)
  · intro h; rw [h]
/-- A map's content, changed at one key. -/
def updS {α : Type} (F : ByteArray → α) (s : ByteArray) (v : α) : ByteArray → α := fun t => if t = s then v else F t
/-- Block b is a map from strings to numbers (to bools) that reads as F. -/
def MI (w : World) (b n : Nat) (F : ByteArray → Int) : Prop := ∃ D : DataW Unit, w.ownsMap Tryd.prog 9 (plainElem Tryd.prog 3) b n D ∧ ∀ s : ByteArray, D.atKey (.string s.data.toList) (.lit (.int .i64 0)) = .lit (.int .i64 (F s))
def MB (w : World) (b n : Nat) (F : ByteArray → Bool) : Prop := ∃ D : DataW Unit, w.ownsMap Tryd.prog 9 (plainElem Tryd.prog 4) b n D ∧ ∀ s : ByteArray, D.atKey (.string s.data.toList) (.lit (.bool false)) = .lit (.bool (F s))
theorem MI.made (w : World) : MI (w.alloc (.map #[] 0)) w.heap.size 0 (fun _ => 0) := ⟨_, World.ownsMap_made w _ _ _, fun _ => rfl⟩
theorem MB.made (w : World) : MB (w.alloc (.map #[] 0)) w.heap.size 0 (fun _ => false) := ⟨_, World.ownsMap_made w _ _ _, fun _ => rfl⟩
theorem MI.kept {w w' : World} {b n : Nat} {F : ByteArray → Int} {row : Option Nat} (h : MI w b n F) (hg : w.grownBy w' row) (hne : some b ≠ row) : MI w' b n F := let ⟨D, h1, h2⟩ := h; ⟨D, h1.kept hg hne, h2⟩
theorem MB.kept {w w' : World} {b n : Nat} {F : ByteArray → Bool} {row : Option Nat} (h : MB w b n F) (hg : w.grownBy w' row) (hne : some b ≠ row) : MB w' b n F := let ⟨D, h1, h2⟩ := h; ⟨D, h1.kept hg hne, h2⟩
theorem MI.alloc {w : World} {b n : Nat} {F : ByteArray → Int} (h : MI w b n F) (o : Obj) : MI (w.alloc o) b n F := let ⟨D, h1, h2⟩ := h; ⟨D, h1.alloc o, h2⟩
theorem MB.alloc {w : World} {b n : Nat} {F : ByteArray → Bool} (h : MB w b n F) (o : Obj) : MB (w.alloc o) b n F := let ⟨D, h1, h2⟩ := h; ⟨D, h1.alloc o, h2⟩
theorem MI.lt {w : World} {b n : Nat} {F : ByteArray → Int} (h : MI w b n F) : b < w.heap.size := let ⟨_, h1, _⟩ := h; h1.lt
theorem MB.lt {w : World} {b n : Nat} {F : ByteArray → Bool} (h : MB w b n F) : b < w.heap.size := let ⟨_, h1, _⟩ := h; h1.lt
theorem MI.bl {w w' : World} {b n : Nat} {F : ByteArray → Int} (h : MI w b n F) (hb : Below w.heap.size w w') : MI w' b n F := by
  obtain ⟨D, ⟨es, clock, h1, h2⟩, h3⟩ := h
  exact ⟨D, ⟨es, clock, (hb.block b (Array.getElem?_eq_some_iff.1 h1).1).trans h1, h2⟩, h3⟩
theorem MB.bl {w w' : World} {b n : Nat} {F : ByteArray → Bool} (h : MB w b n F) (hb : Below w.heap.size w w') : MB w' b n F := by
  obtain ⟨D, ⟨es, clock, h1, h2⟩, h3⟩ := h
  exact ⟨D, ⟨es, clock, (hb.block b (Array.getElem?_eq_some_iff.1 h1).1).trans h1, h2⟩, h3⟩
theorem plainElem_bool_inv {H : Type} {P : Program} {e : TypeId} (he : P.underlying e = some .bool) {v : Value} {z : DataW H × List MemPlace} (h : plainElem P e v = some z) : ∃ x, v = .bool x ∧ z = (.lit (.bool x), []) := by
  unfold plainElem at h
  rw [he] at h
  cases v <;> simp at h
  exact ⟨_, rfl, h.symm⟩
theorem zero3 (w : World) : (zeroValue 3).run Tryd.prog w = .ok (.int .i64 0) w := by kernel_rfl
theorem zero4 (w : World) : (zeroValue 4).run Tryd.prog w = .ok (.bool false) w := by kernel_rfl
theorem MI.look {w : World} {b n t : Nat} {F : ByteArray → Int} (h : MI w b n F) (ht : Tryd.prog.underlying t = some (.map 9 3)) (s : ByteArray) (hs : s.size ≤ maxLen) : (Instr.lookup t (.map (some b)) (.string s) false).run Tryd.prog w = .ok (.int .i64 (F s)) w := by
  obtain ⟨D, h1, h2⟩ := h
  obtain ⟨c, hrun, hat, _⟩ := h1.lookup_int law9 ht Tryd.underlying3 (zero3 w) (Go.WideMaps.keyOf_string_mk Tryd.underlying9 hs)
  have e := (h2 s).symm.trans hat
  simp only [DataW.lit.injEq, Lit.int.injEq, true_and] at e
  rw [e]; exact hrun
theorem MB.look {w : World} {b n t : Nat} {F : ByteArray → Bool} (h : MB w b n F) (ht : Tryd.prog.underlying t = some (.map 9 4)) (s : ByteArray) (hs : s.size ≤ maxLen) : (Instr.lookup t (.map (some b)) (.string s) false).run Tryd.prog w = .ok (.bool (F s)) w := by
  obtain ⟨D, h1, h2⟩ := h
  obtain ⟨v, ps, hrun, hv⟩ := h1.lookup law9 ht (zero4 w) (plainElem_bool Tryd.underlying4 false) (Go.WideMaps.keyOf_string_mk Tryd.underlying9 hs)
  obtain ⟨x, rfl, hz⟩ := plainElem_bool_inv Tryd.underlying4 hv
  have e := (h2 s).symm.trans (congrArg Prod.fst hz)
  simp only [DataW.lit.injEq, Lit.bool.injEq] at e
  rw [e]; exact hrun
theorem wpList_putI {w : World} {ops : Array Oper} {rest : List Oper} {o : Oper} {a : Act} {Q : Exit → Act → World → Prop} (hg : o.guard = none) (m x v : Operand) (t : TypeId) (hop : o.op = Op.mapUpdate t m x v) (ht : Tryd.prog.underlying t = some (.map 9 3)) {b n : Nat} {F : ByteArray → Int} (hm : a.eval m = .map (some b)) (h : MI w b n F) (hn : n < 1048576)
    (s : ByteArray) (hx : a.eval x = .string s) (c : Int) (hv : a.eval v = .int .i64 c) (hs : s.size ≤ maxLen) (hc : (Lit.int .i64 c).wf = true) (hK : ∀ w', MI w' b (n + 1) (updS F s c) → w.grownBy w' (some b) → wpList Tryd.prog ops Q rest (a.put o.dst undef) w') : wpList Tryd.prog ops Q (o :: rest) a w := by
  obtain ⟨D, h1, h2⟩ := h
  have hkey := Go.WideMaps.keyOf_string_mk (P := Tryd.prog) Tryd.underlying9 hs
  refine wpList_mapUpdate_own w hg m x v t hop 9 3 law9 ht _ b n D hm h1 (by unfold maxLen; omega) _ _ _ hx hv hkey _ [] (plainElem_int Tryd.underlying3 hc) fun w' h3 h4 => hK w' ⟨_, h3, fun r => ?_⟩ h4
  unfold updS
  by_cases e : r = s
  · subst e; rw [if_pos rfl]; exact atKey_put_same h1.isMap (law9.key hkey) _ _
  · rw [if_neg e, atKey_put_other (fun e2 => e (strLit_inj.1 e2))]; exact h2 r
theorem wpList_putB {w : World} {ops : Array Oper} {rest : List Oper} {o : Oper} {a : Act} {Q : Exit → Act → World → Prop} (hg : o.guard = none) (m x v : Operand) (t : TypeId) (hop : o.op = Op.mapUpdate t m x v) (ht : Tryd.prog.underlying t = some (.map 9 4)) {b n : Nat} {F : ByteArray → Bool} (hm : a.eval m = .map (some b)) (h : MB w b n F) (hn : n < 1048576)
    (s : ByteArray) (hx : a.eval x = .string s) (c : Bool) (hv : a.eval v = .bool c) (hs : s.size ≤ maxLen) (hK : ∀ w', MB w' b (n + 1) (updS F s c) → w.grownBy w' (some b) → wpList Tryd.prog ops Q rest (a.put o.dst undef) w') : wpList Tryd.prog ops Q (o :: rest) a w := by
  obtain ⟨D, h1, h2⟩ := h
  have hkey := Go.WideMaps.keyOf_string_mk (P := Tryd.prog) Tryd.underlying9 hs
  refine wpList_mapUpdate_own w hg m x v t hop 9 4 law9 ht _ b n D hm h1 (by unfold maxLen; omega) _ _ _ hx hv hkey _ [] (plainElem_bool Tryd.underlying4 c) fun w' h3 h4 => hK w' ⟨_, h3, fun r => ?_⟩ h4
  unfold updS
  by_cases e : r = s
  · subst e; rw [if_pos rfl]; exact atKey_put_same h1.isMap (law9.key hkey) _ _
  · rw [if_neg e, atKey_put_other (fun e2 => e (strLit_inj.1 e2))]; exact h2 r
end Go.Proofs.YtahgffjkkdbjeaaDoor
namespace Go.Proofs.YtahgffjkkdbjeaaDoor
open Go.RowKit Go.Maps
/-- The names of the first k nodes. -/
def seenB (t : List Nd) (k : Nat) (s : ByteArray) : Bool := (List.range k).any fun u => decide (nS t u = s)
theorem seenB_next (t : List Nd) (k : Nat) : updS (seenB t k) (nS t k) true = seenB t (k + 1) := by
  funext s
  unfold updS seenB
  rw [List.range_succ, List.any_append]
  by_cases e : s = nS t k
  · subst e; simp
  · have e2 : ¬ nS t k = s := fun h => e h.symm
    simp [e, e2]
/-- Node v is valid. -/
def NodeOk (t : List Nd) (v : Nat) : Prop := nP t v < v ∧ (if v = 0 then -1 else 0) ≤ nP t v ∧ nmB (nS t v) = true ∧ seenB t v (nS t v) = false
instance (t : List Nd) (v : Nat) : Decidable (NodeOk t v) := by unfold NodeOk; infer_instance
def TreeOk (t : List Nd) : Prop := 1 ≤ t.length ∧ t.length ≤ 63 ∧ ∀ v, v < t.length → NodeOk t v
instance (t : List Nd) : Decidable (TreeOk t) := by unfold TreeOk; infer_instance
def chkE (t : List Nd) : Int := if TreeOk t then 0 else 16
set_option maxRecDepth 100000 in
set_option maxHeartbeats 2000000 in
theorem check_any (a : Option Addr) (n c : Nat) (t : List Nd) (w : World) (hn : t.length = n) (hN : n ≤ 1152921504606846976) (hA : Rd w a (fl encNd t)) (hS : ∀ v, v < n → (nS t v).size ≤ 9223372036854775807) :
    Calls Tryd.prog 32 #[.slice a n c] w fun e w' => e = .returned (.int .i64 (chkE t)) ∧ Below w.heap.size w w' := by
  have HN := Lib.hid hn
  have HS := Lib.hid hS
  have HBAD : Hid (∀ v, v < n → ¬ NodeOk t v → chkE t = 16) := fun v hv h => if_neg fun h2 => h (h2.2.2 v (by rw [hn]; exact hv))
  clear hS
  by_cases h0 : n = 0
  · have he := Lib.hid (show chkE t = 16 from if_neg (by unfold TreeOk; omega))
    have hb : ((n : Int) == 0) = true := by simp; omega
    clear hn h0
    go_enter Tryd.func32, Tryd.ntmps32
    go_wp2_with fail
    go_ret
    exact ⟨by rw [he.out]; try rfl, Below.refl _ _⟩
  · have hb : ((n : Int) == 0) = false := by simp; omega
    by_cases h1 : 63 < n
    · have he := Lib.hid (show chkE t = 16 from if_neg (by unfold TreeOk; omega))
      clear hn h0
      go_enter Tryd.func32, Tryd.ntmps32
      go_wp2_with fail
      go_ret
      exact ⟨by rw [he.out]; try rfl, Below.refl _ _⟩
    · have hd : decide (63 < n) = false := by simpa using h1
      have hn63 : n ≤ 63 := by omega
      have hn1 : 1 ≤ n := by omega
      have HOK : Hid ((∀ v, v < n → NodeOk t v) → chkE t = 0) := fun h => if_pos ⟨by omega, by omega, fun v hv => h v (by omega)⟩
      have hmm := @run_makeMap Tryd.prog
      clear hn h0 h1
      go_enter Tryd.func32, Tryd.ntmps32
      go_wp2_with fail
      have hm0 : MB (w.alloc (.map #[] 0)) w.heap.size 0 (seenB t 0) := MB.made w
      have hb0 := bl_alloc (Below.refl _ w) (.map #[] 0)
      go_loopw [17, 4, 5] (fun x _ _ wr => ∃ k : Nat, k ≤ n ∧ x = .int .i64 k ∧ Hid (∀ v, v < k → NodeOk t v) ∧ MB wr w.heap.size k (seenB t k) ∧ Below w.heap.size w wr) (fun x _ _ _ => n - (intOf x).toNat)
      case atStart => exact ⟨0, by omega, rfl, fun v h => absurd h (by omega), hm0, hb0⟩
      case round =>
        obtain ⟨k, hk, rfl, hok, hmb, hbl⟩ := hrel
        clear hm0 hb0 hmm
        by_cases hlt : k < n
        · obtain ⟨b, o, rfl, _, hc⟩ := rdNd (hA.bl hbl) (by rw [HN.out]; omega)
          obtain ⟨g0, g1⟩ := hc k (by rw [HN.out]; omega)
          have hlk0 := hmb.lt
          have hsz := HS.out k hlt
          have hno := Lib.hid (HBAD.out k hlt)
          have HND : Hid (NodeOk t k ↔ nP t k < k ∧ (if k = 0 then -1 else 0) ≤ nP t k ∧ nmB (nS t k) = true ∧ seenB t k (nS t k) = false) := Iff.rfl
          have hnx := Lib.hid (seenB_next t k)
          have hnm := fun w' => named_any (nS t k) w' hsz
          have HNM := Lib.hid hnm
          have HLK : Hid (∀ w', MB w' w.heap.size k (seenB t k) → (Instr.lookup 123 (.map (some w.heap.size)) (.string (nS t k)) false).run Tryd.prog w' = .ok (.bool (seenB t k (nS t k))) w') := fun w' h => h.look Tryd.underlying123 _ (by unfold maxLen; omega)
          clear hc hnm
          generalize nP t k = p at *
          obtain ⟨s, hs⟩ : ∃ s, s = nS t k := ⟨_, rfl⟩
          rw [← hs] at g1 hsz HND hnx HNM HLK
          obtain ⟨sb, hsb⟩ : ∃ sb, sb = seenB t k s := ⟨_, rfl⟩
          rw [← hsb] at HND HLK
          have hmb1 := hmb.alloc (.cells #[.int .i64 p, .string s] 66)
          have hlk := HLK.out _ hmb1
          have hbl1 := bl_alloc hbl (.cells #[.int .i64 p, .string s] 66)
          have HSS := Lib.hid hs
          clear hs hsb
          by_cases a1 : (k : Int) ≤ p
          · have he := Lib.hid (hno.out (fun h => by have := (HND.out.1 h).1; omega))
            go_wp2_with fail
            go_ret
            exact ⟨by rw [he.out]; try rfl, hbl1⟩
          · by_cases hk0 : k = 0
            · have hk1 : (k : Int) < 1 := by omega
              have hk2 : (k : Int) - 1 < 0 := by omega
              have HK0 := Lib.hid hk0
              clear hk0
              by_cases a2 : p < (k : Int) - 1
              · have he := Lib.hid (hno.out (fun h => by have := (HND.out.1 h).2.1; rw [if_pos HK0.out] at this; have := HK0.out; omega))
                go_wp2_with fail
                go_ret
                exact ⟨by rw [he.out]; try rfl, hbl1⟩
              · rcases Bool.eq_false_or_eq_true (nmB s) with hp | hp
                · have HP := Lib.hid hp
                  clear hp
                  cases sb with
                  | true =>
                    have he := Lib.hid (hno.out (fun h => by have := (HND.out.1 h).2.2.2; cases this))
                    go_wp2_with (go_at_call 71; refine (HNM.out _).mono ?_; rintro e w' ⟨rfl, rfl⟩; rw [HP.out])
                    go_ret
                    exact ⟨by rw [he.out]; try rfl, hbl1⟩
                  | false =>
                    have hok2 : Hid (∀ v, v < k + 1 → NodeOk t v) := fun v hv => by
                      by_cases e : v = k
                      · rw [e]; exact HND.out.2 ⟨by omega, by rw [if_pos HK0.out]; have := HK0.out; omega, HP.out, rfl⟩
                      · exact hok.out v (by omega)
                    go_wp2_with (first | (go_at_call 71; refine (HNM.out _).mono ?_; rintro e w' ⟨rfl, rfl⟩; rw [HP.out]) | (refine wpList_putB rfl (.tmp 46) (.tmp 48) (.const (.bool true)) 123 rfl Tryd.underlying123 rfl hmb1 (by omega) s rfl true rfl (by unfold maxLen; omega) ?_; intro w8 hm8 hg8))
                    rw [hnx.out] at hm8
                    have hbl8 := Below.grown hbl1 hg8 (by have := hbl1.size; omega) (fun r hr => by rw [← Option.some.inj hr]; exact Nat.le_refl _)
                    go_wp2_with fail
                    go_roundw
                    case rel => exact ⟨k + 1, by omega, by go_num, hok2, hm8, hbl8⟩
                    case measure => simp [intOf]; omega
                · have HP := Lib.hid hp
                  have he := Lib.hid (hno.out (fun h => by have := (HND.out.1 h).2.2.1; rw [hp] at this; cases this))
                  clear hp
                  go_wp2_with (go_at_call 71; refine (HNM.out _).mono ?_; rintro e w' ⟨rfl, rfl⟩; rw [HP.out])
                  go_ret
                  exact ⟨by rw [he.out]; try rfl, hbl1⟩
            · have hk1 : (1 : Int) ≤ k := by omega
              have hk2 : (0 : Int) ≤ (k : Int) - 1 := by omega
              have HK0 := Lib.hid hk0
              clear hk0
              by_cases a2 : p < 0
              · have he := Lib.hid (hno.out (fun h => by have := (HND.out.1 h).2.1; rw [if_neg HK0.out] at this; omega))
                go_wp2_with fail
                go_ret
                exact ⟨by rw [he.out]; try rfl, hbl1⟩
              · rcases Bool.eq_false_or_eq_true (nmB s) with hp | hp
                · have HP := Lib.hid hp
                  clear hp
                  cases sb with
                  | true =>
                    have he := Lib.hid (hno.out (fun h => by have := (HND.out.1 h).2.2.2; cases this))
                    go_wp2_with (go_at_call 71; refine (HNM.out _).mono ?_; rintro e w' ⟨rfl, rfl⟩; rw [HP.out])
                    go_ret
                    exact ⟨by rw [he.out]; try rfl, hbl1⟩
                  | false =>
                    have hok2 : Hid (∀ v, v < k + 1 → NodeOk t v) := fun v hv => by
                      by_cases e : v = k
                      · rw [e]; exact HND.out.2 ⟨by omega, by rw [if_neg HK0.out]; omega, HP.out, rfl⟩
                      · exact hok.out v (by omega)
                    go_wp2_with (first | (go_at_call 71; refine (HNM.out _).mono ?_; rintro e w' ⟨rfl, rfl⟩; rw [HP.out]) | (refine wpList_putB rfl (.tmp 46) (.tmp 48) (.const (.bool true)) 123 rfl Tryd.underlying123 rfl hmb1 (by omega) s rfl true rfl (by unfold maxLen; omega) ?_; intro w8 hm8 hg8))
                    rw [hnx.out] at hm8
                    have hbl8 := Below.grown hbl1 hg8 (by have := hbl1.size; omega) (fun r hr => by rw [← Option.some.inj hr]; exact Nat.le_refl _)
                    go_wp2_with fail
                    go_roundw
                    case rel => exact ⟨k + 1, by omega, by go_num, hok2, hm8, hbl8⟩
                    case measure => simp [intOf]; omega
                · have HP := Lib.hid hp
                  have he := Lib.hid (hno.out (fun h => by have := (HND.out.1 h).2.2.1; rw [hp] at this; cases this))
                  clear hp
                  go_wp2_with (go_at_call 71; refine (HNM.out _).mono ?_; rintro e w' ⟨rfl, rfl⟩; rw [HP.out])
                  go_ret
                  exact ⟨by rw [he.out]; try rfl, hbl1⟩
        · have : k = n := by omega
          subst this
          have he := Lib.hid (HOK.out hok.out)
          go_wp2_with fail
          go_ret
          exact ⟨by rw [he.out]; try rfl, hbl⟩
end Go.Proofs.YtahgffjkkdbjeaaDoor
namespace Go.Proofs.YtahgffjkkdbjeaaDoor
open Go.RowKit
/-- The name of merge k, or of language -1-k. -/
def nmOf (names : List ByteArray) (k : Int) : ByteArray := if k < 0 then sA names (-1 - k).toNat else innS k.toNat
set_option maxHeartbeats 1000000 in
theorem name_any (PB n c : Nat) (na : Option Addr) (names : List ByteArray) (v1 v2 : Value) (k : Int) (w : World) (hl : names.length = n) (hp : Blk w PB #[.slice na n c, v1, v2] 118) (hA : Rd w na (fl encS names)) (h1 : -1 - (n : Int) < k) (h2 : k < 100) (hn : n ≤ 1152921504606846976) (h3 : k < 0 → -1 - k < n) :
    Calls Tryd.prog 94 #[.pointer (some ⟨PB, 0, none⟩), .int .i64 k] w fun e w' => e = .returned (.string (nmOf names k)) ∧ w' = w := by
  by_cases hk : k < 0
  · have h3 := h3 hk
    have he : Hid (nmOf names k = sA names (-1 - k).toNat) := by show _ = _; rw [nmOf, if_pos hk]
    obtain ⟨b, o, rfl, _, hc⟩ := rdS hA (by omega)
    have g := hc (-1 - k).toNat (by omega)
    have p0 : w.cell? ⟨PB, 0, none⟩ = some (.slice (some ⟨b, o, none⟩) n c) := hp.cell 0
    have i0 : 0 ≤ -1 - k := by omega
    have HL := Lib.hid hl
    clear hc hp hl
    go_enter Tryd.func94, Tryd.ntmps94
    go_wp2_with fail
    go_ret
    exact ⟨by rw [he.out]; try rfl, rfl⟩
  · obtain ⟨j, rfl⟩ : ∃ j : Nat, k = j := ⟨k.toNat, by omega⟩
    have he : Hid (nmOf names j = innS j) := by show _ = _; rw [nmOf, if_neg hk]; rfl
    have HL := Lib.hid hl
    clear hl hk
    go_enter Tryd.func94, Tryd.ntmps94
    go_wp2_with fail
    refine (inner_any j _ (by omega)).mono ?_
    rintro e w' ⟨rfl, rfl⟩
    go_wp2_with fail
    go_ret
    exact ⟨by rw [he.out]; try rfl, rfl⟩
set_option maxHeartbeats 1000000 in
theorem three1_any (x : Int) (w : World) : Calls Tryd.prog 83 #[.int .i64 x] w fun e w' => e = .returned (.agg #[.int .i64 x, .int .i64 1]) ∧ Below w.heap.size w w' := by
  go_enter Tryd.func83, Tryd.ntmps83
  go_wp2_with fail
  refine bodyPost_ret (v := .agg #[.int .i64 x, .int .i64 1]) (by simp [results, Tryd.results83, go_sem]) rfl ⟨rfl, ?_⟩
  exact bl_alloc (Below.refl _ _) _
/-- The distances of the example. -/
def threeL : List Fr := [(0, 1), (2, 1), (6, 1), (2, 1), (0, 1), (8, 1), (6, 1), (8, 1), (0, 1)]
set_option maxHeartbeats 1000000 in
theorem three_any (w : World) : Calls Tryd.prog 47 #[] w fun e w' => ∃ B, e = .returned (.slice (some ⟨B, 0, none⟩) 9 9) ∧ Rd w' (some ⟨B, 0, none⟩) (fl encFr threeL) ∧ Below w.heap.size w w' := by
  go_enter Tryd.func47, Tryd.ntmps47
  go_wp2_with fail
  refine (three1_any 0 _).mono ?_
  rintro e w1 ⟨rfl, hb1⟩
  go_wp2_with fail
  refine (three1_any 2 _).mono ?_
  rintro e w2 ⟨rfl, hb2⟩
  go_wp2_with fail
  refine (three1_any 6 _).mono ?_
  rintro e w3 ⟨rfl, hb3⟩
  go_wp2_with fail
  refine (three1_any 2 _).mono ?_
  rintro e w4 ⟨rfl, hb4⟩
  go_wp2_with fail
  refine (three1_any 0 _).mono ?_
  rintro e w5 ⟨rfl, hb5⟩
  go_wp2_with fail
  refine (three1_any 8 _).mono ?_
  rintro e w6 ⟨rfl, hb6⟩
  go_wp2_with fail
  refine (three1_any 6 _).mono ?_
  rintro e w7 ⟨rfl, hb7⟩
  go_wp2_with fail
  refine (three1_any 8 _).mono ?_
  rintro e w8 ⟨rfl, hb8⟩
  go_wp2_with fail
  refine (three1_any 0 _).mono ?_
  rintro e w9 ⟨rfl, hb9⟩
  have hb := bl_trans (bl_trans (bl_trans (bl_trans (bl_trans (bl_trans (bl_trans (bl_trans hb1 hb2) hb3) hb4) hb5) hb6) hb7) hb8) hb9
  go_wp2_with fail
  go_ret
  refine ⟨w9.heap.size, rfl, ?_, bl_alloc hb _⟩
  have hk := Blk.new w9 (fl encFr threeL).toArray 40
  intro _
  refine ⟨w9.heap.size, 0, rfl, hk.lt, fun i hi => ?_⟩
  have h2 := hk.cell i
  rw [Nat.zero_add]
  refine Eq.trans h2 ?_
  simp only [List.getElem?_toArray]
  rw [List.getElem?_eq_getElem hi, List.getD_eq_getElem?_getD, List.getElem?_eq_getElem hi]
  rfl
end Go.Proofs.YtahgffjkkdbjeaaDoor
