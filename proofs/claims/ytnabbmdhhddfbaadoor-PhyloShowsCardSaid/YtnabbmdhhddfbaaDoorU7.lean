/- The document's tree: node, at a node of a tree. The document's tree: the set of a node. The document's tree: common nodes and ways, plain. The document's tree: ways are increasing; the node above, plain. The place of a leaf, plain. The set of a node: its leaves are those whose way it lies on. The document's set of a node is the program's. The document's tree: Path, and whether a node is below another one. What is lost, as the document counts it; plain. The document's Losses at every table and tree. The document's Fits at every table and tree. From a walk to a row: a statement's post; arguments that came in read as tables and trees. -/
import Derived.Test.YtnabbmdhhddfbaaDoorU6
import Derived.Test.YtnabbmdhhddfbaaDoorU5
import Derived.ChangeSame
import Derived.OpenShut
import Derived.ProofKit
import Derived.Deep.Slices
import Derived.Test.YtnabbmdhhddfbaaDoorCards
import Derived.Test.YtnabbmdhhddfbaaDoorTie
import Derived.Deep.DeepHandedRow
import Derived.Lib.LaidTab
import Derived.Lib.SmallJoins
import Derived.Test.YtnabbmdhhddfbaaDoorU1
namespace Go.Proofs.YtnabbmdhhddfbaaDoor
open Go Go.RowKit Go.Shelf
set_option maxHeartbeats 1000000 in
theorem rnode_any (a : Option Addr) (n c v : Nat) (t : List Nd) (w : World) (hn : t.length = n) (hok : TreeOk t) (hv : v < n) (hA : Rd w a (fl encNd t)) (hS : ∀ v, v < n → (nS t v).size ≤ 9223372036854775807) :
    Calls Tryd.prog 74 #[.slice a n c, .int .i64 v] w fun e w' => e = .returned (.int .i64 0) ∧ ∃ m, w' = w.drewN m := by
  have hn63 : n ≤ 63 := by have := hok.2.1; omega
  have HC := Lib.hid (rcheck_any a n c t w hn (by omega) hA hS)
  rw [chkE_good hok] at HC
  have d1 : decide ((v : Int) < 0) = false := decide_eq_false (by omega)
  have d2 : decide ((n : Int) ≤ (v : Int)) = false := decide_eq_false (by omega)
  clear hn hok hA hS
  go_enter Tryd.func74, Tryd.ntmps74
  go_wp2_with fail
  refine HC.out.mono ?_
  rintro e w1 ⟨rfl, m, rfl⟩
  go_wp2_with fail
  go_ret
  exact ⟨rfl, m, rfl⟩
end Go.Proofs.YtnabbmdhhddfbaaDoor
namespace Go.Proofs.YtnabbmdhhddfbaaDoor
open Go Go.RowKit Go.Shelf
/-- The set of v from the first k leaves. -/
def clF (t : List Nd) (n v : Nat) : Nat → Nat
  | 0 => 0
  | k + 1 => if cmN t n (vA (lvT t) k) v = v then clF t n v k ||| 2 ^ k else clF t n v k
theorem clF_lt (t : List Nd) (n v : Nat) : ∀ k, clF t n v k < 2 ^ k := by
  intro k
  induction k with
  | zero => exact Nat.one_pos
  | succ k ih =>
    have h : 2 ^ k < 2 ^ (k + 1) := Nat.pow_lt_pow_right (by omega) (by omega)
    unfold clF
    split
    · exact Nat.or_lt_two_pow (by omega) h
    · omega
set_option maxRecDepth 100000 in
set_option maxHeartbeats 2000000 in
theorem rclade_any (a : Option Addr) (n c v : Nat) (t : List Nd) (w : World) (hn : t.length = n) (hok : TreeOk t) (hv : v < n) (hA : Rd w a (fl encNd t)) (hS : ∀ v, v < n → (nS t v).size ≤ 9223372036854775807) :
    Calls Tryd.prog 52 #[.slice a n c, .int .i64 v] w fun e w' => e = .returned (.tuple #[.int .u64 (clF t n v (lvT t).length : Nat), .int .i64 0]) ∧ Below w.heap.size w w' := by
  have hn63 : n ≤ 63 := by have := hok.2.1; omega
  have HC := Lib.hid (rnode_any a n c v t w hn hok hv hA hS)
  have HL := Lib.hid (fun m => rLeaves_any a n c t (w.drewN m) hn (by omega) (hA.drewN m) hS)
  rw [chkE_good hok] at HL
  have HPP : Hid (∀ v, 0 < v → v < n → 0 ≤ nP t v ∧ nP t v < v) := fun v h1 h2 => tree_par hok v h1 (by rw [hn]; exact h2)
  have HLL : Hid (lvT t = lvsL t n) := by show _ = _; unfold lvT; rw [if_pos (chkE_good hok), hn]
  have HLT : Hid (∀ k, k < (lvT t).length → vA (lvT t) k < n) := fun k hk => by
    rw [HLL.out] at hk ⊢
    rw [vA_get hk]
    exact List.mem_range.1 (List.mem_filter.1 (List.getElem_mem hk)).1
  have hle : (lvT t).length ≤ n := by rw [HLL.out]; exact lvsL_le t n
  have HCN := Lib.hid (fun (x : Nat) (hx : x < n) W (h : Below w.heap.size w W) => rcommon_any a n c t hn (by omega) HPP.out x v hx hv W (hA.bl h))
  have HST : Hid (∀ k, clF t n v (k + 1) = if cmN t n (vA (lvT t) k) v = v then clF t n v k ||| 2 ^ k else clF t n v k) := fun _ => rfl
  have HLTC := Lib.hid (clF_lt t n v)
  obtain ⟨F, hF⟩ : ∃ F, clF t n v = F := ⟨_, rfl⟩
  rw [hF] at HST HLTC ⊢
  obtain ⟨ls, hls⟩ : ∃ x, x = lvT t := ⟨_, rfl⟩
  rw [← hls] at HL HLT hle HST ⊢
  obtain ⟨z, hz⟩ : ∃ x, x = ls.length := ⟨_, rfl⟩
  rw [← hz] at HL HLT hle ⊢
  have HZ := Lib.hid hz
  have HF0 : Hid (F 0 = 0) := by show _ = _; rw [← hF]; rfl
  clear hn hok hA hS hF hls hz HLL HPP
  go_enter Tryd.func52, Tryd.ntmps52
  go_wp2_with fail
  refine HC.out.mono ?_
  rintro e w1 ⟨rfl, m, rfl⟩
  go_wp2_with fail
  refine (HL.out m).mono ?_
  rintro e w2 ⟨x, rfl, ho, hb2⟩
  obtain ⟨A1, c1, rfl, _⟩ := owns_slice ho
  have HB2 := Lib.hid (bl_trans (bl_drewN (Below.refl w.heap.size w) m) hb2)
  have HR := Lib.hid (rd_of_owns ho)
  clear ho hb2 HC HL
  go_wp2_with fail
  go_loopw [10, 9] (fun x u wr => ∃ k : Nat, k ≤ z ∧ x = .int .i64 k ∧ u = .int .u64 (F k : Nat) ∧ Hid (Below w2.heap.size w2 wr)) (fun x _ _ => z - (intOf x).toNat)
  case atStart => exact ⟨0, by omega, rfl, by rw [HF0.out]; rfl, Below.refl _ _⟩
  case round =>
    obtain ⟨k, hk, rfl, rfl, hbl⟩ := hrel
    by_cases hlt : k < z
    · obtain ⟨b1, o1, rfl, _, hc1⟩ := rdI (HR.out.bl hbl.out) (by rw [iN_len, ← HZ.out]; omega)
      have G1 := hc1 k (by rw [iN_len, ← HZ.out]; exact hlt)
      rw [iN_get] at G1
      have HK := Lib.hid (HCN.out (vA ls k) (HLT.out k hlt) wr (bl_trans HB2.out hbl.out))
      have HSK := Lib.hid (HST.out k)
      have hfk := HLTC.out k
      have h64 : 2 ^ k < 18446744073709551616 := Nat.pow_lt_pow_right (m := k) (n := 64) (by omega) (by omega)
      clear hc1
      generalize vA ls k = x at *
      obtain ⟨y, hy⟩ : ∃ y, cmN t n x v = y := ⟨_, rfl⟩
      rw [hy] at HK HSK
      clear hy
      go_wp2_with fail
      refine HK.out.mono ?_
      rintro e w3 ⟨rfl, hb3⟩
      have HB3 := Lib.hid (bl_trans hbl.out hb3)
      clear hb3 hbl HK
      by_cases e : y = v
      · have hbo := bits_or (show F k < 18446744073709551616 by omega) h64
        have ew : ((2 : Int) ^ k) = ((2 ^ k : Nat) : Int) := by simp
        have HW : Hid (IntKind.u64.wrap (2 ^ k) = ((2 ^ k : Nat) : Int)) := by show _ = _; rw [ew, w64 _ h64]
        rw [if_pos e] at HSK
        obtain ⟨r, hr⟩ : ∃ r, F k ||| 2 ^ k = r := ⟨_, rfl⟩
        rw [hr] at hbo HSK
        obtain ⟨q, hq⟩ : ∃ q, 2 ^ k = q := ⟨_, rfl⟩
        rw [hq] at hbo HW
        have hw := HW.out
        subst e
        clear hr hq ew h64 hfk
        go_wp2_with fail
        go_roundw
        case rel => exact ⟨k + 1, by omega, by go_num, by rw [HSK.out], HB3⟩
        case measure => simp [intOf]; omega
      · have t1 : ((y : Int) == (v : Int)) = false := by simp; omega
        have t2 : decide ((y : Int) = (v : Int)) = false := by simp; omega
        rw [if_neg e] at HSK
        clear e h64 hfk
        go_wp2_with fail
        go_roundw
        case rel => exact ⟨k + 1, by omega, by go_num, by rw [HSK.out], HB3⟩
        case measure => simp [intOf]; omega
    · obtain rfl : k = z := by omega
      go_wp2_with fail
      exact bodyPost_ret (v := .tuple #[.int .u64 (F k : Nat), .int .i64 0]) (by simp [results, Tryd.results52, go_sem]) rfl ⟨rfl, bl_trans HB2.out hbl.out⟩
end Go.Proofs.YtnabbmdhhddfbaaDoor
namespace Go.Proofs.YtnabbmdhhddfbaaDoor
open Go Go.RowKit Go.Shelf
theorem pth_succ {t : List Nd} {n : Nat} (hP : ∀ v, 0 < v → v < n → 0 ≤ nP t v ∧ nP t v < v) {x : Nat} (h0 : 0 < x) (hx : x < n) : pthF t n x = pthF t n (nP t x).toNat ++ [x] := by
  obtain ⟨m, rfl⟩ : ∃ m, n = m + 1 := ⟨n - 1, by omega⟩
  have h := hP x h0 hx
  have e : pthF t (m + 1) x = pthF t m (nP t x).toNat ++ [x] := by rw [pthF, if_neg (by omega)]
  rw [e, pthF_eq hP m (m + 1) (nP t x).toNat (by omega) (by omega) (by omega)]
theorem pth_zero (t : List Nd) (n : Nat) : pthF t n 0 = [0] := by cases n <;> simp [pthF]
theorem pth_last {t : List Nd} {n : Nat} (hP : ∀ v, 0 < v → v < n → 0 ≤ nP t v ∧ nP t v < v) {x : Nat} (hx : x < n) : vA (pthF t n x) ((pthF t n x).length - 1) = x := by
  by_cases e : x = 0
  · subst e; rw [pth_zero]; rfl
  · rw [pth_succ hP (by omega) hx]; simp [vA]
theorem pth_prefix {t : List Nd} {n : Nat} (hP : ∀ v, 0 < v → v < n → 0 ≤ nP t v ∧ nP t v < v) {v : Nat} : ∀ k x, x ≤ k → x < n → v ∈ pthF t n x → pthF t n v <+: pthF t n x := by
  intro k
  induction k with
  | zero =>
    intro x hk hx hm
    obtain rfl : x = 0 := by omega
    rw [pth_zero, List.mem_singleton] at hm
    subst hm
    exact List.prefix_refl _
  | succ k ih =>
    intro x hk hx hm
    by_cases e : x = 0
    · subst e
      rw [pth_zero, List.mem_singleton] at hm
      subst hm
      exact List.prefix_refl _
    · have hp := hP x (by omega) hx
      have he := pth_succ hP (show 0 < x by omega) hx
      rw [he, List.mem_append] at hm
      rcases hm with hm | hm
      · rw [he]
        exact (ih (nP t x).toNat (by omega) (by omega) hm).trans (List.prefix_append _ _)
      · rw [List.mem_singleton] at hm
        subst hm
        exact List.prefix_refl _
theorem preL_le : ∀ x y : List Nat, preL x y ≤ x.length := by
  intro x
  induction x with
  | nil => intro y; cases y <;> exact Nat.le_refl _
  | cons a x ih =>
    intro y
    cases y with
    | nil => exact Nat.zero_le _
    | cons b y =>
      unfold preL
      split
      · have := ih y; simp; omega
      · omega
/-- The deepest common node of x and v is v exactly if v lies on the way to x. -/
theorem cmN_iff {t : List Nd} {n : Nat} (hP : ∀ v, 0 < v → v < n → 0 ≤ nP t v ∧ nP t v < v) {x v : Nat} (hx : x < n) (hv : v < n) : cmN t n x v = v ↔ v ∈ pthF t n x := by
  obtain ⟨h1, _⟩ := pthF_pos t n x
  obtain ⟨h3, _⟩ := pthF_pos t n v
  constructor
  · intro h
    unfold cmN at h
    have hj : preL (pthF t n x) (pthF t n v) - 1 < (pthF t n x).length := by
      have := preL_le (pthF t n x) (pthF t n v); omega
    rw [vA_get hj] at h
    rw [← h]; exact List.getElem_mem hj
  · intro hm
    obtain ⟨s, hs⟩ := pth_prefix hP x x (Nat.le_refl _) hx hm
    have hat : ∀ i, i < (pthF t n v).length → vA (pthF t n x) i = vA (pthF t n v) i := fun i hi => by
      rw [← hs]
      simp only [vA, List.getD_eq_getElem?_getD]
      rw [List.getElem?_append_left hi]
    have hpe : preL (pthF t n x) (pthF t n v) = (pthF t n v).length :=
      preL_eq _ _ _ (by rw [← hs, List.length_append]; omega) (Nat.le_refl _) hat (.inr (.inl rfl))
    unfold cmN
    rw [hpe, hat _ (by omega), pth_last hP hv]
end Go.Proofs.YtnabbmdhhddfbaaDoor
namespace Go.Proofs.YtnabbmdhhddfbaaDoor
open Go Go.RowKit Go.Shelf
theorem pth_lt {t : List Nd} {n : Nat} (hP : ∀ v, 0 < v → v < n → 0 ≤ nP t v ∧ nP t v < v) : ∀ k x, x ≤ k → x < n → ∀ u, u ∈ pthF t n x → u ≤ x := by
  intro k
  induction k with
  | zero =>
    intro x hk hx u hu
    obtain rfl : x = 0 := by omega
    rw [pth_zero, List.mem_singleton] at hu
    omega
  | succ k ih =>
    intro x hk hx u hu
    by_cases e : x = 0
    · subst e
      rw [pth_zero, List.mem_singleton] at hu
      omega
    · have hp := hP x (by omega) hx
      rw [pth_succ hP (by omega) hx, List.mem_append] at hu
      rcases hu with hu | hu
      · have := ih (nP t x).toNat (by omega) (by omega) u hu; omega
      · rw [List.mem_singleton] at hu; omega
theorem pth_self {t : List Nd} {n : Nat} (hP : ∀ v, 0 < v → v < n → 0 ≤ nP t v ∧ nP t v < v) {x : Nat} (hx : x < n) : x ∈ pthF t n x := by
  by_cases e : x = 0
  · subst e; rw [pth_zero]; simp
  · rw [pth_succ hP (by omega) hx]; simp
/-- Two nodes of one way: the lower one's way has the upper one. -/
theorem pth_chain {t : List Nd} {n : Nat} (hP : ∀ v, 0 < v → v < n → 0 ≤ nP t v ∧ nP t v < v) : ∀ k x, x ≤ k → x < n → ∀ u v, u ∈ pthF t n x → v ∈ pthF t n x → u ≤ v → u ∈ pthF t n v := by
  intro k
  induction k with
  | zero =>
    intro x hk hx u v hu hv _
    obtain rfl : x = 0 := by omega
    rw [pth_zero, List.mem_singleton] at hv
    subst hv; exact hu
  | succ k ih =>
    intro x hk hx u v hu hv huv
    by_cases e : x = 0
    · subst e
      rw [pth_zero, List.mem_singleton] at hv
      subst hv; exact hu
    · have hp := hP x (by omega) hx
      have he := pth_succ hP (show 0 < x by omega) hx
      have hv0 := hv
      have hu0 := hu
      rw [he, List.mem_append] at hv hu
      rcases hv with hv | hv
      · have hvl := pth_lt hP (nP t x).toNat _ (Nat.le_refl _) (by omega) v hv
        rcases hu with hu | hu
        · exact ih (nP t x).toNat (by omega) (by omega) u v hu hv huv
        · rw [List.mem_singleton] at hu; omega
      · rw [List.mem_singleton] at hv
        subst hv; exact hu0
/-- If nothing of the way lies between v and c, v is the node above c. -/
theorem pth_above {t : List Nd} {n : Nat} (hP : ∀ v, 0 < v → v < n → 0 ≤ nP t v ∧ nP t v < v) {x v c : Nat} (hx : x < n) (hv : v ∈ pthF t n x) (hc : c ∈ pthF t n x) (hvc : v < c) (hno : ∀ u, u ∈ pthF t n x → v < u → c ≤ u) : nP t c = v := by
  have hcn : c < n := Nat.lt_of_le_of_lt (pth_lt hP x x (Nat.le_refl _) hx c hc) hx
  have hp := hP c (by omega) hcn
  have h1 := pth_chain hP x x (Nat.le_refl _) hx v c hv hc (by omega)
  have he := pth_succ hP (show 0 < c by omega) hcn
  rw [he, List.mem_append] at h1
  have hpm : (nP t c).toNat ∈ pthF t n x := by
    have h2 := pth_prefix hP x x (Nat.le_refl _) hx hc
    refine h2.subset ?_
    rw [he]
    exact List.mem_append_left _ (pth_self hP (by omega))
  rcases h1 with h1 | h1
  · have h3 := pth_lt hP (nP t c).toNat _ (Nat.le_refl _) (by omega) v h1
    rcases Nat.lt_or_ge v (nP t c).toNat with h4 | h4
    · have := hno _ hpm h4; omega
    · omega
  · rw [List.mem_singleton] at h1; omega
end Go.Proofs.YtnabbmdhhddfbaaDoor
namespace Go.Proofs.YtnabbmdhhddfbaaDoor
open Go Go.RowKit Go.Shelf
theorem lvs_at (t : List Nd) : ∀ n k, k < (lvsL t n).length → vA (lvsL t n) k < n ∧ leafB t (vA (lvsL t n) k) = true ∧ (lvsL t (vA (lvsL t n) k)).length = k := by
  intro n
  induction n with
  | zero => intro k hk; simp [lvsL] at hk
  | succ n ih =>
    intro k hk
    rw [lvsL_snoc] at hk ⊢
    by_cases q : k < (lvsL t n).length
    · have e : ∀ m : List Nat, vA (lvsL t n ++ m) k = vA (lvsL t n) k := fun m => by
        simp only [vA, List.getD_eq_getElem?_getD]; rw [List.getElem?_append_left q]
      rw [e]
      obtain ⟨h1, h2, h3⟩ := ih k q
      exact ⟨by omega, h2, h3⟩
    · by_cases p : leafB t n = true
      · rw [if_pos p] at hk ⊢
        rw [List.length_append, List.length_singleton] at hk
        obtain rfl : k = (lvsL t n).length := by omega
        have e : vA (lvsL t n ++ [n]) (lvsL t n).length = n := by simp [vA]
        rw [e]
        exact ⟨by omega, p, rfl⟩
      · rw [if_neg p, List.append_nil] at hk
        exact absurd hk q
/-- The bits of what a node begins with. -/
theorem botS_bit (t : List Nd) {n k v : Nat} (hk : k < (lvsL t n).length) : (botS t v).testBit k = true ↔ vA (lvsL t n) k = v ∨ (leafB t v = true ∧ (lvsL t v).length = k ∧ vA (lvsL t n) k ≠ v) := by
  obtain ⟨h1, h2, h3⟩ := lvs_at t n k hk
  unfold botS
  by_cases p : leafB t v = true
  · rw [if_pos p, Nat.testBit_two_pow]
    simp only [decide_eq_true_eq]
    constructor
    · intro h
      by_cases e : vA (lvsL t n) k = v
      · exact .inl e
      · exact .inr ⟨p, h, e⟩
    · rintro (h | ⟨_, h, _⟩)
      · rw [← h]; exact h3
      · exact h
  · rw [if_neg p]
    simp only [Nat.zero_testBit]
    constructor
    · intro h; cases h
    · rintro (h | ⟨h, _⟩)
      · rw [h] at h2; exact absurd h2 p
      · exact absurd h p
end Go.Proofs.YtnabbmdhhddfbaaDoor
namespace Go.Proofs.YtnabbmdhhddfbaaDoor
open Go Go.RowKit Go.Shelf
theorem lvs_inj {t : List Nd} {u v : Nat} (hu : leafB t u = true) (hv : leafB t v = true) (h : (lvsL t u).length = (lvsL t v).length) : u = v := by
  have key : ∀ a b, a < b → leafB t a = true → (lvsL t a).length < (lvsL t b).length := fun a b hab ha => by
    have h1 := lvsL_snoc t a
    rw [if_pos ha] at h1
    have h2 := lvsL_mono t (show a + 1 ≤ b from hab)
    rw [h1, List.length_append, List.length_singleton] at h2
    omega
  rcases Nat.lt_trichotomy u v with q | q | q
  · have := key u v q hu; omega
  · exact q
  · have := key v u q hv; omega
theorem botS_iff (t : List Nd) {n k v : Nat} (hk : k < (lvsL t n).length) : (botS t v).testBit k = true ↔ vA (lvsL t n) k = v := by
  rw [botS_bit t hk]
  obtain ⟨_, h2, h3⟩ := lvs_at t n k hk
  constructor
  · rintro (h | ⟨hl, hlen, hne⟩)
    · exact h
    · exact absurd (lvs_inj h2 hl (by rw [h3, hlen])) hne
  · exact .inl
theorem upS_bit {t : List Nd} {n k : Nat} (hn : t.length = n) (hP : ∀ v, 0 < v → v < n → 0 ≤ nP t v ∧ nP t v < v) (h0 : nP t 0 < 0) (hk : k < (lvsL t n).length) : ∀ j v, j + 1 ≤ n → v < n →
    ((upS t j v).testBit k = true ↔ v ∈ pthF t n (vA (lvsL t n) k) ∧ ∀ u, u ∈ pthF t n (vA (lvsL t n) k) → v < u → n - j ≤ u) := by
  have hx := (lvs_at t n k hk).1
  have hb : ∀ v, (botS t v).testBit k = true ↔ vA (lvsL t n) k = v := fun v => botS_iff t hk
  generalize vA (lvsL t n) k = x at *
  intro j
  induction j with
  | zero =>
    intro v _ hv
    show (botS t v).testBit k = true ↔ _
    rw [hb]
    constructor
    · rintro rfl
      refine ⟨pth_self hP hx, fun u hu hlt => ?_⟩
      have := pth_lt hP x x (Nat.le_refl _) hx u hu; omega
    · rintro ⟨h1, h2⟩
      have h3 := pth_lt hP x x (Nat.le_refl _) hx v h1
      rcases Nat.lt_or_ge v x with h4 | h4
      · have := h2 x (pth_self hP hx) h4; omega
      · omega
  | succ j ih =>
    intro v hj hv
    obtain ⟨c, hc⟩ : ∃ c, c = n - 1 - j := ⟨_, rfl⟩
    have hc0 : 0 < c := by omega
    have hcn : c < n := by omega
    have hups : upS t (j + 1) v = if nP t c = (v : Int) then upS t j v ||| upS t j c else upS t j v := by rw [upS, hn, hc]
    have ec : n - (j + 1) = c := by omega
    have ej : n - j = c + 1 := by omega
    rw [hups, ec]
    clear hups
    have hv1 := ih v (by omega) hv
    have hc1 := ih c (by omega) hcn
    rw [ej] at hv1 hc1
    by_cases e : nP t c = (v : Int)
    · rw [if_pos e, Nat.testBit_or, Bool.or_eq_true, hv1, hc1]
      have hpc := hP c hc0 hcn
      constructor
      · rintro (⟨h1, h2⟩ | ⟨h1, h2⟩)
        · exact ⟨h1, fun u hu hlt => by have := h2 u hu hlt; omega⟩
        · have hvx : v ∈ pthF t n x := by
            refine (pth_prefix hP x x (Nat.le_refl _) hx h1).subset ?_
            rw [pth_succ hP hc0 hcn, e]
            exact List.mem_append_left _ (by rw [Int.toNat_natCast]; exact pth_self hP hv)
          refine ⟨hvx, fun u hu hlt => ?_⟩
          rcases Nat.lt_or_ge u c with h4 | h4
          · have h5 := pth_chain hP x x (Nat.le_refl _) hx u c hu h1 (by omega)
            rw [pth_succ hP hc0 hcn, e, Int.toNat_natCast, List.mem_append] at h5
            rcases h5 with h5 | h5
            · have := pth_lt hP v v (Nat.le_refl _) hv u h5; omega
            · rw [List.mem_singleton] at h5; omega
          · exact h4
      · rintro ⟨h1, h2⟩
        by_cases hcx : c ∈ pthF t n x
        · exact .inr ⟨hcx, fun u hu hlt => hlt⟩
        · exact .inl ⟨h1, fun u hu hlt => by
            have h3 := h2 u hu hlt
            rcases Nat.lt_or_ge c u with h4 | h4
            · exact h4
            · obtain rfl : u = c := by omega
              exact absurd hu hcx⟩
    · rw [if_neg e, hv1]
      constructor
      · rintro ⟨h1, h2⟩
        exact ⟨h1, fun u hu hlt => by have := h2 u hu hlt; omega⟩
      · rintro ⟨h1, h2⟩
        refine ⟨h1, fun u hu hlt => ?_⟩
        have h3 := h2 u hu hlt
        rcases Nat.lt_or_ge c u with h4 | h4
        · exact h4
        · obtain rfl : u = c := by omega
          exact absurd (pth_above hP hx h1 hu hlt h2) e
theorem cl_bit {t : List Nd} {n k v : Nat} (hn : t.length = n) (hP : ∀ v, 0 < v → v < n → 0 ≤ nP t v ∧ nP t v < v) (h0 : nP t 0 < 0) (hk : k < (lvsL t n).length) (hv : v < n) : (cl t v).testBit k = true ↔ v ∈ pthF t n (vA (lvsL t n) k) := by
  unfold cl
  rw [hn, upS_bit hn hP h0 hk (n - 1) v (by omega) hv]
  exact ⟨fun h => h.1, fun h => ⟨h, fun u _ hlt => by omega⟩⟩
theorem clF_bit (t : List Nd) (n v k : Nat) : ∀ m, (clF t n v m).testBit k = true ↔ k < m ∧ cmN t n (vA (lvT t) k) v = v := by
  intro m
  induction m with
  | zero => simp [clF]
  | succ m ih =>
    unfold clF
    by_cases q : cmN t n (vA (lvT t) m) v = v
    · rw [if_pos q, Nat.testBit_or, Bool.or_eq_true, ih, Nat.testBit_two_pow]
      simp only [decide_eq_true_eq]
      constructor
      · rintro (⟨h1, h2⟩ | h)
        · exact ⟨by omega, h2⟩
        · subst h; exact ⟨by omega, q⟩
      · rintro ⟨h1, h2⟩
        rcases Nat.lt_or_ge k m with h3 | h3
        · exact .inl ⟨h3, h2⟩
        · exact .inr (by omega)
    · rw [if_neg q, ih]
      constructor
      · rintro ⟨h1, h2⟩; exact ⟨by omega, h2⟩
      · rintro ⟨h1, h2⟩
        refine ⟨?_, h2⟩
        rcases Nat.lt_or_ge k m with h3 | h3
        · exact h3
        · obtain rfl : k = m := by omega
          exact absurd h2 q
end Go.Proofs.YtnabbmdhhddfbaaDoor
namespace Go.Proofs.YtnabbmdhhddfbaaDoor
open Go Go.RowKit Go.Shelf
theorem clF_cl {t : List Nd} {n v : Nat} (hn : t.length = n) (hok : TreeOk t) (hv : v < n) : clF t n v (lvT t).length = cl t v := by
  have hP : ∀ v, 0 < v → v < n → 0 ≤ nP t v ∧ nP t v < v := fun v h1 h2 => tree_par hok v h1 (by rw [hn]; exact h2)
  have h0 : nP t 0 < 0 := (hok.2.2 0 (by have := hok.1; omega)).1
  have hL : lvT t = lvsL t n := by unfold lvT; rw [if_pos (chkE_good hok), hn]
  apply Nat.eq_of_testBit_eq
  intro k
  by_cases hk : k < (lvsL t n).length
  · rw [Bool.eq_iff_iff, clF_bit, cl_bit hn hP h0 hk hv, hL]
    have hx := (lvs_at t n k hk).1
    rw [cmN_iff hP hx hv]
    exact ⟨fun h => h.2, fun h => ⟨hk, h⟩⟩
  · have hp : 2 ^ (lvsL t n).length ≤ 2 ^ k := Nat.pow_le_pow_right (by omega) (by omega)
    have h1 := clF_lt t n v (lvT t).length
    rw [hL] at h1 ⊢
    have h2 := cl_lt (t := t) (n := (lvsL t n).length) (by rw [hn]; exact Nat.le_refl _) v (by rw [hn]; exact hv)
    rw [Nat.testBit_lt_two_pow (by omega), Nat.testBit_lt_two_pow (by omega)]
end Go.Proofs.YtnabbmdhhddfbaaDoor
namespace Go.Proofs.YtnabbmdhhddfbaaDoor
open Go Go.RowKit Go.Shelf
set_option maxHeartbeats 1000000 in
theorem rPath_any (a : Option Addr) (n c v : Nat) (t : List Nd) (w : World) (hn : t.length = n) (hok : TreeOk t) (hv : v < n) (hA : Rd w a (fl encNd t)) (hS : ∀ v, v < n → (nS t v).size ≤ 9223372036854775807) :
    Calls Tryd.prog 76 #[.slice a n c, .int .i64 v] w fun e w' => ∃ x, e = .returned (.tuple #[x, .int .i64 0]) ∧ w'.ownsRow w.heap.size 3 1 x (pthF t n v).length (fl encI (iN (pthF t n v))) ∧ Below w.heap.size w w' := by
  have hn63 : n ≤ 63 := by have := hok.2.1; omega
  have HC := Lib.hid (rnode_any a n c v t w hn hok hv hA hS)
  have HP := Lib.hid (fun m => rpath_any a n c t hn (by omega) (fun v h1 h2 => tree_par hok v h1 (by rw [hn]; exact h2)) n v (by omega) (by omega) hv (w.drewN m) (hA.drewN m))
  clear hn hok hA hS
  go_enter Tryd.func76, Tryd.ntmps76
  go_wp2_with fail
  refine HC.out.mono ?_
  rintro e w1 ⟨rfl, m, rfl⟩
  go_wp2_with fail
  refine (HP.out m).mono ?_
  rintro e w2 ⟨x, rfl, ho, hb⟩
  have HO := Lib.hid ho
  have HB := Lib.hid (bl_trans (bl_drewN (Below.refl _ w) m) hb)
  obtain ⟨A1, c1, rfl, _⟩ := owns_slice ho
  clear ho hb HC HP
  go_wp2_with fail
  exact bodyPost_ret (v := .tuple #[.slice A1 (pthF t n v).length c1, .int .i64 0]) (by simp [results, Tryd.results76, go_sem]) rfl ⟨_, rfl, HO.out, HB.out⟩
/-- Is v below u? -/
def belB (t : List Nd) (n v u : Nat) : Bool := decide (u ∈ (pthF t n v).dropLast)
theorem belB_eq {t : List Nd} {n : Nat} (hP : ∀ v, 0 < v → v < n → 0 ≤ nP t v ∧ nP t v < v) {v u : Nat} (h0 : 0 < v) (hv : v < n) : belB t n v u = decide (u ∈ pthF t n (nP t v).toNat) := by
  unfold belB
  rw [pth_succ hP h0 hv, List.dropLast_concat]
theorem mem_dropV {l : List Nat} {u : Nat} : u ∈ l.dropLast ↔ ∃ j, j + 1 < l.length ∧ vA l j = u := by
  rw [List.mem_iff_getElem]
  constructor
  · rintro ⟨j, hj, e⟩
    rw [List.length_dropLast] at hj
    rw [List.getElem_dropLast] at e
    exact ⟨j, by omega, by rw [vA_get (by omega)]; exact e⟩
  · rintro ⟨j, hj, e⟩
    refine ⟨j, by rw [List.length_dropLast]; omega, ?_⟩
    rw [List.getElem_dropLast, ← vA_get (by omega)]; exact e
set_option maxRecDepth 100000 in
set_option maxHeartbeats 2000000 in
theorem rbelow_any (a : Option Addr) (n c v u : Nat) (t : List Nd) (w : World) (hn : t.length = n) (hok : TreeOk t) (hv : v < n) (hA : Rd w a (fl encNd t)) (hS : ∀ v, v < n → (nS t v).size ≤ 9223372036854775807) :
    Calls Tryd.prog 53 #[.slice a n c, .int .i64 v, .int .i64 u] w fun e w' => e = .returned (.bool (belB t n v u)) ∧ Below w.heap.size w w' := by
  have HP := Lib.hid (rPath_any a n c v t w hn hok hv hA hS)
  have hn63 : n ≤ 63 := by have := hok.2.1; omega
  obtain ⟨hpos, _⟩ := pthF_pos t n v
  have hle := pthF_le t n v
  have HBB : Hid (belB t n v u = decide (u ∈ (pthF t n v).dropLast)) := rfl
  obtain ⟨xs, hxs⟩ : ∃ x, x = pthF t n v := ⟨_, rfl⟩
  rw [← hxs] at HP hpos hle HBB
  have HMD := Lib.hid (mem_dropV (l := xs) (u := u))
  obtain ⟨z, hz⟩ : ∃ x, x = xs.length := ⟨_, rfl⟩
  rw [← hz] at HP hpos hle HMD
  have HZ := Lib.hid hz
  obtain ⟨y, rfl⟩ : ∃ y, z = y + 1 := ⟨z - 1, by omega⟩
  clear hn hok hA hS hxs hz hpos
  go_enter Tryd.func53, Tryd.ntmps53
  go_wp2_with fail
  refine HP.out.mono ?_
  rintro e w1 ⟨x, rfl, ho, hb⟩
  obtain ⟨A1, c1, rfl, _⟩ := owns_slice ho
  have HR := Lib.hid (rd_of_owns ho)
  have HB := Lib.hid hb
  clear ho hb HP
  go_wp2_with fail
  go_loopw [9] (fun x wr => ∃ k : Nat, k ≤ y ∧ x = .int .i64 k ∧ Hid (∀ j, j < k → vA xs j ≠ u) ∧ wr = w1) (fun x _ => y - (intOf x).toNat)
  case atStart => exact ⟨0, by omega, rfl, (fun j hj => by omega), rfl⟩
  case round =>
    obtain ⟨k, hk, rfl, hal, rfl⟩ := hrel
    obtain ⟨b1, o1, rfl, _, hc1⟩ := rdI HR.out (by rw [iN_len, ← HZ.out]; omega)
    by_cases hlt : k < y
    · have G1 := hc1 k (by rw [iN_len, ← HZ.out]; omega)
      rw [iN_get] at G1
      have HNX : Hid (vA xs k ≠ u → ∀ i, i < k + 1 → vA xs i ≠ u) := fun h i hi => by
        rcases Nat.lt_or_ge i k with h2 | h2
        · exact hal.out i h2
        · obtain rfl : i = k := by omega
          exact h
      have HFD : Hid (vA xs k = u → belB t n v u = true) := fun h => by
        rw [HBB.out, decide_eq_true_eq, HMD.out]; exact ⟨k, by omega, h⟩
      clear hc1 hal
      generalize vA xs k = q at *
      by_cases e : q = u
      · have hv := Lib.hid (HFD.out e)
        subst e
        clear HNX HFD
        go_wp2_with fail
        go_ret
        exact ⟨by rw [hv.out] <;> rfl, HB.out⟩
      · have t1 : ((q : Int) == (u : Int)) = false := by simp; omega
        have t2 : decide ((q : Int) = (u : Int)) = false := by simp; omega
        have t3 : decide (q = u) = false := by simp [e]
        have HN2 := Lib.hid (HNX.out e)
        clear HNX HFD e
        go_wp2_with fail
        go_roundw
        case rel => exact ⟨k + 1, by omega, by go_num, HN2, by trivial⟩
        case measure => simp [intOf]; omega
    · obtain rfl : k = y := by omega
      have hv : Hid (belB t n v u = false) := by
        show _ = _
        rw [HBB.out, decide_eq_false_iff_not, HMD.out]
        rintro ⟨j, hj, e⟩
        exact hal.out j (by omega) e
      clear hc1 hal
      go_wp2_with fail
      go_ret
      exact ⟨by rw [hv.out] <;> rfl, HB.out⟩
end Go.Proofs.YtnabbmdhhddfbaaDoor
namespace Go.Proofs.YtnabbmdhhddfbaaDoor
open Go Go.RowKit Go.Shelf
theorem bit_of_ne {x : Nat} (h : x ≠ 0) : ∃ k, x.testBit k = true := by
  refine Classical.byContradiction fun hn => h ?_
  apply Nat.eq_of_testBit_eq
  intro k
  rw [Nat.zero_testBit]
  cases hb : x.testBit k with
  | false => rfl
  | true => exact absurd ⟨k, hb⟩ hn
theorem pth_root (t : List Nd) (n v : Nat) : 0 ∈ pthF t n v := by
  obtain ⟨h1, h2⟩ := pthF_pos t n v
  rw [vA_get h1] at h2
  rw [← h2]; exact List.getElem_mem h1
/-- The root has all leaves. -/
theorem cl_root {t : List Nd} {n x : Nat} (hn : t.length = n) (hok : TreeOk t) (hx : x < 2 ^ (lvT t).length) : cl t 0 &&& x = x := by
  have hP : ∀ v, 0 < v → v < n → 0 ≤ nP t v ∧ nP t v < v := fun v h1 h2 => tree_par hok v h1 (by rw [hn]; exact h2)
  have h0 : nP t 0 < 0 := (hok.2.2 0 (by have := hok.1; omega)).1
  have hL : lvT t = lvsL t n := by unfold lvT; rw [if_pos (chkE_good hok), hn]
  have h1 : 0 < n := by have := hok.1; omega
  apply Nat.eq_of_testBit_eq
  intro k
  rw [Nat.testBit_and]
  by_cases hk : k < (lvsL t n).length
  · have h2 : (cl t 0).testBit k = true := (cl_bit hn hP h0 hk h1).2 (pth_root t n _)
    rw [h2, Bool.true_and]
  · have hp : 2 ^ (lvsL t n).length ≤ 2 ^ k := Nat.pow_le_pow_right (by omega) (by omega)
    rw [hL] at hx
    rw [Nat.testBit_lt_two_pow (x := x) (by omega), Bool.and_false]
theorem lAt_has {f : Nat → Nat} {x : Nat} (h0 : f 0 &&& x = x) : ∀ k, f (lAt f x k) &&& x = x := by
  intro k
  induction k with
  | zero => exact h0
  | succ k ih =>
    unfold lAt
    by_cases e : f k &&& x = x
    · rw [if_pos e]; exact e
    · rw [if_neg e]; exact ih
theorem lAt_lt' (f : Nat → Nat) (x : Nat) : ∀ k, 0 < k → lAt f x k < k := by
  intro k
  induction k with
  | zero => intro h; omega
  | succ k ih =>
    intro _
    unfold lAt
    split
    · omega
    · by_cases e : k = 0
      · subst e; exact Nat.lt_succ_of_le (lAt_lt f x 0)
      · have := ih (by omega); omega
/-- As the document: v is below the node at_, it has nothing of x, the node above has something. -/
def rlossB (t : List Nd) (n : Nat) (x at_ v : Nat) : Bool := (belB t n v at_ && decide (cl t v &&& x = 0)) && !decide (cl t (nP t v).toNat &&& x = 0)
theorem loss_eq {t : List Nd} {n x v : Nat} (hn : t.length = n) (hok : TreeOk t) (hx : x < 2 ^ (lvT t).length) (h0 : 0 < v) (hv : v < n) :
    rlossB t n x (lAt (cl t) x n) v = lossB t (cl t) x (lAt (cl t) x n) v := by
  have hP : ∀ v, 0 < v → v < n → 0 ≤ nP t v ∧ nP t v < v := fun v h1 h2 => tree_par hok v h1 (by rw [hn]; exact h2)
  have hr : nP t 0 < 0 := (hok.2.2 0 (by have := hok.1; omega)).1
  have hL : lvT t = lvsL t n := by unfold lvT; rw [if_pos (chkE_good hok), hn]
  have hat := lAt_has (cl_root hn hok hx) n
  have hatn := lAt_lt' (cl t) x n (by omega)
  generalize lAt (cl t) x n = A at *
  unfold rlossB lossB
  rw [belB_eq hP h0 hv, decide_eq_true h0, Bool.true_and, Nat.and_comm x, Nat.and_comm x]
  obtain ⟨hp0, hpv⟩ := hP v h0 hv
  obtain ⟨p, hp⟩ : ∃ p : Nat, nP t v = p := ⟨(nP t v).toNat, by omega⟩
  rw [hp, Int.toNat_natCast]
  rw [hp] at hpv
  by_cases hz : cl t p &&& x = 0
  · rw [decide_eq_true hz]; simp
  · have key : A ∈ pthF t n p ↔ (A : Int) ≤ (p : Int) := by
      constructor
      · intro h
        have := pth_lt hP p p (Nat.le_refl _) (by omega) A h; omega
      · intro h
        obtain ⟨k, hk⟩ := bit_of_ne hz
        rw [Nat.testBit_and, Bool.and_eq_true] at hk
        obtain ⟨h1, h2⟩ := hk
        have hkl : k < (lvsL t n).length := by
          rcases Nat.lt_or_ge k (lvsL t n).length with q | q
          · exact q
          · have hp : 2 ^ (lvsL t n).length ≤ 2 ^ k := Nat.pow_le_pow_right (by omega) q
            rw [hL] at hx
            rw [Nat.testBit_lt_two_pow (by omega)] at h2; cases h2
        have h3 : (cl t A).testBit k = true := by
          have := congrArg (fun y => y.testBit k) hat
          simp only [Nat.testBit_and, h2, Bool.and_true] at this
          exact this
        have hq := (lvs_at t n k hkl).1
        exact pth_chain hP _ _ (Nat.le_refl _) hq A p ((cl_bit hn hP hr hkl hatn).1 h3) ((cl_bit hn hP hr hkl (by omega)).1 h1) (by omega)
    rw [decide_eq_false hz]
    by_cases q : A ∈ pthF t n p
    · rw [decide_eq_true q, decide_eq_true (key.1 q)]; simp
    · rw [decide_eq_false q, decide_eq_false (fun h => q (key.2 h))]; simp
theorem lossB_root (t : List Nd) (f : Nat → Nat) (x a : Nat) : lossB t f x a 0 = false := by simp [lossB]
theorem loss_zero (t : List Nd) (f : Nat → Nat) (a : Nat) : ∀ k, lCnt t f 0 a k = 0 := by
  intro k
  induction k with
  | zero => rfl
  | succ k ih => unfold lCnt; rw [ih]; simp [lossB]
end Go.Proofs.YtnabbmdhhddfbaaDoor
namespace Go.Proofs.YtnabbmdhhddfbaaDoor
open Go Go.RowKit Go.Shelf
theorem rcl_any (a : Option Addr) (n c v : Nat) (t : List Nd) (w : World) (hn : t.length = n) (hok : TreeOk t) (hv : v < n) (hA : Rd w a (fl encNd t)) (hS : ∀ v, v < n → (nS t v).size ≤ 9223372036854775807) :
    Calls Tryd.prog 52 #[.slice a n c, .int .i64 v] w fun e w' => e = .returned (.tuple #[.int .u64 (cl t v : Nat), .int .i64 0]) ∧ Below w.heap.size w w' := by
  have h := rclade_any a n c v t w hn hok hv hA hS
  rw [clF_cl hn hok hv] at h
  exact h
set_option maxRecDepth 100000 in
set_option maxHeartbeats 4000000 in
theorem rlosses_any (L : Int) (a : Option Addr) (N c : Nat) (l : List Nat) (b : Option Addr) (n d : Nat) (t : List Nd) (w : World) (hl : l.length = N) (hN : N ≤ 1152921504606846976) (hA : Rd w a (fl encV l)) (hF : FitV l)
    (ht : t.length = n) (hn60 : n ≤ 1152921504606846976) (hB : Rd w b (fl encNd t)) (hS : ∀ v, v < n → (nS t v).size ≤ 9223372036854775807) :
    Calls Tryd.prog 25 #[.agg #[.int .i64 L, .slice a N c], .slice b n d] w (LsPost w L l t) := by
  have hb0 := bl_alloc (Below.refl _ w) (.cells #[.int .i64 L, .slice a N c] 32)
  have hX := Blk.new w #[.int .i64 L, .slice a N c] 32
  have HC := Lib.hid (rpcheck_any L a N c l b n d t (w.alloc (.cells #[.int .i64 L, .slice a N c] 32)) hl hN (hA.bl hb0) hF ht hn60 (hB.bl hb0) hS)
  have HL := Lib.hid hl
  have HF := Lib.hid hF
  have HT := Lib.hid ht
  have HS := Lib.hid hS
  have HA := Lib.hid (hA.bl hb0)
  have HB := Lib.hid (hB.bl hb0)
  clear hl hA hF ht hB hS
  go_enter Tryd.func25, Tryd.ntmps25
  go_wp2_with fail
  refine HC.out.mono ?_
  rintro e w2 ⟨rfl, hb2⟩
  have HB2 := Lib.hid (bl_trans hb0 hb2)
  have HX2 := Lib.hid (hX.below hb2)
  have HRA := Lib.hid (HA.out.bl hb2)
  have HRB := Lib.hid (HB.out.bl hb2)
  obtain ⟨X, hXe⟩ : ∃ x, x = w.heap.size := ⟨_, rfl⟩
  rw [← hXe] at HX2 ⊢
  have HXE := Lib.hid hXe
  clear hb0 hb2 hX HC HA HB hXe
  by_cases h0 : chkP L l t = 0
  · have hLL : Hid (lossL L l t = l.map (lossN t)) := if_pos h0
    have HE := Lib.hid h0
    obtain ⟨k0, hok, k2⟩ := chkP_ok h0
    rw [h0]
    clear h0
    obtain ⟨M, rfl⟩ : ∃ M : Nat, L = M := ⟨(lvT t).length, k2.symm⟩
    obtain ⟨hM, hl64, hlt⟩ := chk_lt k0
    have HP : Hid (∀ v, 0 < v → v < n → 0 ≤ nP t v ∧ nP t v < v) := fun v h1 h2 => tree_par hok v h1 (by rw [HT.out]; exact h2)
    have hn1 : 1 ≤ n := by have := hok.1; have := HT.out; omega
    have hn63 : n ≤ 63 := by have := hok.2.1; have := HT.out; omega
    have hN64 : N ≤ 64 := by have := HL.out; omega
    have HLV : Hid ((lvsL t n).length ≤ 32) := by
      show _ ≤ _
      have e : lvT t = lvsL t n := by unfold lvT chkE; rw [if_pos hok, if_pos rfl, HT.out]
      rw [← e]; omega
    have HCL : Hid (∀ v, v < n → cl t v < 18446744073709551616) := fun v hv => Nat.lt_of_lt_of_le (cl_lt (n := 32) (by rw [HT.out]; exact HLV.out) v (by rw [HT.out]; exact hv)) (by decide)
    have HLO : Hid (∀ x v, x < 2 ^ (lvT t).length → 0 < v → v < n → rlossB t n x (lAt (cl t) x n) v = lossB t (cl t) x (lAt (cl t) x n) v) := fun x v hx h1 h2 => loss_eq HT.out hok hx h1 h2
    have HXB : Hid (∀ k, k < N → vA l k < 2 ^ (lvT t).length) := fun k hk => by
      have h := hlt (vA l k) (by rw [vA_get (by rw [HL.out]; exact hk)]; exact List.getElem_mem _)
      have e : (lvT t).length = M := by omega
      rw [e]; exact h
    have HCC := Lib.hid (fun (v : Nat) (hv : v < n) W (h : Below w2.heap.size w2 W) => rcl_any b n d v t W HT.out hok hv (HRB.out.bl h) HS.out)
    have HCB := Lib.hid (fun (v u : Nat) (hv : v < n) W (h : Below w2.heap.size w2 W) => rbelow_any b n d v u t W HT.out hok hv (HRB.out.bl h) HS.out)
    clear k0 k2 hl64 hlt hok
    go_wp2_with fail
    go_loopw [8, 7] (fun x v wr => ∃ k : Nat, k ≤ N ∧ x = .int .i64 k ∧ Hid (wr.ownsRow w2.heap.size 3 1 v k (fl encI (iN ((l.take k).map (lossN t))))) ∧ Hid (Below w2.heap.size w2 wr)) (fun x _ _ => N - (intOf x).toNat)
    case atStart => exact ⟨0, by omega, rfl, World.ownsRow_nil _ _ _ _, Below.refl _ _⟩
    case round =>
      obtain ⟨k, hk, rfl, how, hbl⟩ := hrel
      have x1 : wr.cell? ⟨X, 1, none⟩ = some (.slice a N c) := (HX2.out.below hbl.out).cell 1
      by_cases hlt : k < N
      · obtain ⟨ba, oa, rfl, hba, hca⟩ := rdV (HRA.out.bl hbl.out) (by rw [HL.out]; omega)
        have G := hca k (by rw [HL.out]; exact hlt)
        have hx : vA l k < 18446744073709551616 := HF.out k (by rw [HL.out]; exact hlt)
        have HXK := Lib.hid (HXB.out k hlt)
        have HTK : Hid ((l.take (k + 1)).map (lossN t) = (l.take k).map (lossN t) ++ [lossN t (vA l k)]) := by
          show _ = _
          rw [List.take_succ_eq_append_getElem (by rw [HL.out]; exact hlt), List.map_append, vA_get (by rw [HL.out]; exact hlt)]; rfl
        clear hca
        generalize vA l k = q at *
        go_upto_region 10 with fail
        obtain ⟨wo, rfl⟩ : ∃ x : World, x = wr := ⟨_, rfl⟩
        clear x1 G
        go_wp2_with fail
        go_loopw [11, 10] (fun x y wx => ∃ j : Nat, j ≤ n ∧ x = .int .i64 j ∧ y = .int .i64 (lAt (cl t) q j : Nat) ∧ Hid (Below wo.heap.size wo wx)) (fun x _ _ => n - (intOf x).toNat)
        case atStart => exact ⟨0, by omega, rfl, rfl, Below.refl _ _⟩
        case round =>
          obtain ⟨j, hj, rfl, rfl, hbx⟩ := hrel
          by_cases hjn : j < n
          · have HK := Lib.hid (HCC.out j hjn wr (bl_trans hbl.out hbx.out))
            have hcj := HCL.out j hjn
            have hbn := bits_and hcj hx
            have HST : Hid (lAt (cl t) q (j + 1) = if cl t j &&& q = q then j else lAt (cl t) q j) := rfl
            clear hcj
            generalize cl t j = z at *
            obtain ⟨y, hy⟩ : ∃ y, z &&& q = y := ⟨_, rfl⟩
            rw [hy] at hbn HST
            clear hy
            generalize lAt (cl t) q j = r at *
            go_wp2_with fail
            refine HK.out.mono ?_
            rintro e w3 ⟨rfl, hb3⟩
            have HB3 := Lib.hid (bl_trans hbx.out hb3)
            clear hb3 hbx HK
            by_cases e : y = q
            · have t1 : ((y : Int) == (q : Int)) = true := by simp [e]
              have t2 : decide ((y : Int) = (q : Int)) = true := by simp [e]
              have HS1 : Hid (lAt (cl t) q (j + 1) = j) := by show _ = _; rw [HST.out, if_pos e]
              clear e HST
              go_wp2_with fail
              go_roundw
              case rel => exact ⟨j + 1, by omega, by go_num, by rw [HS1.out], HB3⟩
              case measure => simp [intOf]; omega
            · have t1 : ((y : Int) == (q : Int)) = false := by simp; omega
              have t2 : decide ((y : Int) = (q : Int)) = false := by simp; omega
              have HS1 : Hid (lAt (cl t) q (j + 1) = r) := by show _ = _; rw [HST.out, if_neg e]
              clear e HST
              go_wp2_with fail
              go_roundw
              case rel => exact ⟨j + 1, by omega, by go_num, by rw [HS1.out], HB3⟩
              case measure => simp [intOf]; omega
          · obtain rfl : n = j := by omega
            have HNQ : Hid (lossN t q = lCnt t (cl t) q (lAt (cl t) q n) n) := by show _ = _; unfold lossN; rw [HT.out]
            have HLQ := Lib.hid (fun v => HLO.out q v HXK.out)
            obtain ⟨r, hr⟩ : ∃ r, lAt (cl t) q n = r := ⟨_, rfl⟩
            rw [hr] at HNQ HLQ ⊢
            clear hr
            go_upto_region 16 with fail
            obtain ⟨wp, rfl⟩ : ∃ x : World, x = wr := ⟨_, rfl⟩
            go_wp2_with fail
            go_loopw [15, 14] (fun x y wx => ∃ i : Nat, 1 ≤ i ∧ i ≤ n ∧ x = .int .i64 i ∧ y = .int .i64 (lCnt t (cl t) q r i : Nat) ∧ Hid (Below wp.heap.size wp wx)) (fun x _ _ => n - (intOf x).toNat)
            case atStart => exact ⟨1, by omega, by omega, rfl, by unfold lCnt; rw [lossB_root]; rfl, Below.refl _ _⟩
            case round =>
              obtain ⟨i, hi1, hi, rfl, rfl, hb9⟩ := hrel
              by_cases hgo : i < n ∧ q ≠ 0
              · obtain ⟨hin, hq0⟩ := hgo
                have tq : ((q : Int) != 0) = true := by simp; omega
                have hbW := bl_trans hbl.out (bl_trans hbx.out hb9.out)
                obtain ⟨bn, on, rfl, hbn, hcn⟩ := rdNd (HRB.out.bl hbW) (by rw [HT.out]; omega)
                obtain ⟨G0, G1⟩ := hcn i (by rw [HT.out]; exact hin)
                have HPI := HP.out i (by omega) hin
                obtain ⟨p, hp⟩ : ∃ p : Nat, nP t i = p := ⟨(nP t i).toNat, by omega⟩
                have hRL : Hid (rlossB t n q r i = ((belB t n i r && decide (cl t i &&& q = 0)) && !decide (cl t p &&& q = 0))) := by
                  show _ = _; unfold rlossB; rw [hp, Int.toNat_natCast]
                rw [hp] at G0 HPI
                have HLQ2 := Lib.hid (HLQ.out i (by omega) hin)
                have HST : Hid (lCnt t (cl t) q r (i + 1) = lCnt t (cl t) q r i + if lossB t (cl t) q r i then 1 else 0) := rfl
                have hzle := lCnt_le t (cl t) q r i
                have HK1 := Lib.hid (HCC.out i hin)
                have HK2 := Lib.hid (HCC.out p (by omega))
                have HK3 := Lib.hid (HCB.out i r hin)
                have b1 := bits_and (HCL.out i hin) hx
                have b2 := bits_and (HCL.out p (by omega)) hx
                rw [HLQ2.out] at hRL
                have HG0 := Lib.hid G0
                clear hcn G0 G1 hp HLQ2 HLQ
                generalize lossB t (cl t) q r i = bl at *
                generalize cl t i = A at *
                generalize cl t p = B at *
                generalize belB t n i r = bb at *
                obtain ⟨z, hz⟩ : ∃ z, lCnt t (cl t) q r i = z := ⟨_, rfl⟩
                rw [hz] at HST hzle ⊢
                obtain ⟨y1, hy1⟩ : ∃ y, A &&& q = y := ⟨_, rfl⟩
                obtain ⟨y2, hy2⟩ : ∃ y, B &&& q = y := ⟨_, rfl⟩
                rw [hy1] at b1 hRL
                rw [hy2] at b2 hRL
                clear hz hy1 hy2
                have HBW := Lib.hid hbW
                have ho := hb9
                clear hbW
                go_wp2_with fail
                refine (HK1.out wr HBW.out).mono ?_
                rintro e w3 ⟨rfl, hb3⟩
                have HB3 := Lib.hid (bl_trans HBW.out hb3)
                have G0 : w3.cell? ⟨bn, on + i * 2, none⟩ = some (.int .i64 p) := (hb3.cell (p := ⟨bn, on + i * 2, none⟩) hbn).trans HG0.out
                have hb13 := bl_trans hb9.out hb3
                clear hb3
                go_wp2_with fail
                refine (HK2.out w3 HB3.out).mono ?_
                rintro e w4 ⟨rfl, hb4⟩
                have HB4 := Lib.hid (bl_trans HB3.out hb4)
                have hb14 := bl_trans hb13 hb4
                clear hb4 hb13 G0
                go_wp2_with fail
                refine (HK3.out w4 HB4.out).mono ?_
                rintro e w5 ⟨rfl, hb5⟩
                have HB15 := Lib.hid (bl_trans hb14 hb5)
                clear hb5 hb14 HK1 HK2 HK3 HBW HB3 HB4 HG0 ho hb9
                cases bb with
                | false =>
                  have HS1 : Hid (lCnt t (cl t) q r (i + 1) = z) := by show _ = _; rw [HST.out, hRL.out]; simp
                  clear HST hRL
                  go_wp2_with fail
                  go_roundw
                  case rel => exact ⟨i + 1, by omega, by omega, by go_num, by rw [HS1.out], HB15⟩
                  case measure => simp [intOf]; omega
                | true =>
                  by_cases e1 : y1 = 0
                  · have s1 : ((y1 : Int) != 0) = false := by simp [e1]
                    have s2 : ((y1 : Int) == 0) = true := by simp [e1]
                    have s3 : decide ((y1 : Int) = 0) = true := by simp [e1]
                    by_cases e2 : y2 = 0
                    · have r1 : ((y2 : Int) != 0) = false := by simp [e2]
                      have r2 : ((y2 : Int) == 0) = true := by simp [e2]
                      have r3 : decide ((y2 : Int) = 0) = true := by simp [e2]
                      have HS1 : Hid (lCnt t (cl t) q r (i + 1) = z) := by show _ = _; rw [HST.out, hRL.out, decide_eq_true e2]; simp
                      clear HST hRL e1 e2
                      go_wp2_with fail
                      go_roundw
                      case rel => exact ⟨i + 1, by omega, by omega, by go_num, by rw [HS1.out], HB15⟩
                      case measure => simp [intOf]; omega
                    · have r1 : ((y2 : Int) != 0) = true := by simp [e2]
                      have r2 : ((y2 : Int) == 0) = false := by simp [e2]
                      have r3 : decide ((y2 : Int) = 0) = false := by simp [e2]
                      have HS1 : Hid (lCnt t (cl t) q r (i + 1) = z + 1) := by show _ = _; rw [HST.out, hRL.out, decide_eq_true e1, decide_eq_false e2]; rfl
                      clear HST hRL e1 e2
                      go_wp2_with fail
                      go_roundw
                      case rel => exact ⟨i + 1, by omega, by omega, by go_num, by rw [HS1.out]; go_num, HB15⟩
                      case measure => simp [intOf]; omega
                  · have s1 : ((y1 : Int) != 0) = true := by simp [e1]
                    have s2 : ((y1 : Int) == 0) = false := by simp [e1]
                    have s3 : decide ((y1 : Int) = 0) = false := by simp [e1]
                    have HS1 : Hid (lCnt t (cl t) q r (i + 1) = z) := by show _ = _; rw [HST.out, hRL.out, decide_eq_false e1]; simp
                    clear HST hRL e1
                    go_wp2_with fail
                    go_roundw
                    case rel => exact ⟨i + 1, by omega, by omega, by go_num, by rw [HS1.out], HB15⟩
                    case measure => simp [intOf]; omega
              · have HLQ3 : Hid (lCnt t (cl t) q r i = lossN t q) := by
                  show _ = _
                  rw [HNQ.out]
                  by_cases e : q = 0
                  · subst e; rw [loss_zero, loss_zero]
                  · obtain rfl : n = i := by
                      rcases Nat.lt_or_ge i n with h | h
                      · exact absurd ⟨h, e⟩ hgo
                      · omega
                    rfl
                rw [HLQ3.out]
                have hbase : w2.heap.size ≤ (wr.alloc (.cells #[.int .i64 (lossN t q : Nat)] 3)).heap.size := by
                  have h1 := hbl.out.size
                  have h2 := hbx.out.size
                  have h3 := hb9.out.size
                  simp; omega
                have hb19 := bl_trans hbx.out hb9.out
                have HOW := Lib.hid (owns_below how.out hb19)
                have HB9 := Lib.hid (bl_trans hbl.out hb19)
                have hl1 : Hid (k = (iN ((l.take k).map (lossN t))).length) := by
                  show _ = _
                  rw [iN_len, List.length_map, List.length_take, HL.out]; omega
                generalize lossN t q = z at *
                have key : (decide (i < n) = false) ∨ (decide (i < n) = true ∧ ((q : Int) != 0) = false) := by
                  by_cases h : i < n
                  · right
                    refine ⟨decide_eq_true h, ?_⟩
                    have : q = 0 := Decidable.byContradiction fun e => hgo ⟨h, e⟩
                    simp [this]
                  · left; exact decide_eq_false h
                have hu := owns_slice how.out
                obtain ⟨A7, c7, rfl, _⟩ := hu
                clear how hbl hbx hb9 HNQ hb19 HLQ HLQ3 hgo
                rcases key with d1 | ⟨d1, d2⟩
                all_goals
                  go_wp2_with (at_builtin; refine push_I rfl (.tmp 100) (.tmp 102) rfl w2.heap.size (.slice A7 k c7) (iN ((l.take k).map (lossN t))) k hl1.out rfl (HOW.out.alloc _) _ _ (z : Int) rfl (Blk.new _ _ _) (by omega) hbase ?_; intro g2 cap w8 h81 h82 h83 h84; rw [← iN_snoc, ← HTK.out] at h81; have H81 := Lib.hid h81; have H82 := Lib.hid h82; clear h81 h82 h83)
                  have HB8 := Lib.hid (bl_grown (bl_alloc HB9.out (.cells #[.int .i64 z] 3)) H82.out (fun x e => (HOW.out.lt x e).1))
                  go_roundw
                  case rel => exact ⟨k + 1, by omega, by go_num, H81, HB8⟩
                  case measure => simp [intOf]; omega
      · obtain rfl : k = N := by omega
        have HBW := Lib.hid (bl_trans HB2.out hbl.out)
        have HOW := Lib.hid (owns_mono how.out HB2.out.size)
        obtain ⟨A7, c7, rfl, _⟩ := owns_slice HOW.out
        clear how hbl
        go_wp2_with fail
        refine bodyPost_ret (v := .tuple #[.slice A7 k c7, .int .i64 0]) (by simp [results, Tryd.results25, go_sem]) rfl ?_
        refine ⟨_, by rw [HE.out], ?_, HBW.out⟩
        have h9 := HOW.out
        rw [List.take_of_length_le (by rw [HL.out]; exact Nat.le_refl _)] at h9
        rw [hLL.out]
        have e : (l.map (lossN t)).length = k := by rw [List.length_map, HL.out]
        rw [e]
        exact h9
  · have hE : Hid (lossL L l t = []) := if_neg h0
    obtain ⟨E, hEE⟩ : ∃ E, chkP L l t = E := ⟨_, rfl⟩
    have HEE := Lib.hid hEE
    rw [hEE] at h0 ⊢
    have d0 : (E == 0) = false := by simp [h0]
    have d1 : (E != 0) = true := by simp [h0]
    clear hEE h0
    go_wp2_with fail
    exact bodyPost_ret (v := .tuple #[.slice none 0 0, .int .i64 E]) (by simp [results, Tryd.results25, go_sem]) rfl ⟨_, by rw [HEE.out], by rw [hE.out]; exact World.ownsRow_nil _ _ _ _, HB2.out⟩
end Go.Proofs.YtnabbmdhhddfbaaDoor
namespace Go.Proofs.YtnabbmdhhddfbaaDoor
open Go Go.RowKit Go.Shelf
theorem any_iN {ls : List Nat} : (iN ls).any (fun x => decide (0 < x)) = true ↔ ∃ j, j < ls.length ∧ 0 < vA ls j := by
  rw [List.any_eq_true]
  constructor
  · rintro ⟨x, hx, h⟩
    obtain ⟨j, hj, e⟩ := List.mem_iff_getElem.1 hx
    rw [iN_len] at hj
    refine ⟨j, hj, ?_⟩
    have h1 := iN_get ls j
    have h2 : iA (iN ls) j = (iN ls)[j]'(by rw [iN_len]; exact hj) := by simp [iA, List.getD_eq_getElem?_getD, List.getElem?_eq_getElem (show j < (iN ls).length by rw [iN_len]; exact hj)]
    have h3 : x = (vA ls j : Int) := by rw [← e, ← h2, h1]
    rw [h3, decide_eq_true_eq] at h
    omega
  · rintro ⟨j, hj, h⟩
    have h1 := iN_get ls j
    have h2 : iA (iN ls) j = (iN ls)[j]'(by rw [iN_len]; exact hj) := by simp [iA, List.getD_eq_getElem?_getD, List.getElem?_eq_getElem (show j < (iN ls).length by rw [iN_len]; exact hj)]
    refine ⟨_, List.getElem_mem (by rw [iN_len]; exact hj), ?_⟩
    rw [← h2, h1, decide_eq_true_eq]; omega
set_option maxRecDepth 100000 in
set_option maxHeartbeats 2000000 in
theorem rfits_any (L : Int) (a : Option Addr) (N c : Nat) (l : List Nat) (b : Option Addr) (n d : Nat) (t : List Nd) (w : World) (hl : l.length = N) (hN : N ≤ 1152921504606846976) (hA : Rd w a (fl encV l)) (hF : FitV l)
    (ht : t.length = n) (hn60 : n ≤ 1152921504606846976) (hB : Rd w b (fl encNd t)) (hS : ∀ v, v < n → (nS t v).size ≤ 9223372036854775807) :
    Calls Tryd.prog 27 #[.agg #[.int .i64 L, .slice a N c], .slice b n d] w fun e w' => e = .returned (.tuple #[.bool (fitsB L l t), .int .i64 (chkP L l t)]) ∧ Below w.heap.size w w' := by
  have hb0 := bl_alloc (Below.refl _ w) (.cells #[.int .i64 L, .slice a N c] 32)
  have HC := Lib.hid (rlosses_any L a N c l b n d t (w.alloc (.cells #[.int .i64 L, .slice a N c] 32)) hl hN (hA.bl hb0) hF ht hn60 (hB.bl hb0) hS)
  have HLE : Hid ((lossL L l t).length ≤ N) := by show _ ≤ _; rw [← hl]; exact lossL_le L l t
  have HB0 := Lib.hid hb0
  clear hl hA hF ht hn60 hB hS hb0
  go_enter Tryd.func27, Tryd.ntmps27
  go_wp2_with fail
  refine HC.out.mono ?_
  rintro e w2 ⟨v, rfl, ho, hb2⟩
  have HB2 := Lib.hid (bl_trans HB0.out hb2)
  have hle := HLE.out
  have HFB : Hid (fitsB L l t = (decide (chkP L l t = 0) && !(iN (lossL L l t)).any (fun x => decide (0 < x)))) := rfl
  obtain ⟨ls, hls⟩ : ∃ x, x = lossL L l t := ⟨_, rfl⟩
  obtain ⟨E, hE⟩ : ∃ x, x = chkP L l t := ⟨_, rfl⟩
  rw [← hls] at ho hle HFB
  rw [← hE] at HFB ⊢
  have HAN := Lib.hid (any_iN (ls := ls))
  obtain ⟨z, hz⟩ : ∃ x, x = ls.length := ⟨_, rfl⟩
  rw [← hz] at ho hle HAN
  obtain ⟨A1, c1, rfl, _⟩ := owns_slice ho
  have HR := Lib.hid (rd_of_owns ho)
  have HE := Lib.hid hE
  have HZ := Lib.hid hz
  clear HC HB0 HLE ho hb2 hls hE hz
  by_cases h0 : E = 0
  · subst h0
    go_wp2_with fail
    go_loopw [8] (fun x wr => ∃ k : Nat, k ≤ z ∧ x = .int .i64 k ∧ Hid (∀ j, j < k → vA ls j = 0) ∧ wr = w2) (fun x _ => z - (intOf x).toNat)
    case atStart => exact ⟨0, by omega, rfl, (fun j hj => by omega), rfl⟩
    case round =>
      obtain ⟨k, hk, rfl, hal, rfl⟩ := hrel
      by_cases hlt : k < z
      · obtain ⟨b1, o1, rfl, _, hc1⟩ := rdI HR.out (by rw [iN_len, ← HZ.out]; omega)
        have G1 := hc1 k (by rw [iN_len, ← HZ.out]; omega)
        rw [iN_get] at G1
        have HNX : Hid (vA ls k = 0 → ∀ i, i < k + 1 → vA ls i = 0) := fun h i hi => by
          rcases Nat.lt_or_ge i k with h2 | h2
          · exact hal.out i h2
          · obtain rfl : i = k := by omega
            exact h
        have HFD : Hid (0 < vA ls k → fitsB L l t = false) := fun h => by
          rw [HFB.out, HAN.out.2 ⟨k, hlt, h⟩]; simp
        clear hc1 hal
        generalize vA ls k = q at *
        by_cases e : 0 < q
        · have hv := Lib.hid (HFD.out e)
          have t1 : decide (0 < (q : Int)) = true := decide_eq_true (by omega)
          have t2 : decide (0 < q) = true := decide_eq_true e
          clear HNX HFD e
          go_wp2_with fail
          exact bodyPost_ret (v := .tuple #[.bool false, .int .i64 0]) (by simp [results, Tryd.results27, go_sem]) rfl ⟨by rw [← HE.out, hv.out], HB2.out⟩
        · have t1 : decide (0 < (q : Int)) = false := decide_eq_false (by omega)
          have t2 : decide (0 < q) = false := decide_eq_false e
          have HN2 := Lib.hid (HNX.out (by omega))
          clear HNX HFD e
          go_wp2_with fail
          go_roundw
          case rel => exact ⟨k + 1, by omega, by go_num, HN2, by trivial⟩
          case measure => simp [intOf]; omega
      · obtain rfl : k = z := by omega
        have hv : Hid (fitsB L l t = true) := by
          show _ = _
          rw [HFB.out]
          have : (iN ls).any (fun x => decide (0 < x)) = false := by
            rw [Bool.eq_false_iff]
            intro h
            obtain ⟨j, hj, h2⟩ := HAN.out.1 h
            have := hal.out j hj; omega
          rw [this]; rfl
        clear hal
        go_wp2_with fail
        exact bodyPost_ret (v := .tuple #[.bool true, .int .i64 0]) (by simp [results, Tryd.results27, go_sem]) rfl ⟨by rw [← HE.out, hv.out], HB2.out⟩
  · have hv : Hid (fitsB L l t = false) := by show _ = _; rw [HFB.out, decide_eq_false h0]; rfl
    have HD := Lib.hid h0
    have d0 : (E == 0) = false := by simp [h0]
    have d1 : (E != 0) = true := by simp [h0]
    clear h0
    go_wp2_with fail
    exact bodyPost_ret (v := .tuple #[.bool false, .int .i64 E]) (by simp [results, Tryd.results27, go_sem]) rfl ⟨by rw [← HE.out, hv.out], HB2.out⟩
end Go.Proofs.YtnabbmdhhddfbaaDoor
namespace Go.Proofs.YtnabbmdhhddfbaaDoor
open Go.ChangeShapes Go.WideShapes Go.RowKit Go.Deep
section
variable {H : Type} {enc : TypeId × Value → H} {P : Program}
/-- Arguments read as they did, in a world that keeps all that lay there. -/
theorem trodAll_stays (hl : laidOutB P = true) {W W' : World} {sp : Nat → Bool} (hb : Below W.heap.size W W') : ∀ {ts : List TypeId} {vs : List Value} {ds : List (DataW H)} {ps : List MemPlace}, (∀ t ∈ ts, P.readableRec t = true ∧ t < P.types.size) →
    DataW.TrodAll enc P W 0 (fun _ => true) true ts vs ds ps → (∀ p ∈ ps, p.block < W.heap.size) → (∀ p ∈ ps, sp p.block = true) → DataW.TrodAll enc P W' 0 sp true ts vs ds ps
  | [], vs, ds, ps, _, h, _, _ => by
    obtain ⟨rfl, rfl, rfl⟩ := trodAll_nil h
    exact trodAll_mk0
  | t :: ts, vs, ds, ps, ht, h, hlt, hsp => by
    obtain ⟨v, vs', d, ds', p, q, rfl, rfl, rfl, h1, h2⟩ := trodAll_cons h
    obtain ⟨hr, hrow⟩ := ht t (by simp)
    exact trodAll_cons_mk (WideElems.Trod_stays hl hr hrow h1 (fun x hx => hb.same (hlt x (List.mem_append_left _ hx))) (fun x hx => hsp x (List.mem_append_left _ hx)))
      (trodAll_stays hl hb (fun t' ht' => ht t' (by simp [ht'])) h2 (fun x hx => hlt x (List.mem_append_right _ hx)) (fun x hx => hsp x (List.mem_append_right _ hx)))
/-- What a statement's row asks of a call that returns true and keeps all that lay there. -/
theorem post_law {f : Func} {s : ChangeSpec} {W W' : World} {args : Array Value} {ds : List (DataW H)} {before : List MemPlace} {tb : TypeId} (hsv : s.vars = []) (hfn : s.fn H (ds ++ []) = { results := [.lit (.bool true)], args := ds })
    (hl : laidOutB P = true) (hpt : ∀ t ∈ f.params.toList, P.readableRec t = true ∧ t < P.types.size) (hrt : f.resultTypes = #[tb]) (htb : P.underlying tb = some .bool)
    (hW : DataW.Whole enc P f.params.toList s.vars false W args.toList ds [] before) (hb : Below W.heap.size W W') : s.post enc P f false true false false W args (.bool true) W' := by
  have hlt : ∀ p ∈ before, p.block < W.heap.size := fun p hp => hW.lt p hp
  have hW2 := hW
  obtain ⟨p, q, hA, hV, rfl, _, _⟩ := hW
  rw [hsv] at hV
  obtain ⟨_, rfl⟩ := trodVars_none hV
  rw [List.append_nil] at hlt
  refine ⟨ds, [], _, [], p, [], hW2, ?_, ?_, ?_, ?_, fun h => by cases h⟩
  · rw [hfn, hrt]
    exact trodAll_cons_mk (p := []) (p' := []) (shut_bool htb _) trodAll_mk0
  · rw [hfn]
    exact trodAll_stays hl hb hpt hA hlt (fun x hx => by simpa using hlt x hx)
  · rw [hsv, hfn]
    rfl
  · exact World.keptBut_mono (fun x hx => ⟨by simpa using hx, .inr (.inl (by simpa using hx))⟩) (hb.frame (· ∈ p))
end
end Go.Proofs.YtnabbmdhhddfbaaDoor
namespace Go.Proofs.YtnabbmdhhddfbaaDoor
open Go.ChangeShapes Go.WideShapes Go.ChangeAt Go.RowKit Go.Deep
theorem own : ownKnob Tryd.prog.godebug = none := by kernel_rfl
theorem laidOut : laidOutB Tryd.prog = true := by kernel_rfl
/-- The cells of a table. -/
def tabCells (d : DataW Unit) : Array Value :=
  match d with
  | .agg ps => (ps.map fun x => match x with
    | .lit (.int k n) => Value.int k n
    | _ => undef).toArray
  | _ => #[]
def laidOn (P : Program) : List (String × DataW Unit) → World → World
  | [], w => w
  | (n, d) :: r, w => laidOn P r { w with heap := w.heap.modify ((P.globalNamed n).getD 0) fun
      | .cells _ t frozen => .cells (tabCells d) t frozen
      | o => o }
/-- A world that holds the tables. -/
noncomputable def laidWorld (os : Os) : World := laidOn Tryd.prog Rows.phyloBuildsRow.laid (World.holding Tryd.prog os ⟨#[], #[], []⟩)
theorem list_two {α : Type} : ∀ {l : List α}, l.length = 2 → ∃ a b, l = [a, b]
  | [a, b], _ => ⟨a, b, rfl⟩
def IntOk (x : Int) : Prop := -9223372036854775808 ≤ x ∧ x ≤ 9223372036854775807
end Go.Proofs.YtnabbmdhhddfbaaDoor
namespace Go.Proofs.YtnabbmdhhddfbaaDoor
open Go.ChangeShapes Go.WideShapes Go.RowKit Go.Deep
theorem weightsAll_mem {H : Type} {P : Program} {e : TypeId} {d : DataW H} : ∀ {l : List (DataW H)}, d ∈ l → ∀ n ∈ d.weights P e, n ∈ DataW.weightsAll P e l
  | x :: l, h, n, hn => by
    simp only [DataW.weightsAll, List.mem_append]
    rcases List.mem_cons.1 h with rfl | h
    · exact .inl hn
    · exact .inr (weightsAll_mem h n hn)
/-- Each argument's weights are bounded. -/
theorem sized_arg {H : Type} {P : Program} {ts : List TypeId} {ds : List (DataW H)} (h : (DataW.weightsEach P ts ds).all (· ≤ reachBytes) = true) {j : Nat} {t : TypeId} {d : DataW H} (ht : ts[j]? = some t) (hd : ds[j]? = some d) : ∀ y ∈ d.weights P t, y ≤ reachBytes :=
  fun y hy => of_decide_eq_true (List.all_eq_true.1 h _ (DataW.weights_mem_each ht hd y hy))
section
variable {H : Type} {enc : TypeId × Value → H} {P : Program}
/-- The cells of a slice that came in: read as a list; its elements' sizes bounded. -/
theorem rd_cellsS {α : Type} {encα : α → List Value} {k : Nat} (hk : ∀ x, (encα x).length = k) (hk0 : 0 < k) {good : α → Prop} {W : World} {t e : TypeId} (ht : P.underlying t = some (.slice e)) (hC : P.cellsOf e = k)
    (hel : ∀ (n : Nat) (cs : List Value) (x : DataW H × List MemPlace), DataW.trod enc P W 0 (fun _ => true) true n e cs = some x → (∀ y ∈ x.1.weights P e, y ≤ reachBytes) → ∃ a : α, cs = encα a ∧ good a) {fuel : Nat} {cs : List Value} {x : DataW H × List MemPlace}
    (hf : DataW.trod enc P W 0 (fun _ => true) true fuel t cs = some x) (hsz : ∀ y ∈ x.1.weights P t, y ≤ reachBytes) :
    ∃ (a : Option Addr) (n c : Nat) (l : List α), cs = [.slice a n c] ∧ l.length = n ∧ n ≤ 9223372036854775807 ∧ (n ≤ c ∧ c ≤ 9223372036854775807) ∧ n * P.bytesOf e ≤ reachBytes ∧ (a = none → n = 0 ∧ c = 0) ∧ Rd W a (fl encα l) ∧ ∀ i (hi : i < l.length), good l[i] := by
  rcases open_slice ht hf with ⟨rfl, _⟩ | ⟨a', len, cap, m, n, D, Pl, rfl, hb, hlc, hcm, hm, hx, hi⟩
  · exact ⟨none, 0, 0, [], rfl, rfl, by omega, ⟨by omega, by omega⟩, by simp, fun _ => ⟨rfl, rfl⟩, Rd.nil _ _, fun i hi => absurd hi (by simp)⟩
  · have hwt : ∀ i, i < len → ∀ y ∈ (D i).weights P e, y ≤ reachBytes := by
      intro i hil y hy
      refine hsz y ?_
      rw [hx]
      simp only [DataW.weights, ht, List.mem_cons, List.mem_append]
      exact .inr (.inl (weightsAll_mem (List.mem_map.2 ⟨i, List.mem_range.2 hil, rfl⟩) y hy))
    have hlen : len * P.bytesOf e ≤ reachBytes := by
      have h1 := hsz ((((List.range len).map D).length + ((List.range (m - len)).map fun j => D (len + j)).length) * P.bytesOf e) (by rw [hx]; simp only [DataW.weights, ht, List.mem_cons, true_or])
      refine Nat.le_trans (Nat.mul_le_mul_right _ ?_) h1
      simp
    simp only [if_true] at hm
    subst hm
    rw [hC] at hi
    have hex : ∀ i, i < len → ∃ x : α, good x ∧ ∀ j, j < k → W.cell? (a'.add (i * k + j)) = (encα x)[j]? := by
      intro i hil
      obtain ⟨cs', h1, h2⟩ := hi i (by omega)
      obtain ⟨x, rfl, hg⟩ := hel _ _ _ h2 (hwt i hil)
      obtain ⟨_, _, hat⟩ := World.cells?_some h1
      refine ⟨x, hg, fun j hj => ?_⟩
      rw [← Go.Deep.add_add]
      exact hat j hj
    have hls : ∀ n, n ≤ len → ∃ l : List α, l.length = n ∧ ∀ i (hi : i < l.length), good l[i] ∧ ∀ j, j < k → W.cell? (a'.add (i * k + j)) = (encα l[i])[j]? := by
      intro n
      induction n with
      | zero => intro _; exact ⟨[], rfl, fun i hi => absurd hi (by simp)⟩
      | succ n ih =>
        intro hn
        obtain ⟨l, hl, hg⟩ := ih (by omega)
        obtain ⟨x, hx1, hx2⟩ := hex n (by omega)
        refine ⟨l ++ [x], by simp [hl], fun i hi => ?_⟩
        by_cases e3 : i < l.length
        · rw [List.getElem_append_left e3]; exact hg i e3
        · obtain rfl : i = n := by simp at hi; omega
          rw [List.getElem_append_right (by omega)]
          simpa [hl] using ⟨hx1, hx2⟩
    obtain ⟨l, hl, hg⟩ := hls len (Nat.le_refl _)
    refine ⟨some a', len, _, l, rfl, hl, by unfold maxLen at hcm; omega, ⟨hlc, by unfold maxLen at hcm; omega⟩, hlen, (fun e => by cases e), ?_, fun i hi => (hg i hi).1⟩
    intro h0
    rw [fl_length hk, hl] at h0
    have hlen0 : 0 < len := by
      rcases Nat.eq_zero_or_pos len with e4 | e4
      · rw [e4] at h0; simp at h0
      · exact e4
    have hcell : ∀ i, i < len * k → W.cell? (a'.add i) = (fl encα l)[i]? := by
      intro i hi
      have hq : i / k < len := (Nat.div_lt_iff_lt_mul hk0).2 hi
      have hr : i % k < k := Nat.mod_lt _ hk0
      have e5 : i / k * k + i % k = i := by rw [Nat.mul_comm]; exact Nat.div_add_mod i k
      have h1 := (hg (i / k) (by rw [hl]; exact hq)).2 (i % k) hr
      have h2 := fl_getElem? hk l (i / k) (i % k) hr
      have hq2 : i / k < l.length := by rw [hl]; exact hq
      rw [List.getElem?_eq_getElem hq2] at h2
      simp only [Option.bind_some] at h2
      rw [e5] at h1 h2
      rw [h1, h2]
    obtain ⟨bb, off, sub⟩ := a'
    have hs0 := hcell 0 h0
    have hne : (fl encα l)[0]? = some ((fl encα l)[0]'(by rw [fl_length hk, hl]; exact h0)) := List.getElem?_eq_getElem _
    rw [hne] at hs0
    have hsub : sub = none := by
      cases sub with
      | none => rfl
      | some z =>
        simp only [Addr.add, if_true, World.cell?, Option.isSome_some] at hs0
        split at hs0 <;> cases hs0
    subst hsub
    refine ⟨bb, off, rfl, World.block_lt_of_cell? W _ hs0, fun i hi => ?_⟩
    rw [fl_length hk, hl] at hi
    have h1 := hcell i hi
    rw [List.getElem?_eq_getElem (by rw [fl_length hk, hl]; exact hi)] at h1
    rw [List.getD_eq_getElem?_getD, List.getElem?_eq_getElem (by rw [fl_length hk, hl]; exact hi)]
    refine Eq.trans ?_ h1
    by_cases hi0 : i = 0
    · subst hi0; rfl
    · simp only [Addr.add, if_neg hi0]
/-- A slice that came in: read as a list; its elements' sizes bounded. -/
theorem rd_openS {α : Type} {encα : α → List Value} {k : Nat} (hk : ∀ x, (encα x).length = k) (hk0 : 0 < k) {good : α → Prop} {W : World} {t e : TypeId} (ht : P.underlying t = some (.slice e)) (hC : P.cellsOf e = k)
    (hel : ∀ (n : Nat) (cs : List Value) (x : DataW H × List MemPlace), DataW.trod enc P W 0 (fun _ => true) true n e cs = some x → (∀ y ∈ x.1.weights P e, y ≤ reachBytes) → ∃ a : α, cs = encα a ∧ good a) {r : Reach} {b0 : Nat} {v : Value} {d : DataW H} {ps : List MemPlace}
    (hv : Value.okWide P W r b0 t v) (h : DataW.Trod enc P W 0 (fun _ => true) true t v d ps) (hsz : ∀ y ∈ d.weights P t, y ≤ reachBytes) :
    ∃ (a : Option Addr) (n c : Nat) (l : List α), v = .slice a n c ∧ l.length = n ∧ n ≤ 9223372036854775807 ∧ (n ≤ c ∧ c ≤ 9223372036854775807) ∧ n * P.bytesOf e ≤ reachBytes ∧ (a = none → n = 0 ∧ c = 0) ∧ Rd W a (fl encα l) ∧ ∀ i (hi : i < l.length), good l[i] := by
  obtain ⟨a, len, cap, rfl⟩ := okWide_slice ht hv
  obtain ⟨fuel, hf⟩ := h
  obtain ⟨a', n, c, l, hcs, h1⟩ := rd_cellsS hk hk0 ht hC hel hf hsz
  have e2 : (Value.slice a len cap) = .slice a' n c := by simpa [Value.cells] using hcs
  exact ⟨a', n, c, l, e2, h1⟩
end
theorem cellsInt : Tryd.prog.cellsOf 3 = 1 := by kernel_rfl
theorem cellsStr : Tryd.prog.cellsOf 9 = 1 := by kernel_rfl
theorem cellsU64 : Tryd.prog.cellsOf 44 = 1 := by kernel_rfl
theorem cellsNd : Tryd.prog.cellsOf 60 = 2 := by kernel_rfl
theorem cellsVs : Tryd.prog.cellsOf 22 = 1 := by kernel_rfl
theorem cellsTab : Tryd.prog.cellsOf 24 = 2 := by kernel_rfl
theorem bytesU64 : Tryd.prog.bytesOf 44 = 8 := by kernel_rfl
theorem bytesNd : Tryd.prog.bytesOf 60 = 24 := by kernel_rfl
def VOk (x : Nat) : Prop := x < 18446744073709551616
def NdOk (x : Nd) : Prop := IntOk x.1 ∧ x.2.size ≤ 140737488355328
theorem rd_u64s {H : Type} {enc : TypeId × Value → H} {W : World} (n : Nat) (cs : List Value) (x : DataW H × List MemPlace) (h : DataW.trod enc Tryd.prog W 0 (fun _ => true) true n 44 cs = some x) (_ : ∀ y ∈ x.1.weights Tryd.prog 44, y ≤ reachBytes) : ∃ a : Nat, cs = encV a ∧ VOk a := by
  obtain ⟨z, rfl, _, hw⟩ := DataW.trod_int Tryd.underlying44 h
  have hb := bounds_u64 hw
  refine ⟨z.toNat, ?_, by unfold VOk; omega⟩
  show _ = [Value.int .u64 ((z.toNat : Nat) : Int)]
  rw [Int.toNat_of_nonneg hb.1]
theorem rd_nds {H : Type} {enc : TypeId × Value → H} {W : World} (n : Nat) (cs : List Value) (x : DataW H × List MemPlace) (h : DataW.trod enc Tryd.prog W 0 (fun _ => true) true n 60 cs = some x) (hsz : ∀ y ∈ x.1.weights Tryd.prog 60, y ≤ reachBytes) : ∃ a : Nd, cs = encNd a ∧ NdOk a := by
  obtain ⟨y0, y1, m, rfl, hlen, h0, h1⟩ := trod_struct2 Tryd.underlying60 h
  rw [cellsNd] at hlen
  obtain ⟨c0, c1, rfl⟩ := list_two hlen
  simp only [cellsInt, cellsStr] at h0 h1
  obtain ⟨z0, e0, e00, w0⟩ := DataW.trod_int Tryd.underlying3 h0
  obtain ⟨z1, e1, e11, w1⟩ := DataW.trod_string Tryd.underlying9 h1
  refine ⟨(z0, z1), ?_, bounds_i64 w0, ?_⟩
  · simp at e0 e1
    rw [e0, e1]
    rfl
  · have h2 : z1.data.toList.length ≤ reachBytes := hsz z1.data.toList.length (by
      rw [e00, e11]
      simp only [DataW.weights, Tryd.underlying60]
      show _ ∈ DataW.weightsEach Tryd.prog [_, _] [_, _]
      simp only [DataW.weightsEach, DataW.weights]
      simp)
    have h3 : z1.data.toList.length = z1.size := Array.length_toList
    rw [h3] at h2
    unfold reachBytes at h2
    have h4 : z1.size ≤ 140737488351232 := h2
    show z1.size ≤ _
    omega
set_option maxRecDepth 100000 in
/-- A tree that came in. -/
theorem open_nds {H : Type} {enc : TypeId × Value → H} {W : World} {r : Reach} {b0 : Nat} {v : Value} {d : DataW H} {ps : List MemPlace} (hv : Value.okWide Tryd.prog W r b0 27 v) (h : DataW.Trod enc Tryd.prog W 0 (fun _ => true) true 27 v d ps) (hsz : ∀ y ∈ d.weights Tryd.prog 27, y ≤ reachBytes) :
    ∃ (a : Option Addr) (n c : Nat) (l : List Nd), v = .slice a n c ∧ l.length = n ∧ n ≤ 1152921504606846976 ∧ n ≤ c ∧ c ≤ 9223372036854775807 ∧ Rd W a (fl encNd l) ∧ (∀ i, i < n → (nS l i).size ≤ 9223372036854775807) ∧ ∀ i, i < n → IntOk (nP l i) := by
  obtain ⟨a, n, c, l, h1, h2, h3, ⟨h4a, h4b⟩, h4, h5, h6, h7⟩ := rd_openS encNd_len (by omega) (good := NdOk) Tryd.underlying27 cellsNd rd_nds hv h hsz
  rw [bytesNd] at h4
  have hg : ∀ i, i < n → NdOk (nP l i, nS l i) := fun i hi => by
    have h8 := h7 i (by omega)
    have e : (nP l i, nS l i) = l[i]'(by omega) := by simp [nP, nS, h2 ▸ hi]
    rw [e]; exact h8
  refine ⟨a, n, c, l, h1, h2, by unfold reachBytes at h4; omega, h4a, h4b, h6, fun i hi => ?_, fun i hi => (hg i hi).1⟩
  have h9 : (nS l i).size ≤ 140737488355328 := (hg i hi).2
  omega
set_option maxRecDepth 100000 in
/-- A table that came in. -/
theorem open_tab {H : Type} {enc : TypeId × Value → H} {W : World} {r : Reach} {b0 : Nat} {v : Value} {d : DataW H} {ps : List MemPlace} (hv : Value.okWide Tryd.prog W r b0 24 v) (h : DataW.Trod enc Tryd.prog W 0 (fun _ => true) true 24 v d ps) (hsz : ∀ y ∈ d.weights Tryd.prog 24, y ≤ reachBytes) :
    ∃ (L : Int) (a : Option Addr) (n c : Nat) (l : List Nat), v = .agg #[.int .i64 L, .slice a n c] ∧ IntOk L ∧ l.length = n ∧ n ≤ 1152921504606846976 ∧ n ≤ c ∧ c ≤ 9223372036854775807 ∧ Rd W a (fl encV l) ∧ FitV l := by
  obtain ⟨cs, rfl, hcs⟩ := okWide_struct Tryd.underlying24 hv
  obtain ⟨fuel, hf⟩ := h
  obtain ⟨y0, y1, m, hdp, hlen, h0, h1⟩ := trod_struct2 Tryd.underlying24 hf
  obtain ⟨rfl, rfl⟩ := Prod.mk.inj hdp
  have hlen2 : cs.toList.length = 2 := by rw [Array.length_toList, hcs, cellsTab]
  obtain ⟨c0, c1, hc⟩ := list_two hlen2
  have hc2 : cs = #[c0, c1] := by rw [← Array.toList_inj]; exact hc
  subst hc2
  simp only [cellsInt, cellsVs, Value.cells] at h0 h1
  obtain ⟨z0, e0, e00, w0⟩ := DataW.trod_int Tryd.underlying3 h0
  have hsz1 : ∀ y ∈ y1.1.weights Tryd.prog 22, y ≤ reachBytes := fun y hy => hsz y (by
    simp only [DataW.weights, Tryd.underlying24]
    show _ ∈ DataW.weightsEach Tryd.prog [_, _] [_, _]
    simp only [DataW.weightsEach, List.mem_append]
    exact .inr (.inl hy))
  obtain ⟨a, n, c, l, g1, g2, g3, ⟨g4a, g4b⟩, g4, g5, g6, g7⟩ := rd_cellsS encV_len (by omega) (good := VOk) Tryd.underlying22 cellsU64 rd_u64s h1 hsz1
  rw [bytesU64] at g4
  refine ⟨z0, a, n, c, l, ?_, bounds_i64 w0, g2, by unfold reachBytes at g4; omega, g4a, g4b, g6, fun i hi => ?_⟩
  · simp at e0 g1
    rw [e0, g1]
  · rw [vA_get hi]; exact g7 i hi
end Go.Proofs.YtnabbmdhhddfbaaDoor
