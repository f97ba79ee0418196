/- The body of the statement GlottoLeaves, at every input. -/
import Derived.Test.YtahgffjkkdbjeaaDoorLC
import Derived.Test.YtahgffjkkdbjeaaDoorLD
import Derived.Test.YtahgffjkkdbjeaaDoorXB
import Derived.IntWalk
namespace Go.Proofs.YtahgffjkkdbjeaaDoor
open Go.RowKit
theorem scK_topL {d : List Fr} {c i q n m : Nat} (h : GoodD d n q m) (hi : i < n * n) (hs : scK d c i * (fD d i).toNat = (fN d i).toNat * c) : scK d c i ≤ m * c := by
  have h1 := h.num i hi
  have h2 := h.den i hi
  have h3 := h.one
  have h4 : 1 ≤ (fD d i).toNat := by omega
  have h5 : scK d c i * 1 ≤ scK d c i * (fD d i).toNat := Nat.mul_le_mul_left _ h4
  have h6 : (fN d i).toNat * c ≤ m * c := Nat.mul_le_mul_right _ (by omega)
  omega
theorem start_ofL {d : List Fr} {n q m c : Nat} {g : Nat → Nat} (h : GoodD d n q m) (hc : 0 < c) (hs : ∀ i, i < n * n → scK d c i * (fD d i).toNat = (fN d i).toNat * c) (hg : ∀ i j, i < n → j < n → g (i * 24 + j) = dist d c n i j) (hb : ∀ t, g t ≤ 1073741824) : Start n c (m * c) g := by
  refine ⟨h.one.1, h.one.2.1, hc, hb, fun i j hi hj => ?_, fun i j hi hj _ => ?_⟩
  · rw [hg i j hi hj, hg j i hj hi]
    have h1 := h.sym i j hi hj
    unfold dist scK qN qD
    rw [fr_getD, fr_getD, h1.1, h1.2]
  · rw [hg i j hi hj]
    exact scK_topL h (idxLt hi hj) (hs _ (idxLt hi hj))
def chA (a : Nat) : ByteArray := ⟨#[UInt8.ofNat (97 + a)]⟩
theorem chA_nm (a : Nat) : (⟨#[76]⟩ : ByteArray) ++ chA a = nmA a := rfl
theorem run_name (w : World) (a : Nat) (ha : a < 24) : (convert 59 9 (.slice (some ⟨w.heap.size, 0, none⟩) 1 1)).run Tryd.prog (w.alloc (.cells #[.int .u8 (97 + (a : Int))] 5)) = .ok (.string (chA a)) (w.alloc (.cells #[.int .u8 (97 + (a : Int))] 5)) := by
  refine run_str w [UInt8.ofNat (97 + a)] fun j hj => ?_
  have h : (UInt8.ofNat (97 + a)).toNat = 97 + a := by rw [UInt8.toNat_ofNat_of_lt']; show 97 + a < 256; omega
  rcases j with _ | j
  · simp [h]; try omega
  · simp at hj
theorem kids_next (t : List Nd) {v p : Nat} (h0 : 0 < v) (hp : nP t v = (p : Int)) (u : Nat) : upd (fun u => (kidsN t u v : Int)) p ((kidsN t p v : Int) + 1) u = (kidsN t u (v + 1) : Int) := by
  unfold upd
  show _ = ((kidsN t u v + (if 0 < v ∧ nP t v = (u : Int) then 1 else 0) : Nat) : Int)
  by_cases e : u = p
  · subst e
    rw [if_pos rfl, if_pos ⟨h0, hp⟩]; rfl
  · rw [if_neg e, if_neg (by omega)]; rfl
theorem kids_zero (t : List Nd) (u : Nat) : kidsN t u 1 = kidsN t u 0 := by
  show kidsN t u 0 + (if 0 < 0 ∧ nP t 0 = (u : Int) then 1 else 0) = _
  rw [if_neg (by omega)]
  rfl
theorem kids_bd (t : List Nd) (u : Nat) : ∀ v, kidsN t u v ≤ v
  | 0 => Nat.le_refl _
  | v + 1 => by
    have := kids_bd t u v
    show kidsN t u v + (if 0 < v ∧ nP t v = (u : Int) then 1 else 0) ≤ v + 1
    split <;> omega
theorem made_kids {w : World} {n : Nat} (hn : n ≤ 1000) (t : List Nd) : FS (w.alloc (.cells (madeCells #[Value.int .i64 0] n) 3)) w.heap.size n n (fun u => (kidsN t u 0 : Int)) := by
  have := owns_made (w := w) (base := 0) (e := 3) (k := 1) (n := n) (cs := madeCells (encI 0).toArray (n * 1)) (Nat.zero_le _) (size_madeCells _ _) (by unfold maxLen; omega)
  rw [made_cells encI 1 (fun _ => rfl) (by omega)] at this
  unfold FS
  rw [show (List.range n).map (fun u => (kidsN t u 0 : Int)) = List.replicate n 0 by
    rw [List.eq_replicate_iff]
    refine ⟨by simp, fun x hx => ?_⟩
    obtain ⟨k, _, rfl⟩ := List.mem_map.1 hx
    rfl]
  rw [Nat.mul_one] at this
  exact this
theorem sets_start {w : World} {n : Nat} (hn : n ≤ 1000) (S : Nat → List Nat) : SetsW (w.alloc (.cells (madeCells #[Value.slice none 0 0] n) 29)) w.heap.size w.heap.size n 0 S (fun _ => (none, 0, 0)) := by
  refine ⟨?_, fun i hi => absurd hi (by omega), fun i hi => absurd hi (by omega), fun i hi => absurd hi (by omega), fun i j _ hj => absurd hj (by omega), Nat.zero_le _⟩
  have := owns_made (w := w) (base := w.heap.size) (e := 29) (k := 1) (n := n) (cs := madeCells (encR (none, 0, 0)).toArray (n * 1)) (Nat.le_refl _) (size_madeCells _ _) (by unfold maxLen; omega)
  rw [made_cells encR 1 encR_len (by omega), Nat.mul_one] at this
  rw [show (List.range n).map (fun _ => ((none, 0, 0) : Rw)) = List.replicate n (none, 0, 0) by
    rw [List.eq_replicate_iff]
    refine ⟨by simp, fun x hx => ?_⟩
    obtain ⟨k, _, rfl⟩ := List.mem_map.1 hx
    rfl]
  exact this
theorem SetsW.congr {w : World} {base g n v : Nat} {S S' : Nat → List Nat} {rs rs' : Nat → Rw} (h : SetsW w base g n v S rs) (e : ∀ i, S i = S' i) (e2 : ∀ i, rs i = rs' i) : SetsW w base g n v S' rs' := by
  rw [show S' = S from (funext e).symm, show rs' = rs from (funext e2).symm]; exact h
def innB (i : Nat) : Value := .string (innS i)
theorem inn_blk : (#[.string ⟨#[109, 48]⟩, .string ⟨#[109, 49]⟩, .string ⟨#[109, 50]⟩, .string ⟨#[109, 51]⟩, .string ⟨#[109, 52]⟩, .string ⟨#[109, 53]⟩, .string ⟨#[109, 54]⟩, .string ⟨#[109, 55]⟩, .string ⟨#[109, 56]⟩, .string ⟨#[109, 57]⟩, .string ⟨#[109, 49, 48]⟩, .string ⟨#[109, 49, 49]⟩, .string ⟨#[109, 49, 50]⟩, .string ⟨#[109, 49, 51]⟩, .string ⟨#[109, 49, 52]⟩, .string ⟨#[109, 49, 53]⟩, .string ⟨#[109, 49, 54]⟩, .string ⟨#[109, 49, 55]⟩, .string ⟨#[109, 49, 56]⟩, .string ⟨#[109, 49, 57]⟩, .string ⟨#[109, 50, 48]⟩, .string ⟨#[109, 50, 49]⟩, .string ⟨#[109, 50, 50]⟩] : Array Value) = ofF 23 innB := by
  have h : (#[.string ⟨#[109, 48]⟩, .string ⟨#[109, 49]⟩, .string ⟨#[109, 50]⟩, .string ⟨#[109, 51]⟩, .string ⟨#[109, 52]⟩, .string ⟨#[109, 53]⟩, .string ⟨#[109, 54]⟩, .string ⟨#[109, 55]⟩, .string ⟨#[109, 56]⟩, .string ⟨#[109, 57]⟩, .string ⟨#[109, 49, 48]⟩, .string ⟨#[109, 49, 49]⟩, .string ⟨#[109, 49, 50]⟩, .string ⟨#[109, 49, 51]⟩, .string ⟨#[109, 49, 52]⟩, .string ⟨#[109, 49, 53]⟩, .string ⟨#[109, 49, 54]⟩, .string ⟨#[109, 49, 55]⟩, .string ⟨#[109, 49, 56]⟩, .string ⟨#[109, 49, 57]⟩, .string ⟨#[109, 50, 48]⟩, .string ⟨#[109, 50, 49]⟩, .string ⟨#[109, 50, 50]⟩] : Array Value) = ofF 23 (fun i => .string (inT i)) := by kernel_rfl
  rw [h]
  exact ofF_congr fun i hi => by unfold innB; rw [innS_tab (by omega)]
theorem inn_size {k : Nat} (h : k < 23) : (innS k).size ≤ maxLen := by
  rw [innS_tab (by omega)]
  unfold inT maxLen
  split
  · show 2 ≤ _; omega
  · show 3 ≤ _; omega
theorem set_any {l : List Mg} {k A b : Nat} (h : b ∈ setK l k A ↔ lsK l k b = A) : (iN (setK l k A)).any (isI (b : Int)) = decide (lsK l k b = A) := by
  rw [Bool.eq_iff_iff, List.any_eq_true, decide_eq_true_eq, ← h]
  constructor
  · rintro ⟨x, hx, hi⟩
    obtain ⟨y, hy, rfl⟩ := List.mem_map.1 hx
    unfold isI at hi
    simp only [decide_eq_true_eq] at hi
    have : b = y := by omega
    rw [this]; exact hy
  · intro hb
    exact ⟨(b : Int), List.mem_map.2 ⟨b, hb, rfl⟩, by unfold isI; simp⟩
theorem SetsW.put2 {w w' : World} {base g n v : Nat} {S : Nat → List Nat} {rs : Nat → Rw} (h : SetsW w base g n v S rs) {i : Nat} {x : Rw} {X : List Nat} (hi : i < v) (hrows : w'.ownsRow base 29 1 (.slice (some ⟨g, 0, none⟩) n n) n (fl encR ((List.range n).map rs))) (hrow : ∀ j, j < v → j ≠ i → w'.ownsRow base 3 1 (.slice (rs j).1 (rs j).2.1 (rs j).2.2) (S j).length (fl encI (iN (S j))))
    (hx : w'.ownsRow base 3 1 (.slice x.1 x.2.1 x.2.2) X.length (fl encI (iN X))) (hl : x.2.1 = X.length) (hb : ∃ b, x.1 = some ⟨b, 0, none⟩ ∧ b ≠ g) (hf : ∀ j, j < v → j ≠ i → (rs j).1 ≠ x.1) :
    SetsW (w'.setCell ⟨g, i, none⟩ (.slice x.1 x.2.1 x.2.2)) base g n v (fun j => if j = i then X else S j) (fun j => if j = i then x else rs j) := by
  have hle := h.le
  have hother : ∀ (r : Rw) (Y : List Nat), w'.ownsRow base 3 1 (.slice r.1 r.2.1 r.2.2) Y.length (fl encI (iN Y)) → (∃ b, r.1 = some ⟨b, 0, none⟩ ∧ b ≠ g) → (w'.setCell ⟨g, i, none⟩ (.slice x.1 x.2.1 x.2.2)).ownsRow base 3 1 (.slice r.1 r.2.1 r.2.2) Y.length (fl encI (iN Y)) := fun r Y hr hb => by
    obtain ⟨b, e, hne⟩ := hb
    refine World.ownsRow.kept hr (grown_set w' g i _) (.inr ?_)
    rw [e]
    simp [Value.ownBlock, hne]
  refine ⟨?_, fun j hj => ?_, fun j hj => ?_, fun j hj => ?_, fun j k hjk hk => ?_, hle⟩
  · have h1 := (World.ownsRow.stored hrows i (.slice x.1 x.2.1 x.2.2)).1
    rw [fl_setR, setR_put x (by omega)] at h1
    exact h1
  · by_cases e : j = i
    · subst e
      simp only [if_true]
      exact hother x X hx hb
    · simp only [if_neg e]
      exact hother _ _ (hrow j hj e) (h.blk j hj)
  · by_cases e : j = i
    · simp only [if_pos e]; exact hl
    · simp only [if_neg e]; exact h.len j hj
  · by_cases e : j = i
    · simp only [if_pos e]; exact hb
    · simp only [if_neg e]; exact h.blk j hj
  · by_cases e : j = i
    · simp only [if_pos e, if_neg (show k ≠ i by omega)]
      exact Ne.symm (hf k hk (by omega))
    · by_cases e2 : k = i
      · simp only [if_neg e, if_pos e2]
        exact hf j (by omega) e
      · simp only [if_neg e, if_neg e2]
        exact h.far j k hjk hk
theorem gr_cell {W w' : World} {r : Option Nat} (h : W.grownBy w' r) {b i : Nat} {v : Value} (hv : W.cell? ⟨b, i, none⟩ = some v) (hne : some b ≠ r) : w'.cell? ⟨b, i, none⟩ = some v :=
  (World.cell?_of_block (h.block b (World.block_lt_of_cell? W _ hv) hne)).trans hv
theorem encI_oneL : ∀ x, ∀ u ∈ encI x, u.oneCell' = true := fun x u hu => by
  simp [encI] at hu
  subst hu
  rfl
set_option maxRecDepth 100000 in
set_option maxHeartbeats 4000000 in
theorem leaves_any (N c : Nat) (ct u : Int) (la : Option Addr) (l : List Int) (w : World) (hc0 : 0 ≤ ct) (hc1 : ct ≤ 255) (hu0 : 0 ≤ u) (hu1 : u ≤ 255) (hl : l.length = N) (hN : N ≤ 9223372036854775807) (hA : Rd w la (fl encU l)) (hb : ∀ i, i < N → 0 ≤ uA l i ∧ uA l i ≤ 65535) :
    Calls Tryd.prog 8 #[.int .u8 ct, .slice la N c, .int .u8 u] w fun e w' => e = .returned (.bool true) ∧ Below w.heap.size w w' := by
  obtain ⟨n, hn⟩ : ∃ n : Nat, 1 + ct % 24 = n := ⟨(1 + ct % 24).toNat, by omega⟩
  have hn1 : 1 ≤ n := by omega
  have hn2 : n ≤ 24 := by omega
  have hgood := Lib.hid (far_good (l := l) (by rw [hl]; exact hb) hu0 hn1 hn2)
  have HF := Lib.hid (fun w1 => far_any n N c la l u w1 hn1 (by omega) hl hN hu0 hu1)
  have HA := Lib.hid hA
  have HB := Lib.hid hb
  clear hl hA hb
  obtain ⟨d, hd⟩ : ∃ d, d = farL l u n := ⟨_, rfl⟩
  rw [← hd] at hgood
  have hlen := Lib.hid hgood.out.len
  obtain ⟨M, hM⟩ : ∃ M, n * n = M := ⟨_, rfl⟩
  have HM := Lib.hid hM
  have hM2 : M ≤ 576 := by rw [← hM]; exact Nat.mul_le_mul hn2 hn2
  have HD := Lib.hid hd
  clear hM hd
  obtain ⟨cc, hok1, hcp1, hc16, hs1⟩ := hgood.out.ok
  have HS := Lib.hid (And.intro hok1 hs1)
  clear hok1 hs1
  go_enter Tryd.func8, Tryd.ntmps8
  go_wp2_with fail
  refine (HF.out _ HA.out HB.out).mono ?_
  rintro e w1 ⟨g, rfl, hg, hff, hb1⟩
  rw [HM.out] at hff ⊢
  have hrd := Lib.hid (show Rd w1 (some ⟨g, 0, none⟩) (fl encFr d) by have := ff_rd hff; rw [← HM.out] at this; rw [HD.out]; exact this)
  clear hff
  go_wp2_with fail
  refine (merges_any (some ⟨g, 0, none⟩) n M M d w1 (by omega) (by omega) (by rw [hlen.out, HM.out]) (by omega) hrd.out hgood.out.fit).mono ?_
  rintro e w2 ⟨hb2, ⟨x, hx, _⟩ | ⟨m, c', v, g1, hm, hm1, hm24, hc', rfl, hown1, hg1, hg1b⟩⟩
  · rw [HS.out.1] at hx; cases hx
  obtain rfl : m = n := by omega
  rw [HS.out.1] at hc'
  obtain rfl : cc = c' := by injection hc'
  obtain ⟨ma, mc, rfl, hmb⟩ := owns_slice hown1
  have hst := start_ofL hgood.out hcp1 HS.out.2 hg1 hg1b
  obtain ⟨NK, hK⟩ : ∃ NK, m - 1 = NK := ⟨_, rfl⟩
  obtain ⟨L, hL⟩ : ∃ L, (mRun m cc g1 (m - 1)).l = L := ⟨_, rfl⟩
  have hLlen : L.length = NK := by rw [← hL, mRun_len, hK]
  have HLlen := Lib.hid hLlen
  have HOK := Lib.hid (show StepsOk m L by rw [← hL]; exact hst.steps)
  have HEND := Lib.hid (show (∀ a, a < m → lsK L NK a = 0) ∧ stS m L NK 0 = m by
    rw [← hL, ← hK]
    refine ⟨fun a ha => hst.one ha, ?_⟩
    rw [stS_run (m - 1) (Nat.le_refl _)]
    exact hst.endS.1)
  rw [hL] at hown1
  rw [hK] at hown1 ⊢
  have HMG := Lib.hid (rd_of_owns hown1)
  have HB2 := Lib.hid (bl_trans hb1 hb2)
  have hNKb : NK ≤ 23 := by omega
  have hnk1 : NK + 1 = m := by omega
  clear hg1 hg1b hb1 hb2 hmb hst hK hL hLlen hown1 hc' hrd
  have hnm0 : w2.ownsRow w2.heap.size 9 1 (.slice none 0 0) 0 (fl encS (nmsL 0)) := World.ownsRow_nil _ _ _ _
  have hbz := Below.refl w2.heap.size w2
  go_wp2_with fail
  go_loopw [45, 10, 11] (fun x v _ wr => ∃ a : Nat, a ≤ m ∧ x = .int .i64 a ∧ wr.ownsRow w2.heap.size 9 1 v a (fl encS (nmsL a)) ∧ Below w2.heap.size w2 wr) (fun x _ _ _ => m - (intOf x).toNat)
  case atStart => exact ⟨0, by omega, rfl, hnm0, hbz⟩
  case round =>
    obtain ⟨a, ha, rfl, hown, hbl⟩ := hrel
    clear hnm0 hbz
    by_cases hlt : a < m
    · have hrun := run_name wr a (by omega)
      have hb1 := bl_alloc hbl (.cells #[.int .u8 (97 + (a : Int))] 5)
      have hb2 := bl_alloc hb1 (.cells #[.string ((⟨#[76]⟩ : ByteArray) ++ chA a)] 9)
      go_upto_region 7 with fail
      go_wp2_with (at_builtin; refine push_S rfl (.tmp 48) (.tmp 55) rfl w2.heap.size u10 (nmsL a) a (nmsL_len a).symm rfl ((hown.alloc _).alloc _) (wr.heap.size + 1) 1 ((⟨#[76]⟩ : ByteArray) ++ chA a) rfl (by first | exact Blk.new2 _ _ _ _ | (rw [World.size_alloc]; exact Blk.new2 _ _ _ _)) (by omega) hb2.size ?_; intro g5 cap5 w3 hw4 hw5 hw6 hw7)
      have hv : ∀ r, u10.ownBlock = some r → w2.heap.size ≤ r ∧ r < wr.heap.size := hown.lt
      rw [chA_nm, nmsL_next] at hw4
      have hb3 := Below.grown hb2 hw5 hb2.size (fun r hr => (hv r hr).1)
      clear hrun hb1 hb2 hw5 hw6 hw7 hv hown hbl
      go_wp2_with fail
      go_roundw
      case rel => exact ⟨a + 1, by omega, by go_num, hw4, hb3⟩
      case measure => simp [intOf]; omega
    · obtain rfl : a = m := by omega
      obtain ⟨na, nc, rfl, hna⟩ := owns_slice hown
      obtain ⟨w3, rfl⟩ : ∃ w3 : World, w3 = wr := ⟨_, rfl⟩
      have HNM := Lib.hid (rd_of_owns hown)
      have HMG3 := Lib.hid (HMG.out.bl hbl)
      have HB3 := Lib.hid (bl_trans HB2.out hbl)
      clear hown hbl hna
      go_wp2_with fail
      refine (tree_any a a nc NK mc na ma (nmsL a) L w3 (nmsL_len a) HLlen.out HNM.out HMG3.out (by omega) (by omega) (fun i hi => by rw [nmsL_at hi]; show 2 ≤ 9223372036854775807; omega)).mono ?_
      rintro e w4 ⟨v, rfl, hown, hb4⟩
      rw [leaves_E hn1 hn2 HOK.out]
      have hpt := pt_ok (names := nmsL a) (nm_ok (n := a) (K := NK) hn2 hNKb) (fun i hi => HOK.out.2 i (by rw [HLlen.out]; exact hi)) NK (Nat.le_refl _) 0 (by omega) (by rw [HEND.out.2]; omega)
      have htl := treeL_pt (leaves_E hn1 hn2 HOK.out) hn1 hn2 HOK.out
      rw [HLlen.out] at htl
      rw [← htl] at hpt
      obtain ⟨T, hT⟩ : ∃ T, treeL a (nmsL a) L = T := ⟨_, rfl⟩
      rw [hT] at hpt hown
      have hlenT : T.length = 2 * a - 1 := by have := hpt.len; rw [HEND.out.2] at this; omega
      have HCK := Lib.hid (show chkE T = 0 from if_pos (pt_tree hn2 hNKb (by rw [HEND.out.2]; omega) hpt))
      obtain ⟨TN, hTN⟩ : ∃ TN, T.length = TN := ⟨_, rfl⟩
      obtain ⟨ta, tc, rfl, hta⟩ := owns_slice hown
      have hTR := rd_of_owns hown
      have HTR := Lib.hid hTR
      have HPT := Lib.hid hpt
      have HTN := Lib.hid hTN
      have HTN2 := Lib.hid (show TN = 2 * a - 1 by omega)
      have htn1 : 1 ≤ TN := by omega
      have htn2 : TN ≤ 47 := by omega
      rw [hTN]
      have HSZ := Lib.hid (show ∀ v, v < TN → (nS T v).size ≤ 9223372036854775807 from fun v hv => by
        rcases HPT.out.node v (by rw [HTN.out]; exact hv) with ⟨b, b1, _, b3, _⟩ | ⟨j, b1, _, b3, _⟩
        · rw [b3, nmsL_at b1]; show 2 ≤ 9223372036854775807; omega
        · rw [b3, innS_tab (by omega)]
          unfold inT
          split
          · show 2 ≤ 9223372036854775807; omega
          · show 3 ≤ 9223372036854775807; omega)
      have HB4 := Lib.hid (bl_trans HB3.out hb4)
      have HNM4 := Lib.hid (HNM.out.bl hb4)
      have HMG4 := Lib.hid (HMG3.out.bl hb4)
      clear hown hb4 hpt htl hT hlenT hTN hTR hta
      have wm1 := IntWalk.i64_in (2 * (a : Int)) (by omega)
      have wm2 : 2 * (a : Int) - 1 = (TN : Int) := by have := HTN2.out; omega
      have wm3 : (a : Int) - 1 = (NK : Int) := by omega
      go_wp2_with fail
      refine (check_any ta TN tc T w4 HTN.out (by omega) HTR.out HSZ.out).mono ?_
      rintro e w5 ⟨rfl, hb5⟩
      rw [HCK.out]
      obtain ⟨i0, hi, hz0, hz1, hz2⟩ := info_parts info3
      have hmk := run_make (P := Tryd.prog) w5 29 3 i0 _ Tryd.underlying29 hi hz0 .i64 .i64 (TN : Int) (TN : Int) (by omega) (by omega) (by rw [hz2]; omega) (by omega)
      rw [hz1] at hmk
      simp only [Int.toNat_natCast, Nat.mul_one] at hmk
      have hmm := @run_makeMap Tryd.prog
      have hfs0 := made_kids (w := w5) (n := TN) (by omega) T
      have hfs1 : FS ((w5.alloc (.cells (madeCells #[Value.int .i64 0] TN) 3)).alloc (.map #[] 0)) w5.heap.size TN TN (fun u => (kidsN T u 0 : Int)) := hfs0.below (bl_alloc (Below.refl _ _) _)
      have hmh1 := MH.made (w5.alloc (.cells (madeCells #[Value.int .i64 0] TN) 3))
      rw [World.size_alloc] at hmh1
      have hbl1 := bl_alloc (bl_alloc (Below.refl _ w5) (.cells (madeCells #[Value.int .i64 0] TN) 3)) (.map #[] 0)
      have HTR5 := Lib.hid (HTR.out.bl hb5)
      have HNM5 := Lib.hid (HNM4.out.bl hb5)
      have HMG5 := Lib.hid (HMG4.out.bl hb5)
      have HB5 := Lib.hid (bl_trans HB4.out hb5)
      clear hb5 hfs0 HTR HNM4 HMG4
      go_wp2_with fail
      clear hmk hmm hi hz0 hz1 hz2 wm1 wm2 wm3
      obtain ⟨w6, hw6⟩ : ∃ w6, w6 = (w5.alloc (.cells (madeCells #[Value.int .i64 0] TN) 3)).alloc (.map #[] 0) := ⟨_, rfl⟩
      obtain ⟨gC, hgC⟩ : ∃ g, g = w5.heap.size := ⟨_, rfl⟩
      obtain ⟨gM, hgM⟩ : ∃ g, g = w5.heap.size + 1 := ⟨_, rfl⟩
      rw [← hw6] at hfs1 hmh1 hbl1 ⊢
      rw [← hgM] at hmh1 ⊢
      rw [← hgC] at hfs1 ⊢
      have hgCM : ¬ (gC = gM) := by omega
      have hgC5 : w5.heap.size ≤ gC := by omega
      have hgM5 : w5.heap.size ≤ gM := by omega
      clear hw6 hgC hgM
      go_loopw [97, 16, 17] (fun x _ _ wr => ∃ v : Nat, v ≤ TN ∧ x = .int .i64 v ∧ FS wr gC TN TN (fun u => (kidsN T u v : Int)) ∧ MH wr gM v (plF T v) (seenB T v) ∧ Below w5.heap.size w5 wr) (fun x _ _ _ => TN - (intOf x).toNat)
      case atStart => exact ⟨0, by omega, rfl, hfs1, hmh1, hbl1⟩
      case round =>
        obtain ⟨v, hv, rfl, hfs, hmh, hbl⟩ := hrel
        clear hfs1 hmh1 hbl1
        by_cases hlt : v < TN
        · obtain ⟨tb, tq, hta, htb, htc⟩ := rdNd HTR5.out (by rw [HTN.out]; omega)
          obtain ⟨G0, G1⟩ := htc v (by rw [HTN.out]; exact hlt)
          replace G0 := (hbl.cell (p := ⟨tb, tq + v * 2, none⟩) htb).trans G0
          replace G1 := (hbl.cell (p := ⟨tb, tq + v * 2 + 1, none⟩) htb).trans G1
          have hsz := HSZ.out v hlt
          have HNX := Lib.hid (And.intro (show updS (plF T v) (nS T v) (v : Int) = plF T (v + 1) from rfl) (seenB_next T v))
          have HP0 := Lib.hid HPT.out.par.root
          have HPP := Lib.hid (fun (h : 0 < v) => HPT.out.par.par v h (by rw [HTN.out]; exact hlt))
          have HKN := Lib.hid (fun p h0 hp => kids_next T (v := v) (p := p) h0 hp)
          have HKB := Lib.hid (fun u => kids_bd T u v)
          clear htc
          subst hta
          generalize nS T v = s at *
          by_cases h0 : v = 0
          · subst h0
            rw [HP0.out] at G0
            have hfs2 := hfs.congr (f' := fun u => ((kidsN T u (0 + 1) : Nat) : Int)) fun u _ => by rw [Nat.zero_add, kids_zero]
            have hmh1 := hmh.alloc (.cells #[.int .i64 (-1), .string s] 66)
            have hbl1 := bl_alloc hbl (.cells #[.int .i64 (-1), .string s] 66)
            simp only [Nat.zero_mul, Nat.add_zero] at G0 G1
            clear hmh hfs
            go_wp2_with (refine wpList_putH rfl (.tmp 102) (.tmp 104) (.tmp 105) 64 rfl Tryd.underlying64 rfl hmh1 (by omega) s rfl 0 rfl (by unfold maxLen; omega) (wf64 (by omega) (by omega)) ?_; intro w8 hm8 hg8)
            have hbl8 := Below.grown hbl1 hg8 (by have := hbl1.size; omega) (fun r hr => by rw [← Option.some.inj hr]; exact hgM5)
            have hfs8 : FS w8 gC TN TN fun u => ((kidsN T u (0 + 1) : Nat) : Int) := World.ownsRow.kept (World.ownsRow.alloc hfs2 _) hg8 (.inr (by simp only [Value.ownBlock]; intro h; exact hgCM (Option.some.inj h)))
            have hm9 : MH w8 gM (0 + 1) (plF T (0 + 1)) (seenB T (0 + 1)) := by rw [← HNX.out.1, ← HNX.out.2]; exact hm8
            clear hm8 hg8 hfs2 hmh1 hbl1 G0 G1
            go_wp2_with fail
            go_roundw
            case rel => exact ⟨0 + 1, by omega, by go_num, hfs8, hm9, hbl8⟩
            case measure => simp [intOf]; omega
          · obtain ⟨p, hp⟩ : ∃ p : Nat, nP T v = p := ⟨(nP T v).toNat, by have := HPP.out (by omega); omega⟩
            have hpv : p < v := by have := HPP.out (by omega); omega
            rw [hp] at G0
            have d0 : decide (0 < (v : Int)) = true := by simp; omega
            have d0n : decide (0 < v) = true := by simp; omega
            have hfs2 := Lib.hid (fun u (_ : u < TN) => HKN.out p (by omega) hp u)
            have hmh1 := hmh.alloc (.cells #[.int .i64 p, .string s] 66)
            have hbl1 := bl_alloc hbl (.cells #[.int .i64 p, .string s] 66)
            have hxb := Blk.new wr #[.int .i64 p, .string s] 66
            have hgCw : gC < wr.heap.size := FS.lt hfs
            have hgMw : gM < wr.heap.size := hmh.lt
            have hkb := HKB.out p
            clear hmh hp
            go_upto_region 18 with (refine wpList_putH rfl (.tmp 102) (.tmp 104) (.tmp 105) 64 rfl Tryd.underlying64 rfl hmh1 (by omega) s rfl (v : Int) rfl (by unfold maxLen; omega) (wf64 (by omega) (by omega)) ?_; intro w8 hm8 hg8)
            have hbl8 := Below.grown hbl1 hg8 (by have := hbl1.size; omega) (fun r hr => by rw [← Option.some.inj hr]; exact hgM5)
            have hfs8 : FS w8 gC TN TN fun u => ((kidsN T u v : Nat) : Int) := World.ownsRow.kept (World.ownsRow.alloc hfs _) hg8 (.inr (by simp only [Value.ownBlock]; intro h; exact hgCM (Option.some.inj h)))
            have hx8 := Blk.grown hxb hg8 (by intro h; have := Option.some.inj h; omega)
            obtain ⟨X, hX⟩ : ∃ X, X = wr.heap.size := ⟨_, rfl⟩
            rw [← hX] at hx8 ⊢
            have hXn : ¬ (X = gC) := by omega
            have hx0 : w8.cell? ⟨X, 0, none⟩ = some (.int .i64 p) := hx8.cell 0
            have hm9 : MH w8 gM (v + 1) (plF T (v + 1)) (seenB T (v + 1)) := by rw [← HNX.out.1, ← HNX.out.2]; exact hm8
            have hc8 := FS.cell hfs8 p (by omega)
            have hf8 := FS.free hfs8 p
            have hnew := FS.set hfs8 p ((kidsN T p v : Int) + 1)
            have hnew2 := FS.congr (f' := fun u => ((kidsN T u (v + 1) : Nat) : Int)) hnew fun u hu => hfs2.out u hu
            have hm10 : MH (w8.setCell ⟨gC, p, none⟩ (.int .i64 ((kidsN T p v : Int) + 1))) gM (v + 1) (plF T (v + 1)) (seenB T (v + 1)) := hm9.kept (grown_set w8 gC p _) (by intro h; exact hgCM (Option.some.inj h).symm)
            have hbl10 := bl_set hbl8 gC p none (.int .i64 ((kidsN T p v : Int) + 1)) hgC5
            have HREL := Lib.hid (And.intro hnew2 (And.intro hm10 hbl10))
            clear hm8 hg8 hfs2 hmh1 hbl1 G0 G1 hx8 hX hnew hnew2 hm9 hm10 hbl10 hfs8 hbl8 hfs hbl hxb
            generalize kidsN T p v = kc at *
            go_wp2_with fail
            go_roundw
            case rel => exact ⟨v + 1, by omega, by go_num, HREL.out⟩
            case measure => simp [intOf]; omega
        · obtain rfl : v = TN := by omega
          obtain ⟨w7, rfl⟩ : ∃ w7 : World, w7 = wr := ⟨_, rfl⟩
          have HFS7 := Lib.hid hfs
          have HMH7 := Lib.hid hmh
          have HTR7 := Lib.hid (HTR5.out.below hbl (Nat.le_refl _))
          have HNM7 := Lib.hid (HNM5.out.below hbl (Nat.le_refl _))
          have HMG7 := Lib.hid (HMG5.out.below hbl (Nat.le_refl _))
          have HB7 := Lib.hid (bl_trans HB5.out hbl)
          have hbz7 := Below.refl w7.heap.size w7
          clear hfs hmh hbl hgCM hgC5 hgM5 HTR5 HNM5 HMG5
          go_wp2_with fail
          go_loopw [118, 18, 19, 20] (fun x _ _ _ wr => ∃ k : Nat, k ≤ v ∧ x = .int .i64 k ∧ Below w7.heap.size w7 wr) (fun x _ _ _ _ => v - (intOf x).toNat)
          case atStart => exact ⟨0, by omega, rfl, hbz7⟩
          case round =>
            obtain ⟨k, hk, rfl, hbl⟩ := hrel
            clear hbz7
            by_cases hlt : k < v
            · obtain ⟨tb, tq, hta, htb, htc⟩ := rdNd HTR7.out (by rw [HTN.out]; omega)
              obtain ⟨G0, G1⟩ := htc k (by rw [HTN.out]; exact hlt)
              replace G0 := (hbl.cell (p := ⟨tb, tq + k * 2, none⟩) htb).trans G0
              replace G1 := (hbl.cell (p := ⟨tb, tq + k * 2 + 1, none⟩) htb).trans G1
              have hc := FS.cell (HFS7.out.below hbl) k hlt
              have hnd := HPT.out.node k (by rw [HTN.out]; exact hlt)
              rw [HTN.out] at hnd
              have HCS := Lib.hid (fun W (hW : Below w7.heap.size w7 W) => containsS_any na a nc (nmsL a) (nS T k) W (nmsL_len a) (by omega) (HNM7.out.below hW (Nat.le_refl _)))
              clear htc
              subst hta
              have hblx := fun p s => bl_alloc hbl (.cells #[.int .i64 p, .string s] 66)
              rcases hnd with ⟨b, b1, _, b3, b4⟩ | ⟨j, b1, _, b3, b4⟩
              · have hany : Hid ((nmsL a).any (isS (nS T k)) = true) := by
                  show _ = _
                  rw [List.any_eq_true]
                  refine ⟨sA (nmsL a) b, ?_, by unfold isS; exact decide_eq_true b3⟩
                  rw [sA_get (by rw [nmsL_len]; exact b1)]
                  exact List.getElem_mem _
                rw [b4] at hc
                have hbly := hblx (nP T k) (nS T k)
                clear b3 b4 hblx
                generalize nS T k = s at *
                generalize nP T k = p at *
                go_wp2_with fail
                refine (HCS.out _ hbly).mono ?_
                rintro e w' ⟨rfl, rfl⟩
                rw [hany.out]
                have hc2 := keep_cell hc (.cells #[.int .i64 p, .string s] 66)
                clear hc
                go_wp2_with fail
                go_roundw
                case rel => exact ⟨k + 1, by omega, by go_num, hbly⟩
                case measure => simp [intOf]; omega
              · have hany : Hid ((nmsL a).any (isS (nS T k)) = false) := by
                  show _ = _
                  rw [List.any_eq_false]
                  intro y hy
                  obtain ⟨i, hi, rfl⟩ := List.getElem_of_mem hy
                  have hi2 : i < a := by rw [nmsL_len] at hi; exact hi
                  rw [b3, ← sA_get hi]
                  unfold isS
                  have := (nm_ok (n := a) (K := NK) hn2 hNKb).cross i j hi2 b1
                  simpa using fun h => this h.symm
                rw [b4] at hc
                have hbly := hblx (nP T k) (nS T k)
                clear b3 b4 hblx
                generalize nS T k = s at *
                generalize nP T k = p at *
                go_wp2_with fail
                refine (HCS.out _ hbly).mono ?_
                rintro e w' ⟨rfl, rfl⟩
                rw [hany.out]
                have hc2 := keep_cell hc (.cells #[.int .i64 p, .string s] 66)
                clear hc
                go_wp2_with fail
                go_roundw
                case rel => exact ⟨k + 1, by omega, by go_num, hbly⟩
                case measure => simp [intOf]; omega
            · have HMH8 := Lib.hid (HMH7.out.bl hbl)
              have HTR8 := Lib.hid (HTR7.out.below hbl (Nat.le_refl _))
              have HNM8 := Lib.hid (HNM7.out.below hbl (Nat.le_refl _))
              have HMG8 := Lib.hid (HMG7.out.below hbl (Nat.le_refl _))
              have HB8 := Lib.hid (bl_trans HB7.out hbl)
              clear hbl HFS7 HMH7 HTR7 HNM7 HMG7
              obtain ⟨w8, rfl⟩ : ∃ w8 : World, w8 = wr := ⟨_, rfl⟩
              obtain ⟨i1, hi, hz0, hz1, hz2⟩ := info_parts info_R
              have hmk := run_make (P := Tryd.prog) w8 49 29 i1 _ Tryd.underlying49 hi hz0 .i64 .i64 (a : Int) (a : Int) (by omega) (by omega) (by rw [hz2]; omega) (by omega)
              rw [hz1] at hmk
              simp only [Int.toNat_natCast, Nat.mul_one] at hmk
              have hss0 := sets_start (w := w8) (n := a) (by omega) (setK L 0)
              have hbl0 := bl_alloc (Below.refl _ w8) (.cells (madeCells #[Value.slice none 0 0] a) 29)
              go_wp2_with fail
              clear hmk hi hz0 hz1 hz2
              obtain ⟨w9, hw9⟩ : ∃ w9, w9 = w8.alloc (.cells (madeCells #[Value.slice none 0 0] a) 29) := ⟨_, rfl⟩
              have hex0 : ∃ rs, SetsW w9 w8.heap.size w8.heap.size a 0 (setK L 0) rs := by rw [hw9]; exact ⟨_, hss0⟩
              rw [← hw9] at hbl0 ⊢
              clear hw9 hss0
              obtain ⟨gS, hgS⟩ : ∃ g, g = w8.heap.size := ⟨_, rfl⟩
              rw [← hgS] at hex0 hbl0 ⊢
              have hgS8 : gS ≤ w8.heap.size := by omega
              have hgS9 : w8.heap.size ≤ gS := by omega
              clear hgS
              go_loopw [150, 22] (fun x _ wr => ∃ i : Nat, i ≤ a ∧ x = .int .i64 i ∧ (∃ rs, SetsW wr gS gS a i (setK L 0) rs) ∧ Below gS w8 wr) (fun x _ _ => a - (intOf x).toNat)
              case atStart => exact ⟨0, by omega, rfl, hex0, hbl0⟩
              case round =>
                obtain ⟨i, hi, rfl, ⟨rs, hss⟩, hbl⟩ := hrel
                clear hex0 hbl0
                by_cases hlt : i < a
                · have hbl1 := hbl.alloc (by have := hbl.size; omega) (.cells #[.int .i64 i] 3)
                  have hs1 := hss.bl (bl_alloc (Below.refl _ wr) (.cells #[.int .i64 i] 3))
                  have hc := hs1.cell hlt
                  have hf := World.ownsRow.frozenAt hs1.rows i
                  have hx : (wr.alloc (.cells #[.int .i64 i] 3)).ownsRow gS 3 1 (.slice (some ⟨wr.heap.size, 0, none⟩) 1 1) [i].length (fl encI (iN [i])) := owns_made (w := wr) (base := gS) (e := 3) (k := 1) (n := 1) (cs := #[.int .i64 i]) (by have := hbl.size; omega) rfl (by unfold maxLen; omega)
                  have hput := hs1.put (i := i) (v' := i + 1) (x := (some ⟨wr.heap.size, 0, none⟩, 1, 1)) (X := [i]) hlt (.inr ⟨rfl, rfl⟩) (by omega) hx rfl ⟨wr.heap.size, rfl, by have := (hss.rows.lt gS rfl).2; omega⟩ (fun j hj _ e => by
                    obtain ⟨b, e2, _⟩ := hss.blk j hj
                    have := ((hss.row j hj).lt b (by rw [e2]; rfl)).2
                    rw [e2] at e
                    have e3 : b = wr.heap.size := congrArg Addr.block (Option.some.inj e)
                    omega)
                  have hput2 := hput.congr (S' := setK L 0) (fun j => by
                    by_cases e : j = i
                    · subst e; exact if_pos rfl
                    · exact if_neg e) (fun _ => rfl)
                  have hbl2 := hbl1.setCell (p := ⟨gS, i, none⟩) (Nat.le_refl _) (.slice (some ⟨wr.heap.size, 0, none⟩) 1 1)
                  have HREL := Lib.hid (And.intro (Exists.intro _ hput2) hbl2)
                  clear hput hput2 hbl2 hbl1 hs1 hx hss hbl
                  go_wp2_with fail
                  go_roundw
                  case rel => exact ⟨i + 1, by omega, by go_num, HREL.out⟩
                  case measure => simp [intOf]; omega
                · obtain rfl : i = a := by omega
                  obtain ⟨w9, rfl⟩ : ∃ w9 : World, w9 = wr := ⟨_, rfl⟩
                  have hbl1 := hbl.alloc (by have := hbl.size; omega) (.cells #[.string ⟨#[109, 48]⟩, .string ⟨#[109, 49]⟩, .string ⟨#[109, 50]⟩, .string ⟨#[109, 51]⟩, .string ⟨#[109, 52]⟩, .string ⟨#[109, 53]⟩, .string ⟨#[109, 54]⟩, .string ⟨#[109, 55]⟩, .string ⟨#[109, 56]⟩, .string ⟨#[109, 57]⟩, .string ⟨#[109, 49, 48]⟩, .string ⟨#[109, 49, 49]⟩, .string ⟨#[109, 49, 50]⟩, .string ⟨#[109, 49, 51]⟩, .string ⟨#[109, 49, 52]⟩, .string ⟨#[109, 49, 53]⟩, .string ⟨#[109, 49, 54]⟩, .string ⟨#[109, 49, 55]⟩, .string ⟨#[109, 49, 56]⟩, .string ⟨#[109, 49, 57]⟩, .string ⟨#[109, 50, 48]⟩, .string ⟨#[109, 50, 49]⟩, .string ⟨#[109, 50, 50]⟩] 9)
                  have hs1 := hss.bl (bl_alloc (Below.refl _ w9) (.cells #[.string ⟨#[109, 48]⟩, .string ⟨#[109, 49]⟩, .string ⟨#[109, 50]⟩, .string ⟨#[109, 51]⟩, .string ⟨#[109, 52]⟩, .string ⟨#[109, 53]⟩, .string ⟨#[109, 54]⟩, .string ⟨#[109, 55]⟩, .string ⟨#[109, 56]⟩, .string ⟨#[109, 57]⟩, .string ⟨#[109, 49, 48]⟩, .string ⟨#[109, 49, 49]⟩, .string ⟨#[109, 49, 50]⟩, .string ⟨#[109, 49, 51]⟩, .string ⟨#[109, 49, 52]⟩, .string ⟨#[109, 49, 53]⟩, .string ⟨#[109, 49, 54]⟩, .string ⟨#[109, 49, 55]⟩, .string ⟨#[109, 49, 56]⟩, .string ⟨#[109, 49, 57]⟩, .string ⟨#[109, 50, 48]⟩, .string ⟨#[109, 50, 49]⟩, .string ⟨#[109, 50, 50]⟩] 9))
                  have hin1 : Blk (w9.alloc (.cells #[.string ⟨#[109, 48]⟩, .string ⟨#[109, 49]⟩, .string ⟨#[109, 50]⟩, .string ⟨#[109, 51]⟩, .string ⟨#[109, 52]⟩, .string ⟨#[109, 53]⟩, .string ⟨#[109, 54]⟩, .string ⟨#[109, 55]⟩, .string ⟨#[109, 56]⟩, .string ⟨#[109, 57]⟩, .string ⟨#[109, 49, 48]⟩, .string ⟨#[109, 49, 49]⟩, .string ⟨#[109, 49, 50]⟩, .string ⟨#[109, 49, 51]⟩, .string ⟨#[109, 49, 52]⟩, .string ⟨#[109, 49, 53]⟩, .string ⟨#[109, 49, 54]⟩, .string ⟨#[109, 49, 55]⟩, .string ⟨#[109, 49, 56]⟩, .string ⟨#[109, 49, 57]⟩, .string ⟨#[109, 50, 48]⟩, .string ⟨#[109, 50, 49]⟩, .string ⟨#[109, 50, 50]⟩] 9)) w9.heap.size (ofF 23 innB) 9 := by rw [← inn_blk]; exact Blk.new w9 _ 9
                  go_wp2_with fail
                  obtain ⟨w10, hw10⟩ : ∃ w10, w10 = w9.alloc (.cells #[.string ⟨#[109, 48]⟩, .string ⟨#[109, 49]⟩, .string ⟨#[109, 50]⟩, .string ⟨#[109, 51]⟩, .string ⟨#[109, 52]⟩, .string ⟨#[109, 53]⟩, .string ⟨#[109, 54]⟩, .string ⟨#[109, 55]⟩, .string ⟨#[109, 56]⟩, .string ⟨#[109, 57]⟩, .string ⟨#[109, 49, 48]⟩, .string ⟨#[109, 49, 49]⟩, .string ⟨#[109, 49, 50]⟩, .string ⟨#[109, 49, 51]⟩, .string ⟨#[109, 49, 52]⟩, .string ⟨#[109, 49, 53]⟩, .string ⟨#[109, 49, 54]⟩, .string ⟨#[109, 49, 55]⟩, .string ⟨#[109, 49, 56]⟩, .string ⟨#[109, 49, 57]⟩, .string ⟨#[109, 50, 48]⟩, .string ⟨#[109, 50, 49]⟩, .string ⟨#[109, 50, 50]⟩] 9) := ⟨_, rfl⟩
                  obtain ⟨XI, hXI⟩ : ∃ X, X = w9.heap.size := ⟨_, rfl⟩
                  have hXg : ¬ (XI = gS) := by have := (hss.rows.lt gS rfl).2; omega
                  have hXr : Hid (∀ j, j < i → (rs j).1 ≠ some ⟨XI, 0, none⟩) := fun j hj e => by
                    have h1 := ((hss.row j hj).lt XI (by rw [e]; rfl)).2
                    omega
                  rw [← hw10] at hbl1 hs1 hin1 ⊢
                  rw [← hXI] at hin1 ⊢
                  clear hw10 hXI hss hbl
                  have hex1 : ∃ rs, SetsW w10 gS gS i i (setK L 0) rs ∧ Hid (∀ j, j < i → (rs j).1 ≠ some ⟨XI, 0, none⟩) := ⟨rs, hs1, hXr⟩
                  clear hs1 hXr
                  go_loopw [162, 24, 25, 26, 27, 211, 28, 29, 30] (fun x _ _ _ _ _ _ _ _ wr => ∃ k : Nat, k ≤ NK ∧ x = .int .i64 k ∧ (∃ rs, SetsW wr gS gS i i (setK L k) rs ∧ Hid (∀ j, j < i → (rs j).1 ≠ some ⟨XI, 0, none⟩)) ∧ Blk wr XI (ofF 23 innB) 9 ∧ Below gS w8 wr) (fun x _ _ _ _ _ _ _ _ _ => NK - (intOf x).toNat)
                  case atStart => exact ⟨0, by omega, rfl, hex1, hin1, hbl1⟩
                  case round =>
                    obtain ⟨k, hk, rfl, ⟨rs, hss, hXr⟩, hin, hbl⟩ := hrel
                    clear hex1 hin1 hbl1
                    by_cases hlt : k < NK
                    · have hok := HOK.out.2 k (by rw [HLlen.out]; exact hlt)
                      obtain ⟨q1, q2, q3, q4⟩ := hok.nat
                      obtain ⟨h1, h2, h3, h4, h5, h6, h7, h8⟩ := hok
                      obtain ⟨b1, o1, hma, hb1l, hcm⟩ := rdMg HMG8.out (by rw [HLlen.out]; omega)
                      obtain ⟨G0, G1, G2, G3, G4⟩ := hcm k (by rw [HLlen.out]; exact hlt)
                      have tr := fun (o : Nat) => hbl.cell (p := ⟨b1, o, none⟩) (Nat.lt_of_lt_of_le hb1l hgS9)
                      replace G0 := (tr _).trans G0
                      replace G1 := (tr _).trans G1
                      replace G2 := (tr _).trans G2
                      replace G3 := (tr _).trans G3
                      replace G4 := (tr _).trans G4
                      have hAe : mA L k = (aN L k : Int) := by unfold aN; omega
                      have hBe : mB L k = (bN L k : Int) := by unfold bN; omega
                      rw [hAe] at G0
                      rw [hBe] at G1
                      have hAB := q1
                      have hSN : Hid (∀ j, setK L (k + 1) j = if j = aN L k then setK L k (aN L k) ++ setK L k (bN L k) else setK L k j) := fun j => rfl
                      have HMEM := Lib.hid (fun b (hb : b < i) => setK_mem (n := i) (l := L) (k + 1) (fun j hj => HOK.out.2 j (by rw [HLlen.out]; omega)) (aN L k) (by omega) (by rw [show stS i L (k + 1) (aN L k) = _ from joinS_at q1 (aN L k), if_neg (by omega), if_pos rfl]; omega) b hb)
                      obtain ⟨pv, sv, v1, v2, v3, v4⟩ := HPT.out.inn k hlt (HEND.out.1 _ (by omega))
                      have HSUB := Lib.hid (And.intro v2 (And.intro v3 v4))
                      rw [HTN.out] at v1
                      have hstk := stS_inv (n := i) (l := L) k (fun j hj => HOK.out.2 j (by rw [HLlen.out]; omega))
                      have hsA : (setK L k (aN L k)).length ≤ 24 := by rw [setK_len (n := i) k (fun j hj => HOK.out.2 j (by rw [HLlen.out]; omega)) _ (by omega) q3]; exact Nat.le_trans (hstk.le _) hn2
                      have hsB : (setK L k (bN L k)).length ≤ 24 := by rw [setK_len (n := i) k (fun j hj => HOK.out.2 j (by rw [HLlen.out]; omega)) _ q2 q4]; exact Nat.le_trans (hstk.le _) hn2
                      clear hstk
                      have hna1 := Lib.hid (show 1 ≤ (setK L k (aN L k)).length by rw [setK_len (n := i) k (fun j hj => HOK.out.2 j (by rw [HLlen.out]; omega)) _ (by omega) q3]; omega)
                      clear v2 v3 v4 tr hcm h1 h2 h3 h4 h5 h6 h7 h8
                      generalize mN L k = mn at *
                      generalize mD L k = md at *
                      generalize mS L k = ms at *
                      obtain ⟨A, hA⟩ : ∃ A, aN L k = A := ⟨_, rfl⟩
                      obtain ⟨B, hB⟩ : ∃ B, bN L k = B := ⟨_, rfl⟩
                      rw [hA] at G0 q1 q3 hAB hSN HMEM hsA hna1
                      rw [hB] at G1 q1 q2 q4 hAB hSN hsB
                      rw [hA] at HSUB
                      have HAB := Lib.hid (And.intro hA (And.intro hB (And.intro hAe hBe)))
                      have hAi : A < i := by omega
                      have d1 : decide ((A : Int) < 0) = false := by simp
                      have d2 : decide ((i : Int) ≤ (B : Int)) = false := by simp; omega
                      have d2n : decide (i ≤ B) = false := by simp; omega
                      have d3 : decide ((B : Int) ≤ (A : Int)) = false := by simp; omega
                      have d3n : decide (B ≤ A) = false := by simp; omega
                      clear hA hB hAe hBe
                      subst hma
                      have hbl1 := hbl.alloc (by have := hbl.size; omega) (.cells #[.int .i64 A, .int .i64 B, .int .i64 mn, .int .i64 md, .int .i64 ms] 42)
                      have hs1 := hss.bl (bl_alloc (Below.refl _ wr) (.cells #[.int .i64 A, .int .i64 B, .int .i64 mn, .int .i64 md, .int .i64 ms] 42))
                      have hxb := Blk.new wr #[.int .i64 A, .int .i64 B, .int .i64 mn, .int .i64 md, .int .i64 ms] 42
                      have hin1 := hin.alloc (.cells #[.int .i64 A, .int .i64 B, .int .i64 mn, .int .i64 md, .int .i64 ms] 42)
                      have hgw : gS < wr.heap.size := (hss.rows.lt gS rfl).2
                      have hrw : Hid (∀ j b, j < i → (rs j).1 = some ⟨b, 0, none⟩ → b < wr.heap.size) := fun j b hj e => ((hss.row j hj).lt b (by rw [e]; rfl)).2
                      have hXIw : XI < wr.heap.size := hin.lt
                      go_upto_region 40 with fail
                      obtain ⟨X, hX⟩ : ∃ X, X = wr.heap.size := ⟨_, rfl⟩
                      obtain ⟨W, hW⟩ : ∃ W, W = wr.alloc (.cells #[.int .i64 A, .int .i64 B, .int .i64 mn, .int .i64 md, .int .i64 ms] 42) := ⟨_, rfl⟩
                      rw [← hW] at hbl1 hs1 hxb hin1 ⊢
                      rw [← hX] at hxb hgw hrw hXIw ⊢
                      have hWs : W.heap.size = X + 1 := by rw [hW, hX]; simp
                      have HWS := Lib.hid hWs
                      clear hW hX hWs hbl hss hin G0 G1 G2 G3 G4
                      obtain ⟨bA, eA, nA⟩ := hs1.blk A hAi
                      obtain ⟨bB, eB, nB⟩ := hs1.blk B q2
                      have c0 : W.cell? ⟨X, 0, none⟩ = some (.int .i64 A) := hxb.cell 0
                      have c1 : W.cell? ⟨X, 1, none⟩ = some (.int .i64 B) := hxb.cell 1
                      have c2 := hs1.cell hAi
                      have c3 := hs1.cell q2
                      have hrA := hs1.row A hAi
                      have hrB := hs1.row B q2
                      have hlA := hs1.len A hAi
                      have hlB := hs1.len B q2
                      have hbAw := hrw.out A bA hAi eA
                      obtain ⟨ca, hca⟩ : ∃ c, (rs A).2.2 = c := ⟨_, rfl⟩
                      obtain ⟨cb, hcb⟩ : ∃ c, (rs B).2.2 = c := ⟨_, rfl⟩
                      obtain ⟨na', hna'⟩ : ∃ c, (setK L k A).length = c := ⟨_, rfl⟩
                      obtain ⟨nb', hnb'⟩ : ∃ c, (setK L k B).length = c := ⟨_, rfl⟩
                      rw [eA, hlA, hca, hna'] at c2 hrA
                      rw [eB, hlB, hcb, hnb'] at c3 hrB
                      rw [hna'] at hsA
                      rw [hnb'] at hsB
                      have HEQ := Lib.hid (And.intro hna' hnb')
                      have HEA := Lib.hid (And.intro eA (And.intro hlA hca))
                      clear hlA hlB hca hcb hna' hnb' eA eB
                      refine wp_region_order (S := fun w' => w'.cell? ⟨X, 0, none⟩ = some (.int .i64 A) ∧ w'.cell? ⟨X, 1, none⟩ = some (.int .i64 B) ∧ w'.cell? ⟨gS, A, none⟩ = some (.slice (some ⟨bA, 0, none⟩) na' ca) ∧ w'.cell? ⟨gS, B, none⟩ = some (.slice (some ⟨bB, 0, none⟩) nb' cb)) 14 [0,1,2,3,4,5,6,7,8,9,10,11,12] [13] (by kernel_rfl) (by kernel_rfl) ⟨c0, c1, c2, c3⟩ ?_
                      iterate 13 (refine headT_cons (by rfl) (by rfl) (by intro w hSw; obtain ⟨s0, s1, s2, s3⟩ := hSw; go_simp; try rfl) ?_; simp only [Act.put, List.setIfInBounds_toArray, List.set_cons_zero, List.set_cons_succ])
                      refine headT_nil ?_
                      refine midT_cons (by rfl) (fun K hK => ?_)
                      rw [if_pos (by rfl)]
                      refine wp_pushs (enc := encI) (k := 1) (bytes := 8) (fun _ => rfl) (by decide) encI_oneL (base := gS) Tryd.underlying29 info_I rfl (.tmp 190) (.tmp 195) (by rfl) (.slice (some ⟨bA, 0, none⟩) na' ca) (iN (setK L k A)) na' (by rw [iN_len]; exact HEQ.out.1.symm) (by rfl) (by exact hrA) (some ⟨bB, 0, none⟩) nb' cb (iN (setK L k B)) (by rw [iN_len]; exact HEQ.out.2.symm) (by rfl) (by exact rd_of_owns hrB) (by simp) (by omega) (by omega) (by have := HWS.out; simp; omega) ?_
                      intro v' w12 hown' hg' hob
                      obtain ⟨va, vc, rfl, hva⟩ := owns_slice hown'
                      rcases hva with h0 | ⟨b', hb'1, hb'2, rfl⟩
                      · exfalso
                        have := hna1.out
                        have := HEQ.out.1
                        omega
                      have hgr : W.grownBy w12 (some bA) := ⟨hg'.os, hg'.tape, hg'.output, hg'.size, hg'.block⟩
                      have k0 := gr_cell hgr c0 (by intro h; have := Option.some.inj h; omega)
                      have k1 := gr_cell hgr c1 (by intro h; have := Option.some.inj h; omega)
                      have k2 := gr_cell hgr c2 (by intro h; exact nA (Option.some.inj h).symm)
                      have k3 := gr_cell hgr c3 (by intro h; exact nA (Option.some.inj h).symm)
                      have hoth := hs1.others hAi (w' := w12) (by rw [HEA.out.1]; exact hgr)
                      have kf : w12.frozen? ⟨gS, A, none⟩ = false := World.ownsRow.frozenAt hoth.1 A
                      have HST := Lib.hid (And.intro hown' (And.intro hgr (And.intro hob hoth)))
                      clear hown' hgr hob hoth hg' c0 c1 c2 c3
                      refine hK.out _ _ ⟨k0, k1, k2, k3⟩ (fun _ => ?_)
                      clear hK K
                      try simp only [Act.put, List.setIfInBounds_toArray, List.set_cons_zero, List.set_cons_succ]
                      refine midT_nil ?_
                      simp only [List.drop_succ_cons, List.drop_zero]
                      go_wp2_with fail
                      refine NoPanic.normal ?_
                      obtain ⟨hown', hgr, hob, hoth⟩ := HST.out
                      have hgA : gS ≤ bA := (hrA.lt bA rfl).1
                      have hbase2 := HWS.out
                      have hb'c : b' = bA ∨ b' = X + 1 := by
                        rcases hob with h | h
                        · exact .inl (Option.some.inj h)
                        · have := Option.some.inj h
                          simp at this
                          omega
                      have hb'g : b' ≠ gS := by rcases hb'c with h | h <;> omega
                      have hput := hs1.put2 (w' := w12) (x := (some ⟨b', 0, none⟩, na' + nb', vc)) (X := setK L k A ++ setK L k B) hAi hoth.1 hoth.2 (by rw [List.length_append, HEQ.out.1, HEQ.out.2, iN_app]; exact hown') (by rw [List.length_append, HEQ.out.1, HEQ.out.2]) ⟨b', rfl, hb'g⟩ (fun j hj hji e => by
                        rcases hb'c with h | h
                        · subst h
                          rcases Nat.lt_or_gt_of_ne hji with h3 | h3
                          · exact hs1.far j A h3 hAi (e.trans HEA.out.1.symm)
                          · exact hs1.far A j h3 hj (HEA.out.1.trans e.symm)
                        · have := hrw.out j b' hj e
                          omega)
                      have hput2 := hput.congr (S' := setK L (k + 1)) (rs' := fun j => if j = A then (some ⟨b', 0, none⟩, na' + nb', vc) else rs j) (fun j => (hSN.out j).symm) (fun _ => rfl)
                      have hXr2 : Hid (∀ j, j < i → (if j = A then ((some ⟨b', 0, none⟩, na' + nb', vc) : Rw) else rs j).1 ≠ some ⟨XI, 0, none⟩) := fun j hj => by
                        by_cases e : j = A
                        · rw [if_pos e]
                          intro h
                          simp at h
                          rcases hb'c with h4 | h4
                          · exact hXr.out A hAi (by rw [HEA.out.1, ← h4, h])
                          · omega
                        · rw [if_neg e]; exact hXr.out j hj
                      have hbl2 : Below gS w8 (w12.setCell ⟨gS, A, none⟩ (.slice (some ⟨b', 0, none⟩) (na' + nb') vc)) := (Below.grown hbl1 hgr (by omega) (fun r hr => by rw [← Option.some.inj hr]; exact hgA)).setCell (p := ⟨gS, A, none⟩) (Nat.le_refl _) _
                      have hXbA : ¬ (XI = bA) := fun h => hXr.out A hAi (by rw [HEA.out.1, h])
                      have hin2 := (Blk.grown hin1 hgr (by intro h; exact hXbA (Option.some.inj h))).other (B' := gS) hXg A (.slice (some ⟨b', 0, none⟩) (na' + nb') vc)
                      have hx2 := (Blk.grown hxb hgr (by intro h; have := Option.some.inj h; omega)).other (B' := gS) (by omega) A (.slice (some ⟨b', 0, none⟩) (na' + nb') vc)
                      obtain ⟨wz, hwz⟩ : ∃ wz, wz = w12.setCell ⟨gS, A, none⟩ (.slice (some ⟨b', 0, none⟩) (na' + nb') vc) := ⟨_, rfl⟩
                      rw [← hwz] at hput2 hbl2 hin2 hx2 ⊢
                      clear hwz hput hown' hgr hob hoth k0 k1 k2 k3 kf hs1 hbl1 hin1 hxb hrA hrB HST hrw hXr hXbA hb'1 hb'2 hb'c hb'g hgA hbase2 nA nB hbAw HWS hXIw hgw
                      have HMHz := Lib.hid (HMH8.out.bl (hbl2.mono hgS9))
                      have hask := HMHz.out.ask Tryd.underlying64 (innS k) (inn_size (by omega))
                      have hplv : plF T v (innS k) = (pv : Int) := by rw [← HSUB.out.1]; exact plF_at HPT.out.dst v (by rw [HTN.out]; exact Nat.le_refl _) pv v1
                      have hsev : seenB T v (innS k) = true := by rw [← HSUB.out.1]; exact seenB_at v1
                      rw [hplv, hsev] at hask
                      have hic : wz.cell? ⟨XI, k, none⟩ = some (.string (innS k)) := hin2.getF k (by omega)
                      have hx0 : wz.cell? ⟨X, 0, none⟩ = some (.int .i64 A) := hx2.cell 0
                      have hrc := hput2.cell hAi
                      have hrow2 := hput2.row A hAi
                      have hlen2 := hput2.len A hAi
                      simp only [↓reduceIte] at hrc hrow2 hlen2
                      rw [← hlen2] at hrow2
                      have hrr := rd_of_owns hrow2
                      have HLN := Lib.hid hlen2
                      clear hrow2 hlen2
                      have HREL := Lib.hid (And.intro (show ∃ rs, SetsW wz gS gS i i (setK L (k + 1)) rs ∧ Hid (∀ j, j < i → (rs j).1 ≠ some ⟨XI, 0, none⟩) from ⟨_, hput2, hXr2⟩) (And.intro hin2 hbl2))
                      have HRR := Lib.hid hrr
                      have HBZ := Lib.hid hbl2
                      have hk23 : (k : Int) < 23 := by omega
                      clear hplv hsev hput2 hXr2 hin2 hx2 hbl2 hrr
                      generalize innS k = sk at *
                      go_wp2_with fail
                      clear hask hic
                      go_loopw [211, 28, 29, 30] (fun x _ _ _ wr => ∃ b : Nat, b ≤ i ∧ x = .int .i64 b ∧ wr = wz) (fun x _ _ _ _ => i - (intOf x).toNat)
                      case atStart => exact ⟨0, by omega, rfl, rfl⟩
                      case round =>
                        obtain ⟨b, hb, rfl, rfl⟩ := hrel
                        by_cases hltb : b < i
                        · obtain ⟨nb0, no, hna, hnb0, hnc⟩ := rdS HNM8.out (by rw [nmsL_len]; omega)
                          have N0 := (HBZ.out.cell (p := ⟨nb0, no + b, none⟩) (Nat.lt_of_lt_of_le hnb0 hgS9)).trans (hnc b (by rw [nmsL_len]; exact hltb))
                          obtain ⟨ub, ub1, ub2⟩ := HPT.out.lang b hltb (HEND.out.1 b hltb)
                          have hlk := HMHz.out.look Tryd.underlying64 (sA (nmsL i) b) (by rw [nmsL_at hltb]; unfold maxLen; show 2 ≤ _; omega)
                          have hplb : plF T v (sA (nmsL i) b) = (ub : Int) := by rw [← ub2]; exact plF_at HPT.out.dst v (by rw [HTN.out]; exact Nat.le_refl _) ub (by rw [← HTN.out]; exact ub1)
                          rw [hplb] at hlk
                          have HIFF : Hid ((pv ≤ ub ∧ ub < pv + sv) ↔ lsK L (k + 1) b = A) := HSUB.out.2.2 ub b ub1 hltb ub2
                          rw [HTN.out] at ub1
                          have HCI := Lib.hid (containsI_any (some ⟨b', 0, none⟩) (na' + nb') vc (iN (setK L (k + 1) A)) (b : Int) wr (by rw [iN_len]; exact HLN.out.symm) (by omega) HRR.out)
                          have HSA := Lib.hid (set_any (HMEM.out b hltb))
                          clear hnc hplb ub2
                          generalize sA (nmsL i) b = sb at *
                          subst hna
                          go_wp2_with fail
                          clear hlk N0
                          go_loopw [30] (fun x wx => ∃ q : Nat, q < v ∧ x = .int .i64 q ∧ Hid ((pv ≤ q ∧ q < pv + sv) ↔ lsK L (k + 1) b = A) ∧ wx = wr) (fun x _ => (intOf x).toNat)
                          case atStart => exact ⟨ub, ub1, rfl, HIFF, rfl⟩
                          case round =>
                            obtain ⟨q, hq, rfl, hqi, rfl⟩ := hrel
                            by_cases hgt : pv < q
                            · obtain ⟨p, hp⟩ : ∃ p : Nat, nP T q = p := ⟨(nP T q).toNat, by have := HPT.out.par.par q (by omega) (by rw [HTN.out]; exact hq); omega⟩
                              have hpq : p < q := by have := HPT.out.par.par q (by omega) (by rw [HTN.out]; exact hq); omega
                              have hnew : Hid ((pv ≤ p ∧ p < pv + sv) ↔ lsK L (k + 1) b = A) := by
                                show _ ↔ _
                                rw [← hqi.out]
                                have hin1 := HSUB.out.2.1.inn q hgt
                                have hout1 := fun h => HSUB.out.2.1.out q h (by rw [HTN.out]; exact hq)
                                rw [hp] at hin1 hout1
                                by_cases hc : q < pv + sv
                                · have := hin1 hc
                                  omega
                                · have := hout1 (by omega)
                                  omega
                              obtain ⟨tb, tq, hta, htb, htc⟩ := rdNd HTR8.out (by rw [HTN.out]; omega)
                              obtain ⟨T0, _⟩ := htc q (by rw [HTN.out]; exact hq)
                              replace T0 := (HBZ.out.cell (p := ⟨tb, tq + q * 2, none⟩) (Nat.lt_of_lt_of_le htb hgS9)).trans T0
                              rw [hp] at T0
                              clear htc hp
                              subst hta
                              go_wp2_with fail
                              go_roundw
                              case rel => exact ⟨p, by omega, rfl, hnew, by trivial⟩
                              case measure => simp [intOf]; omega
                            · have hsv := HSUB.out.2.1.pos
                              by_cases hin : lsK L (k + 1) b = A
                              · have hqe : q = pv := by have := hqi.out.2 hin; omega
                                have hany : Hid ((iN (setK L (k + 1) A)).any (isI (b : Int)) = true) := HSA.out.trans (decide_eq_true hin)
                                have HHI := Lib.hid hin
                                subst hqe
                                clear hin
                                go_wp2_with fail
                                refine HCI.out.mono ?_
                                rintro e w' ⟨rfl, rfl⟩
                                rw [hany.out]
                                go_wp2_with fail
                                go_roundw
                                case rel => exact ⟨b + 1, by omega, by go_num, by trivial⟩
                                case measure => simp [intOf]; omega
                              · have hqn : ((q : Int) == (pv : Int)) = false := by
                                  rw [beq_eq_false_iff_ne]
                                  intro h
                                  exact hin (hqi.out.1 (by omega))
                                have hqn2 : (q == pv) = false := by
                                  rw [beq_eq_false_iff_ne]
                                  intro h
                                  exact hin (hqi.out.1 (by omega))
                                have hany : Hid ((iN (setK L (k + 1) A)).any (isI (b : Int)) = false) := HSA.out.trans (decide_eq_false hin)
                                have HHI := Lib.hid hin
                                clear hin
                                go_wp2_with fail
                                refine HCI.out.mono ?_
                                rintro e w' ⟨rfl, rfl⟩
                                rw [hany.out]
                                go_wp2_with fail
                                go_roundw
                                case rel => exact ⟨b + 1, by omega, by go_num, by trivial⟩
                                case measure => simp [intOf]; omega
                        · clear hx0 hrc
                          go_wp2_with fail
                          go_roundw
                          case rel => exact ⟨k + 1, by omega, by go_num, HREL.out.1, HREL.out.2.1, HREL.out.2.2⟩
                          case measure => simp [intOf]; omega
                    · go_wp2_with fail
                      refine (works_any _).mono ?_
                      rintro e w12 ⟨rfl, hb12⟩
                      have HB12 := Lib.hid ((HB8.out.trans ((hbl.mono hgS9).mono HB8.out.size)).trans (hb12.mono (Nat.le_trans HB8.out.size hbl.size)))
                      clear hb12 hbl
                      go_wp2_with fail
                      go_ret
                      exact ⟨rfl, HB12.out⟩
end Go.Proofs.YtahgffjkkdbjeaaDoor
