/- The tree of a family is a valid one, and its clades are the family (plain). The trees that win: their clades and the votes (plain). Law TreecmpVotes: the walk. A range over an iterator that turns a block of its own between two rounds (no program in sight). tree.check at every tree and node; tree.up's iterator. tree.Clade at a node of a tree. The statements' names of the leaves. Do two sets fit one another: the document's and the statements' question. -/
import Derived.Test.YtfgkjofdgohacaaGreatDoorGG
import Derived.Test.YtfgkjofdgohacaaGreatDoorGH
import Derived.Test.YtfgkjofdgohacaaGreatDoorGJ
import Derived.Test.YtfgkjofdgohacaaGreatDoorGI
import Derived.Test.YtfgkjofdgohacaaGreatDoorGA
import Derived.Test.YtfgkjofdgohacaaGreatDoorGB
import Derived.Test.YtfgkjofdgohacaaGreatDoorGE
import Derived.Test.YtfgkjofdgohacaaGreatDoorGD
namespace Go.Proofs.YtfgkjofdgohacaaGreatDoor
open Go Go.RowKit Go.Shelf Go.Maps
theorem vA_l {P R : List Nat} {j : Nat} (h : j < P.length) : vA (P ++ R) j = vA P j := by
  unfold vA
  rw [List.getD_eq_getElem?_getD, List.getD_eq_getElem?_getD, List.getElem?_append_left h]
theorem vA_r (P R : List Nat) (j : Nat) : vA (P ++ R) (P.length + j) = vA R j := by
  unfold vA
  rw [List.getD_eq_getElem?_getD, List.getD_eq_getElem?_getD, List.getElem?_append_right (by omega), Nat.add_sub_cancel_left]
theorem nP_l4 {P R : List Nd} {j : Nat} (h : j < P.length) : nP (P ++ R) j = nP P j := by
  unfold nP
  rw [List.getD_eq_getElem?_getD, List.getD_eq_getElem?_getD, List.getElem?_append_left h]
theorem nP_r4 (P R : List Nd) (j : Nat) : nP (P ++ R) (P.length + j) = nP R j := by
  unfold nP
  rw [List.getD_eq_getElem?_getD, List.getD_eq_getElem?_getD, List.getElem?_append_right (by omega), Nat.add_sub_cancel_left]
theorem nS_l4 {P R : List Nd} {j : Nat} (h : j < P.length) : nS (P ++ R) j = nS P j := by
  unfold nS
  rw [List.getD_eq_getElem?_getD, List.getD_eq_getElem?_getD, List.getElem?_append_left h]
theorem nS_r4 (P R : List Nd) (j : Nat) : nS (P ++ R) (P.length + j) = nS R j := by
  unfold nS
  rw [List.getD_eq_getElem?_getD, List.getD_eq_getElem?_getD, List.getElem?_append_right (by omega), Nat.add_sub_cancel_left]
/-- How the new nodes of a family stand: their parents, and their names. -/
structure NewN (nm : List ByteArray) (F : List Nat) (B : Nat) (p : Int) (Q : Nat → Prop) (n0 n1 : Nat) (P : List Nat) (new : List Nd) : Prop where
  len : new.length = P.length
  ord : n0 ≤ n1
  par : ∀ j, j < P.length → (nP new j = p ∧ Q (vA P j)) ∨ ∃ i, i < j ∧ nP new j = ((B + i : Nat) : Int) ∧ Kid F (vA P i) (vA P j)
  one : ∀ j, j < P.length → oneB (vA P j) = true → nS new j = sA nm (lo (vA P j))
  inn : ∀ j, j < P.length → oneB (vA P j) = false → ∃ m, n0 ≤ m ∧ m < n1 ∧ dash m ∉ nm ∧ nS new j = dash m
  dif : ∀ i j, i < j → j < P.length → oneB (vA P i) = false → oneB (vA P j) = false → nS new i ≠ nS new j
theorem NewN.nil (nm : List ByteArray) (F : List Nat) (B : Nat) (p : Int) (Q : Nat → Prop) (n0 : Nat) : NewN nm F B p Q n0 n0 [] [] :=
  ⟨rfl, Nat.le_refl _, fun j h => absurd h (by simp), fun j h => absurd h (by simp), fun j h => absurd h (by simp), fun i j _ h => absurd h (by simp)⟩
theorem NewN.wk {nm : List ByteArray} {F : List Nat} {B : Nat} {p : Int} {Q R : Nat → Prop} {n0 n1 : Nat} {P : List Nat} {new : List Nd} (h : NewN nm F B p Q n0 n1 P new) (hQ : ∀ x, Q x → R x) : NewN nm F B p R n0 n1 P new :=
  ⟨h.len, h.ord, fun j hj => (h.par j hj).imp (fun a => ⟨a.1, hQ _ a.2⟩) id, h.one, h.inn, h.dif⟩
theorem split_lt {a b j : Nat} (h : j < a + b) : j < a ∨ ∃ i, j = a + i ∧ i < b := by
  by_cases q : j < a
  · exact .inl q
  · exact .inr ⟨j - a, by omega, by omega⟩
theorem NewN.app {nm : List ByteArray} {F : List Nat} {B : Nat} {p : Int} {Q : Nat → Prop} {n0 n1 n2 : Nat} {P R : List Nat} {new nxt : List Nd} (h : NewN nm F B p Q n0 n1 P new) (k : NewN nm F (B + P.length) p Q n1 n2 R nxt) : NewN nm F B p Q n0 n2 (P ++ R) (new ++ nxt) := by
  have hl := h.len
  have e1 : ∀ {j}, j < P.length → nP (new ++ nxt) j = nP new j ∧ nS (new ++ nxt) j = nS new j := fun {j} hj => ⟨nP_l4 (by omega), nS_l4 (by omega)⟩
  have e2 : ∀ j, nP (new ++ nxt) (P.length + j) = nP nxt j ∧ nS (new ++ nxt) (P.length + j) = nS nxt j := fun j => by rw [← hl]; exact ⟨nP_r4 _ _ _, nS_r4 _ _ _⟩
  refine ⟨by rw [List.length_append, List.length_append, h.len, k.len], Nat.le_trans h.ord k.ord, fun j hj => ?_, fun j hj ho => ?_, fun j hj ho => ?_, fun i j hij hj h1 h2 => ?_⟩
  · rw [List.length_append] at hj
    rcases split_lt hj with q | ⟨j, rfl, q⟩
    · rw [(e1 q).1, vA_l q]
      rcases h.par j q with a | ⟨i, a, b, c⟩
      · exact .inl a
      · exact .inr ⟨i, a, b, by rw [vA_l (by omega)]; exact c⟩
    · rw [(e2 j).1, vA_r]
      rcases k.par j q with a | ⟨i, a, b, c⟩
      · exact .inl a
      · exact .inr ⟨P.length + i, by omega, by rw [b]; congr 1; omega, by rw [vA_r]; exact c⟩
  · rw [List.length_append] at hj
    rcases split_lt hj with q | ⟨j, rfl, q⟩
    · rw [vA_l q] at ho ⊢
      rw [(e1 q).2]; exact h.one j q ho
    · rw [vA_r] at ho ⊢
      rw [(e2 j).2]; exact k.one j q ho
  · rw [List.length_append] at hj
    rcases split_lt hj with q | ⟨j, rfl, q⟩
    · rw [vA_l q] at ho
      rw [(e1 q).2]
      obtain ⟨m, a, b, c⟩ := h.inn j q ho
      exact ⟨m, a, Nat.lt_of_lt_of_le b k.ord, c⟩
    · rw [vA_r] at ho
      rw [(e2 j).2]
      obtain ⟨m, a, b, c⟩ := k.inn j q ho
      exact ⟨m, Nat.le_trans h.ord a, b, c⟩
  · rw [List.length_append] at hj
    rcases split_lt hj with q | ⟨j, rfl, q⟩
    · rw [vA_l (by omega)] at h1
      rw [vA_l q] at h2
      rw [(e1 q).2, (e1 (show i < P.length by omega)).2]
      exact h.dif i j hij q h1 h2
    · rw [vA_r] at h2
      rw [(e2 j).2]
      rcases split_lt (show i < P.length + R.length by omega) with r | ⟨i, rfl, r⟩
      · rw [vA_l r] at h1
        rw [(e1 r).2]
        obtain ⟨m, _, b, _, c⟩ := h.inn i r h1
        obtain ⟨m2, a2, _, _, c2⟩ := k.inn j q h2
        rw [c, c2]
        intro e
        have := dash_inj e
        omega
      · rw [vA_r] at h1
        rw [(e2 i).2]
        exact k.dif i j (by omega) q h1 h2
theorem NewN.cons {nm : List ByteArray} {F : List Nat} {B : Nat} {p : Int} {x : Nat} {n0 n1 : Nat} {P : List Nat} {new : List Nd} (h : NewN nm F (B + 1) (B : Nat) (Kid F x) (nxG nm x n0) n1 P new) : NewN nm F B p (fun y => y = x) n0 n1 (x :: P) ((p, nmG nm x n0) :: new) := by
  have v0 : vA (x :: P) 0 = x := rfl
  have v1 : ∀ j, vA (x :: P) (j + 1) = vA P j := fun j => rfl
  have p1 : ∀ j, nP ((p, nmG nm x n0) :: new) (j + 1) = nP new j := fun j => rfl
  have s1 : ∀ j, nS ((p, nmG nm x n0) :: new) (j + 1) = nS new j := fun j => rfl
  have s0 : nS ((p, nmG nm x n0) :: new) 0 = nmG nm x n0 := rfl
  obtain ⟨f1, _, f3, _⟩ := frN_spec nm n0
  have hnx : n0 ≤ nxG nm x n0 := by
    unfold nxG; split <;> omega
  have hin : oneB x = false → nmG nm x n0 = dash (frN nm n0) ∧ nxG nm x n0 = frN nm n0 + 1 := fun q => by
    unfold nmG nxG; rw [q]; exact ⟨rfl, rfl⟩
  refine ⟨by simp [h.len], Nat.le_trans hnx h.ord, fun j hj => ?_, fun j hj ho => ?_, fun j hj ho => ?_, fun i j hij hj h1 h2 => ?_⟩
  · cases j with
    | zero => exact .inl ⟨rfl, rfl⟩
    | succ j =>
      rw [p1, v1]
      simp only [List.length_cons] at hj
      rcases h.par j (by omega) with ⟨a, b⟩ | ⟨i, a, b, c⟩
      · exact .inr ⟨0, by omega, a, b⟩
      · exact .inr ⟨i + 1, by omega, by rw [b]; congr 1; omega, by rw [v1]; exact c⟩
  · cases j with
    | zero => rw [v0] at ho ⊢; rw [s0]; unfold nmG; rw [ho]; rfl
    | succ j =>
      simp only [List.length_cons] at hj
      rw [v1] at ho ⊢
      rw [s1]; exact h.one j (by omega) ho
  · cases j with
    | zero =>
      rw [v0] at ho
      obtain ⟨a, b⟩ := hin ho
      refine ⟨frN nm n0, f1, ?_, f3, by rw [s0, a]⟩
      have := h.ord; omega
    | succ j =>
      simp only [List.length_cons] at hj
      rw [v1] at ho
      obtain ⟨m, a, b, c⟩ := h.inn j (by omega) ho
      exact ⟨m, by omega, b, by rw [s1]; exact c⟩
  · simp only [List.length_cons] at hj
    cases j with
    | zero => omega
    | succ j =>
      rw [v1] at h2
      rw [s1]
      cases i with
      | zero =>
        rw [v0] at h1
        obtain ⟨a, b⟩ := hin h1
        obtain ⟨m, a2, _, _, c2⟩ := h.inn j (by omega) h2
        rw [s0, a, c2]
        intro e
        have := dash_inj e
        omega
      | succ i =>
        rw [v1] at h1
        rw [s1]
        exact h.dif i j (by omega) (by omega) h1 h2
theorem fold_new {nm : List ByteArray} {F : List Nat} {x v : Nat} (g : List Nd × Nat → Nat → List Nd × Nat) (pr : Nat → List Nat) : ∀ (l : List Nat) (s : List Nd × Nat), (∀ y, y ∈ l → Kid F x y) →
    (∀ y s, y ∈ l → ∃ new, (g s y).1 = s.1 ++ new ∧ NewN nm F s.1.length (v : Nat) (fun z => z = y) s.2 (g s y).2 (pr y) new) →
    ∃ new, (l.foldl g s).1 = s.1 ++ new ∧ NewN nm F s.1.length (v : Nat) (Kid F x) s.2 (l.foldl g s).2 (l.flatMap pr) new
  | [], s, _, _ => ⟨[], by simp, NewN.nil _ _ _ _ _ _⟩
  | y :: l, s, hk, hg => by
    obtain ⟨n1, e1, h1⟩ := hg y s (by simp)
    obtain ⟨n2, e2, h2⟩ := fold_new g pr l (g s y) (fun z hz => hk z (by simp [hz])) fun z t hz => hg z t (by simp [hz])
    refine ⟨n1 ++ n2, by rw [List.foldl_cons, e2, e1, List.append_assoc], ?_⟩
    rw [List.foldl_cons, List.flatMap_cons]
    refine (h1.wk fun z e => by rw [e]; exact hk y (by simp)).app ?_
    rw [e1, List.length_append, h1.len] at h2
    exact h2
theorem grw_new {nm : List ByteArray} {F : List Nat} (hF : Lam F) (hL : ∀ x, x ∈ F → x < 2 ^ nm.length) : ∀ (f x : Nat) (p : Int) (st : List Nd × Nat), x ∈ F →
    ∃ new, (grw nm F f x p st).1 = st.1 ++ new ∧ NewN nm F st.1.length p (fun y => y = x) st.2 (grw nm F f x p st).2 (preS F nm.length f x) new
  | 0, x, p, st, _ => ⟨[], by simp [grw], NewN.nil _ _ _ _ _ _⟩
  | f + 1, x, p, st, hx => by
    obtain ⟨new, e, h⟩ := fold_new (nm := nm) (F := F) (x := x) (v := st.1.length) (fun s y => grw nm F f y (st.1.length : Nat) s) (preS F nm.length f) (kdS F x nm.length) (st.1 ++ [(p, nmG nm x st.2)], nxG nm x st.2)
      (fun y hy => (kdS_mem hF hL).1 hy) fun y s hy => grw_new hF hL f y _ s ((kdS_mem hF hL).1 hy).mem
    refine ⟨(p, nmG nm x st.2) :: new, ?_, ?_⟩
    · unfold grw
      rw [e]
      simp
    · unfold grw preS
      refine NewN.cons ?_
      simp only [List.length_append, List.length_cons, List.length_nil] at h
      exact h
theorem dec_dig : ∀ u : Nat, ∀ c, c ∈ Lib.decDigits u → 48 ≤ c.toNat ∧ c.toNat ≤ 57 := by
  intro u
  induction u using Nat.strongRecOn with
  | ind u ih =>
    intro c hc
    rw [Lib.decDigits] at hc
    split at hc
    · rename_i h
      rw [List.mem_singleton.1 hc, dgv_nat4 h]
      omega
    · rename_i h
      rcases List.mem_append.1 hc with hc | hc
      · exact ih (u / 10) (by omega) c hc
      · rw [List.mem_singleton.1 hc, dgv_nat4 (Nat.mod_lt _ (by omega))]
        have := Nat.mod_lt u (show 10 > 0 by omega)
        omega
theorem dec_len3 {i : Nat} (h : i < 100) : (Lib.decDigits i).length ≤ 2 := by
  by_cases q : i < 10
  · rw [Lib.decDigits_one q]; simp
  · rw [Lib.decDigits_two q h]; simp
theorem dash_nm {m : Nat} (h : m < 100) : nmB (dash m) = true := by
  unfold nmB dash
  have h1 := dec_len3 h
  have h2 : (ofBy (45 :: Lib.decDigits m)).size = (Lib.decDigits m).length + 1 := rfl
  rw [to_ofBy, h2, Bool.and_eq_true, Bool.and_eq_true, decide_eq_true_eq, decide_eq_true_eq, List.all_eq_true]
  refine ⟨⟨fun c hc => ?_, by omega⟩, by omega⟩
  rcases List.mem_cons.1 hc with rfl | hc
  · decide
  · have := dec_dig m c hc
    unfold ltrI
    rw [decide_eq_true_eq]
    omega
theorem Kid.one {F : List Nat} (hF : Lam F) {x z y : Nat} (hx : x ∈ F) (hz : z ∈ F) (h : Kid F x y) (k : Kid F z y) : x = z := by
  have hb := (lo_bit (hF.ne y h.mem) (hF.lt y h.mem)).1
  have key : ∀ {x z : Nat}, x ∈ F → Kid F x y → Kid F z y → WiN x z → x = z := fun {x z} hx h k w => by
    by_cases q : x = z
    · exact q
    · have := k.max x hx (bw_iff.2 ⟨q, w⟩) (bw_iff.1 h.bw).2
      exact absurd this.symm (bw_iff.1 h.bw).1
  rcases hF.nest hx hz ((bw_iff.1 h.bw).2 _ hb) ((bw_iff.1 k.bw).2 _ hb) with w | w
  · exact key hx h k w
  · exact (key hz k h w).symm
/-- The tree of a family. -/
def bldT (nm : List ByteArray) (F : List Nat) : List Nd := (grw nm F 64 (2 ^ nm.length - 1) (-1) ([], 0)).1
def bldP (nm : List ByteArray) (F : List Nat) : List Nat := preS F nm.length 64 (2 ^ nm.length - 1)
/-- Names and a family for which a tree is built. -/
structure BlIn (nm : List ByteArray) (F : List Nat) : Prop where
  hier : Hier nm.length F
  l1 : 1 ≤ nm.length
  l32 : nm.length ≤ 32
  pw : nm.Pairwise LtB
  ok : ∀ s, s ∈ nm → nmB s = true
theorem BlIn.lam {nm : List ByteArray} {F : List Nat} (h : BlIn nm F) : Lam F := h.hier.lam (by have := h.l32; omega)
theorem BlIn.nd {nm : List ByteArray} {F : List Nat} (h : BlIn nm F) : nm.Nodup := h.pw.imp fun h e => by rw [e] at h; exact LtB.irr _ h
theorem BlIn.mem {nm : List ByteArray} {F : List Nat} (h : BlIn nm F) (x : Nat) : x ∈ bldP nm F ↔ x ∈ F := by
  refine ⟨fun hx => (pre_mem h.lam _ h.hier.lt 64 _ x h.hier.all hx).1, fun hx => ?_⟩
  exact pre_all h.lam _ h.hier.lt 64 _ x h.hier.all (cntB_le _ _) hx (wi_r.1 (sub_all4 (h.hier.lt _ hx)))
theorem BlIn.ndp {nm : List ByteArray} {F : List Nat} (h : BlIn nm F) : (bldP nm F).Nodup := pre_nodup h.lam _ h.hier.lt 64 _ h.hier.all
theorem BlIn.plen {nm : List ByteArray} {F : List Nat} (h : BlIn nm F) : (bldP nm F).length = F.length :=
  ((List.perm_ext_iff_of_nodup h.ndp (sd_nodup h.hier.pw)).2 h.mem).length_eq
theorem BlIn.p0 {nm : List ByteArray} {F : List Nat} (_ : BlIn nm F) : vA (bldP nm F) 0 = 2 ^ nm.length - 1 := rfl
theorem BlIn.inF {nm : List ByteArray} {F : List Nat} (h : BlIn nm F) {v : Nat} (hv : v < (bldP nm F).length) : vA (bldP nm F) v ∈ F := by
  rw [vA_get hv]; exact (h.mem _).1 (List.getElem_mem hv)
theorem BlIn.inj {nm : List ByteArray} {F : List Nat} (h : BlIn nm F) {u v : Nat} (hu : u < (bldP nm F).length) (hv : v < (bldP nm F).length) (e : vA (bldP nm F) u = vA (bldP nm F) v) : u = v := by
  rw [vA_get hu, vA_get hv] at e
  exact (List.getElem_inj h.ndp).1 e
theorem BlIn.ex {nm : List ByteArray} {F : List Nat} (h : BlIn nm F) {x : Nat} (hx : x ∈ F) : ∃ u, u < (bldP nm F).length ∧ vA (bldP nm F) u = x := by
  obtain ⟨i, hi, e⟩ := List.getElem_of_mem ((h.mem x).2 hx)
  exact ⟨i, hi, by rw [vA_get hi]; exact e⟩
theorem BlIn.pos {nm : List ByteArray} {F : List Nat} (h : BlIn nm F) : 0 < (bldP nm F).length := by
  obtain ⟨u, hu, _⟩ := h.ex h.hier.all; omega
/-- A single leaf is a power. -/
theorem BlIn.leaf {nm : List ByteArray} {F : List Nat} (h : BlIn nm F) {x : Nat} (hx : x ∈ F) (ho : oneB x = true) : x = 2 ^ lo x ∧ lo x < nm.length := by
  have h1 := h.lam.ne x hx
  have h2 := h.lam.lt x hx
  exact ⟨(oneB_iff h1 h2).1 ho, bit_lt4 (h.hier.lt x hx) (lo_bit h1 h2).1⟩
theorem len_split (p : Nat → Bool) : ∀ l : List Nat, l.length = (l.filter p).length + (l.filter fun x => !p x).length
  | [] => rfl
  | a :: l => by
    have := len_split p l
    cases q : p a <;> simp [q] <;> omega
theorem BlIn.few {nm : List ByteArray} {F : List Nat} (h : BlIn nm F) : F.length + 1 ≤ 2 * nm.length := by
  have h1 := inn_few h.hier (by have := h.l32; omega) (sd_nodup h.hier.pw) fun x hx => hx
  have h2 : (F.filter fun x => oneB x).length ≤ nm.length := by
    have h3 := nd_rel (R := fun x b => x = 2 ^ b) (F.filter fun x => oneB x) (List.range nm.length) ((sd_nodup h.hier.pw).filter _) (fun x hx => by
      rw [List.mem_filter] at hx
      obtain ⟨a, b⟩ := h.leaf hx.1 hx.2
      exact ⟨lo x, List.mem_range.2 b, a⟩) fun x y b _ _ h1 h2 => h1.trans h2.symm
    rwa [List.length_range] at h3
  have h3 : F.length = (F.filter fun x => oneB x).length + innL F := by
    exact len_split _ F
  have := h.l1
  omega
theorem BlIn.len {nm : List ByteArray} {F : List Nat} (h : BlIn nm F) : ∃ n1, NewN nm F 0 (-1) (fun y => y = 2 ^ nm.length - 1) 0 n1 (bldP nm F) (bldT nm F) ∧ n1 < 100 := by
  obtain ⟨new, e, hN⟩ := grw_new h.lam h.hier.lt 64 (2 ^ nm.length - 1) (-1) ([], 0) h.hier.all
  have e2 : bldT nm F = new := by unfold bldT; rw [e]; rfl
  refine ⟨_, by rw [e2]; exact hN, ?_⟩
  have h1 := grw_frC nm F 64 (2 ^ nm.length - 1) (-1) ([], 0)
  have h2 := inn_few h.hier (by have := h.l32; omega) h.ndp fun x hx => (h.mem x).1 hx
  have h3 : frC nm (([] : List Nd), 0).2 = 0 := rfl
  rw [h3] at h1
  have h4 := frC_le nm (grw nm F 64 (2 ^ nm.length - 1) (-1) ([], 0)).2
  have := h.l32
  unfold bldP at h2
  omega
theorem BlIn.tlen {nm : List ByteArray} {F : List Nat} (h : BlIn nm F) : (bldT nm F).length = (bldP nm F).length := by
  obtain ⟨_, hN, _⟩ := h.len
  exact hN.len
/-- The parents. -/
theorem BlIn.par {nm : List ByteArray} {F : List Nat} (h : BlIn nm F) : nP (bldT nm F) 0 = -1 ∧ ∀ j, 0 < j → j < (bldP nm F).length → ∃ i, i < j ∧ nP (bldT nm F) j = (i : Int) ∧ Kid F (vA (bldP nm F) i) (vA (bldP nm F) j) := by
  obtain ⟨n1, hN, _⟩ := h.len
  refine ⟨?_, fun j h0 hj => ?_⟩
  · rcases hN.par 0 h.pos with ⟨a, _⟩ | ⟨i, a, _⟩
    · exact a
    · omega
  · rcases hN.par j hj with ⟨_, b⟩ | ⟨i, a, b, c⟩
    · have := h.inj hj h.pos (by rw [h.p0]; exact b)
      omega
    · exact ⟨i, a, by rw [b]; congr 1; omega, c⟩
theorem BlIn.nms {nm : List ByteArray} {F : List Nat} (h : BlIn nm F) {v : Nat} (hv : v < (bldP nm F).length) : (oneB (vA (bldP nm F) v) = true → nS (bldT nm F) v = sA nm (lo (vA (bldP nm F) v))) ∧ (oneB (vA (bldP nm F) v) = false → ∃ m, m < 100 ∧ dash m ∉ nm ∧ nS (bldT nm F) v = dash m) := by
  obtain ⟨n1, hN, h1⟩ := h.len
  refine ⟨hN.one v hv, fun ho => ?_⟩
  obtain ⟨m, _, a, b, c⟩ := hN.inn v hv ho
  exact ⟨m, by omega, b, c⟩
theorem BlIn.dif {nm : List ByteArray} {F : List Nat} (h : BlIn nm F) {u v : Nat} (huv : u < v) (hv : v < (bldP nm F).length) : nS (bldT nm F) u ≠ nS (bldT nm F) v := by
  obtain ⟨n1, hN, _⟩ := h.len
  obtain ⟨a1, a2⟩ := h.nms (show u < (bldP nm F).length by omega)
  obtain ⟨b1, b2⟩ := h.nms hv
  have hu := h.inF (show u < (bldP nm F).length by omega)
  have hv2 := h.inF hv
  cases q1 : oneB (vA (bldP nm F) u) <;> cases q2 : oneB (vA (bldP nm F) v)
  · exact hN.dif u v huv hv q1 q2
  · obtain ⟨m, _, c, d⟩ := a2 q1
    rw [d, b1 q2]
    intro e
    exact c (by rw [e]; exact sA_mem (h.leaf hv2 q2).2)
  · obtain ⟨m, _, c, d⟩ := b2 q2
    rw [d, a1 q1]
    intro e
    exact c (by rw [← e]; exact sA_mem (h.leaf hu q1).2)
  · rw [a1 q1, b1 q2]
    intro e
    obtain ⟨c1, c2⟩ := h.leaf hu q1
    obtain ⟨d1, d2⟩ := h.leaf hv2 q2
    have e3 : lo (vA (bldP nm F) u) = lo (vA (bldP nm F) v) := by
      unfold sA at e
      rw [List.getD_eq_getElem?_getD, List.getElem?_eq_getElem c2, List.getD_eq_getElem?_getD, List.getElem?_eq_getElem d2] at e
      exact (List.getElem_inj h.nd).1 e
    have := h.inj (by omega) hv (c1.trans (by rw [e3]; exact d1.symm))
    omega
/-- The tree is valid. -/
theorem BlIn.tok {nm : List ByteArray} {F : List Nat} (h : BlIn nm F) : TreeOk (bldT nm F) := by
  have hl := h.tlen
  have hf := h.few
  have hp := h.plen
  have h32 := h.l32
  refine ⟨by rw [hl]; exact h.pos, by omega, fun v hv => ?_⟩
  rw [hl] at hv
  obtain ⟨a0, a1⟩ := h.par
  obtain ⟨b1, b2⟩ := h.nms hv
  refine ⟨?_, ?_, ?_, ?_⟩
  · by_cases e : v = 0
    · subst e; rw [a0]; decide
    · obtain ⟨i, c1, c2, _⟩ := a1 v (by omega) hv
      rw [c2]; omega
  · by_cases e : v = 0
    · subst e; rw [a0]; decide
    · obtain ⟨i, c1, c2, _⟩ := a1 v (by omega) hv
      rw [c2, if_neg e]; omega
  · cases q : oneB (vA (bldP nm F) v)
    · obtain ⟨m, c1, _, c3⟩ := b2 q
      rw [c3]; exact dash_nm c1
    · rw [b1 q]
      exact h.ok _ (sA_mem (h.leaf (h.inF hv) q).2)
  · unfold seenB
    rw [List.any_eq_false]
    intro u hu
    rw [List.mem_range] at hu
    simpa using h.dif hu hv
/-- Who is whose child. -/
theorem BlIn.kid {nm : List ByteArray} {F : List Nat} (h : BlIn nm F) {u v : Nat} (hu : u < (bldP nm F).length) (hv : v < (bldP nm F).length) : kidB (bldT nm F) v u = true ↔ Kid F (vA (bldP nm F) v) (vA (bldP nm F) u) := by
  unfold kidB
  rw [Bool.and_eq_true, decide_eq_true_eq, decide_eq_true_eq]
  constructor
  · rintro ⟨h0, e⟩
    obtain ⟨i, c1, c2, c3⟩ := h.par.2 u h0 hu
    obtain rfl : i = v := by omega
    exact c3
  · intro k
    have h0 : 0 < u := by
      rcases Nat.eq_zero_or_pos u with q | q
      · exfalso
        have hb := bw_iff.1 k.bw
        rw [q, h.p0] at hb
        exact hb.1 (hb.2.anti (wi_r.1 (sub_all4 (h.hier.lt _ (h.inF hv)))))
      · exact q
    obtain ⟨i, c1, c2, c3⟩ := h.par.2 u h0 hu
    have := h.inj (by omega) hv (c3.one h.lam (h.inF (by omega)) (h.inF hv) k)
    rw [c2, this]
    exact ⟨h0, rfl⟩
theorem one_min {y : Nat} {k : Nat} (hy : y ≠ 0) (hy2 : y < 2 ^ 64) (h : WiN y (2 ^ k)) : y = 2 ^ k := by
  have hb := (lo_bit hy hy2).1
  have h1 := h _ hb
  rw [Nat.testBit_two_pow, decide_eq_true_eq] at h1
  rw [h1] at h ⊢
  exact h.anti (one_wi hb)
/-- The leaves. -/
theorem BlIn.lf {nm : List ByteArray} {F : List Nat} (h : BlIn nm F) {v : Nat} (hv : v < (bldP nm F).length) : leafB (bldT nm F) v = oneB (vA (bldP nm F) v) := by
  rw [Bool.eq_iff_iff]
  unfold leafB
  rw [List.isEmpty_iff]
  constructor
  · intro e
    cases q : oneB (vA (bldP nm F) v)
    · exfalso
      obtain ⟨b, _, _, _, y, hy, _⟩ := kdb_ex h.hier (by have := h.l32; omega) (h.inF hv) q
      obtain ⟨u, hu, rfl⟩ := h.ex hy.mem
      have : u ∈ famL (bldT nm F) (bldT nm F).length v := List.mem_filter.2 ⟨List.mem_range.2 (by rw [h.tlen]; exact hu), (h.kid hu hv).2 hy⟩
      rw [e] at this
      cases this
    · rfl
  · intro q
    refine List.eq_nil_iff_forall_not_mem.2 fun u hu => ?_
    obtain ⟨a, b⟩ := List.mem_filter.1 hu
    rw [List.mem_range, h.tlen] at a
    have k := (h.kid a hv).1 b
    have hb := bw_iff.1 k.bw
    rw [(h.leaf (h.inF hv) q).1] at hb
    exact hb.1 (one_min (h.lam.ne _ k.mem) (h.lam.lt _ k.mem) hb.2)
/-- The ways. -/
theorem BlIn.pth {nm : List ByteArray} {F : List Nat} (h : BlIn nm F) {n : Nat} (hn : (bldT nm F).length = n) : ∀ k u v, u ≤ k → u < (bldP nm F).length → v < (bldP nm F).length → (v ∈ pthF (bldT nm F) n u ↔ WiN (vA (bldP nm F) u) (vA (bldP nm F) v)) := by
  have hP := tok_par hn h.tok
  have hl := h.tlen
  intro k
  induction k with
  | zero =>
    intro u v hk hu hv
    obtain rfl : u = 0 := by omega
    rw [pth_zero, List.mem_singleton]
    constructor
    · rintro rfl; exact WiN.refl _
    · intro w
      rw [h.p0] at w
      exact h.inj hv h.pos (by rw [h.p0]; exact (WiN.anti w (wi_r.1 (sub_all4 (h.hier.lt _ (h.inF hv))))).symm)
  | succ k ih =>
    intro u v hk hu hv
    by_cases e : u = 0
    · exact ih u v (by omega) hu hv
    · rw [pth_succ hP (by omega) (by omega), List.mem_append, List.mem_singleton]
      obtain ⟨i, c1, c2, c3⟩ := h.par.2 u (by omega) hu
      rw [c2, Int.toNat_natCast, ih i v (by omega) (by omega) hv]
      have hb := bw_iff.1 c3.bw
      constructor
      · rintro (w | rfl)
        · exact hb.2.trans w
        · exact WiN.refl _
      · intro w
        by_cases q : v = u
        · exact .inr q
        · refine .inl ?_
          have hbit := (lo_bit (h.lam.ne _ c3.mem) (h.lam.lt _ c3.mem)).1
          rcases h.lam.nest (h.inF (show i < _ by omega)) (h.inF hv) (hb.2 _ hbit) (w _ hbit) with r | r
          · exact r
          · by_cases q2 : vA (bldP nm F) v = vA (bldP nm F) i
            · rw [q2]; exact WiN.refl _
            · exact absurd (h.inj hv hu (c3.max _ (h.inF hv) (bw_iff.2 ⟨q2, r⟩) w)) q
theorem plN_sA {nm : List ByteArray} (hd : nm.Nodup) {k : Nat} (hk : k < nm.length) : plN nm (sA nm k) = k := by
  have hm := sA_mem hk
  have h1 := plN_lt hm
  have h2 := plN_at hm
  have e : sA nm (plN nm (sA nm k)) = sA nm k := h2
  unfold sA at e
  rw [List.getD_eq_getElem?_getD, List.getD_eq_getElem?_getD, List.getElem?_eq_getElem hk] at e
  unfold sA at h1
  rw [List.getD_eq_getElem?_getD, List.getElem?_eq_getElem hk] at h1
  rw [List.getElem?_eq_getElem h1] at e
  have := (List.getElem_inj hd).1 e
  unfold sA
  rw [List.getD_eq_getElem?_getD, List.getElem?_eq_getElem hk]
  exact this
/-- Its leaves have the names. -/
theorem BlIn.nml {nm : List ByteArray} {F : List Nat} (h : BlIn nm F) : nmsL (bldT nm F) = nm := by
  refine srtB_ext (nms_pw rfl h.tok) h.pw fun s => ?_
  unfold nmsL
  rw [srtB_mem, List.mem_map]
  constructor
  · rintro ⟨u, hu, rfl⟩
    obtain ⟨a, b⟩ := (lv_mem rfl h.tok).1 hu
    rw [h.tlen] at a
    rw [h.lf a] at b
    rw [(h.nms a).1 b]
    exact sA_mem (h.leaf (h.inF a) b).2
  · intro hs
    obtain ⟨k, hk, e⟩ := List.getElem_of_mem hs
    obtain ⟨u, hu, eu⟩ := h.ex (h.hier.one k hk)
    have ho : oneB (vA (bldP nm F) u) = true := by rw [eu]; exact oneB_pow (by have := h.l32; omega)
    refine ⟨u, (lv_mem rfl h.tok).2 ⟨by rw [h.tlen]; exact hu, by rw [h.lf hu]; exact ho⟩, ?_⟩
    rw [(h.nms hu).1 ho]
    have e2 := (h.leaf (h.inF hu) ho).1
    rw [eu] at e2
    have e3 : k = lo (2 ^ k) := (Nat.pow_right_inj (by omega)).1 e2
    rw [eu, ← e3, ← e]
    unfold sA
    rw [List.getD_eq_getElem?_getD, List.getElem?_eq_getElem hk]; rfl
theorem BlIn.lvl {nm : List ByteArray} {F : List Nat} (h : BlIn nm F) : (lvT (bldT nm F)).length = nm.length := by rw [← nmsL_len, h.nml]
/-- The clade of a node is its set. -/
theorem BlIn.cl {nm : List ByteArray} {F : List Nat} (h : BlIn nm F) {v : Nat} (hv : v < (bldP nm F).length) : cl4 (bldT nm F) v = vA (bldP nm F) v := by
  have hl := h.tlen
  refine cl4_ext rfl h.tok (cl4_lt rfl h.tok (by omega)) (by rw [h.lvl]; exact h.hier.lt _ (h.inF hv)) fun u hu hlf => ?_
  have hu2 : u < (bldP nm F).length := by omega
  rw [Bool.eq_iff_iff, cl4_bit rfl h.tok hu hlf (by omega), h.pth rfl u u v (Nat.le_refl _) hu2 hv]
  rw [h.lf hu2] at hlf
  obtain ⟨e1, e2⟩ := h.leaf (h.inF hu2) hlf
  have e3 : pl4 (bldT nm F) u = lo (vA (bldP nm F) u) := by
    unfold pl4
    rw [h.nml, (h.nms hu2).1 hlf]
    exact plN_sA h.nd e2
  rw [e3]
  constructor
  · intro w
    exact w _ (lo_bit (h.lam.ne _ (h.inF hu2)) (h.lam.lt _ (h.inF hu2))).1
  · intro hb
    rw [e1]; exact one_wi hb
/-- The tree's clades are the family. -/
theorem BlIn.cls {nm : List ByteArray} {F : List Nat} (h : BlIn nm F) : clsL (bldT nm F) = F := by
  refine sd_ext (cls_pw _) h.hier.pw fun x => ?_
  rw [cls_mem]
  constructor
  · rintro ⟨v, hv, rfl⟩
    rw [h.tlen] at hv
    rw [h.cl hv]; exact h.inF hv
  · intro hx
    obtain ⟨u, hu, rfl⟩ := h.ex hx
    exact ⟨u, by rw [h.tlen]; exact hu, h.cl hu⟩
/-- An inner node has two children or more. -/
theorem BlIn.two {nm : List ByteArray} {F : List Nat} (h : BlIn nm F) {v : Nat} (hv : v < (bldP nm F).length) : (famL (bldT nm F) (bldT nm F).length v).length ≠ 1 := by
  intro e
  have hlf := h.lf hv
  cases q : oneB (vA (bldP nm F) v)
  · obtain ⟨b, _, b1, b2, y, hy, eb⟩ := kdb_ex h.hier (by have := h.l32; omega) (h.inF hv) q
    have hx0 := h.lam.ne _ (h.inF hv)
    have hxl := h.lam.lt _ (h.inF hv)
    obtain ⟨a1, _, a3⟩ := lo_bit hx0 hxl
    have hk : lo (vA (bldP nm F) v) < nm.length := bit_lt4 (h.hier.lt _ (h.inF hv)) a1
    obtain ⟨z, hz, hw⟩ := kid_ex h.lam (h.hier.one _ hk) (bw_iff.2 ⟨fun e2 => (by rw [← e2, oneB_pow (by omega)] at q; cases q), one_wi a1⟩)
    obtain ⟨u, hu, rfl⟩ := h.ex hy.mem
    obtain ⟨u2, hu2, rfl⟩ := h.ex hz.mem
    have m1 : u ∈ famL (bldT nm F) (bldT nm F).length v := List.mem_filter.2 ⟨List.mem_range.2 (by rw [h.tlen]; exact hu), (h.kid hu hv).2 hy⟩
    have m2 : u2 ∈ famL (bldT nm F) (bldT nm F).length v := List.mem_filter.2 ⟨List.mem_range.2 (by rw [h.tlen]; exact hu2), (h.kid hu2 hv).2 hz⟩
    obtain ⟨z, e⟩ := List.length_eq_one_iff.1 e
    rw [e, List.mem_singleton] at m1 m2
    subst m1
    subst m2
    have h5 := lo_le (h.lam.ne _ hy.mem) (h.lam.lt _ hy.mem) (hw _ Nat.testBit_two_pow_self)
    have h6 := lo_le hx0 hxl b1
    omega
  · rw [q] at hlf
    unfold leafB at hlf
    rw [List.isEmpty_iff] at hlf
    rw [hlf] at e
    cases e
end Go.Proofs.YtfgkjofdgohacaaGreatDoor
namespace Go.Proofs.YtfgkjofdgohacaaGreatDoor
open Go Go.RowKit Go.Shelf Go.Maps
theorem nms_nm {t : List Nd} (hok : TreeOk t) {s : ByteArray} (h : s ∈ nmsL t) : nmB s = true := by
  unfold nmsL at h
  rw [srtB_mem, List.mem_map] at h
  obtain ⟨v, hv, rfl⟩ := h
  have hlt := ((lv_mem rfl hok).1 hv).1
  exact (hok.2.2 v hlt).2.2.1
theorem vtC_cls (T : Nat → List Nd) (n x : Nat) : vtC (fun i => setU (T i)) n x = vtC (fun i => clsL (T i)) n x := by
  unfold vtC
  congr 1
  refine List.filter_congr fun i _ => ?_
  rw [decide_eq_decide]
  exact setU_mem _ _
theorem vtC_full {S : Nat → List Nat} {n x : Nat} (h : ∀ i, i < n → x ∈ S i) : vtC S n x = n := by
  unfold vtC
  rw [List.filter_eq_self.2 fun i hi => decide_eq_true (h i (List.mem_range.1 hi)), List.length_range]
theorem cn_in {n : Nat} {T : Nat → List Nd} {p : Nat → Bool} (hE : cnE n T = 0) (hH : cnH n T p (cnF n T p)) : BlIn (nmsL (T 0)) (cnF n T p) := by
  obtain ⟨_, h0, hok, h32, _⟩ := cnE_zero hE
  have hok0 := hok 0 (by omega)
  refine ⟨?_, ?_, ?_, nms_pw rfl hok0, fun s hs => nms_nm hok0 hs⟩
  · rw [nmsL_len]; exact (hH hE).1
  · rw [nmsL_len]; exact lvT_pos hok0
  · rw [nmsL_len]; exact h32
theorem cnT_bld (F : List Nat) (t : List Nd) : cnT F t = bldT (nmsL t) F := by unfold cnT bldT; rw [nmsL_len]
/-- All trees have a set that is not counted. -/
theorem cn_all {n : Nat} {T : Nat → List Nd} (hE : cnE n T = 0) {x : Nat} (h : x = 2 ^ (lvT (T 0)).length - 1 ∨ ∃ k, k < (lvT (T 0)).length ∧ x = 2 ^ k) : vtC (fun i => clsL (T i)) n x = n := by
  obtain ⟨_, h0, hok, h32, hnm⟩ := cnE_zero hE
  refine vtC_full fun i hi => ?_
  have hH := cls_hier (t := T i) rfl (hok i hi)
  rw [← nmsL_len, ← hnm i hi, nmsL_len] at hH
  rcases h with rfl | ⟨k, hk, rfl⟩
  · exact hH.all
  · exact hH.one k hk
theorem cn_mem {n : Nat} {T : Nat → List Nd} {p : Nat → Bool} (hE : cnE n T = 0) (hp : p n = true) {x : Nat} (hx : x ∈ cnF n T p) : p (vtC (fun i => clsL (T i)) n x) = true := by
  rcases (cnF_mem n T p x).1 hx with h | h | ⟨_, h⟩
  · rw [cn_all hE (.inl h)]; exact hp
  · rw [cn_all hE (.inr h)]; exact hp
  · rw [vtC_cls] at h; exact h
theorem cn_has {n : Nat} {T : Nat → List Nd} {p : Nat → Bool} {x i : Nat} (hi : i < n) (hx : x ∈ clsL (T i)) (h : p (vtC (fun i => clsL (T i)) n x) = true) : x ∈ cnF n T p := by
  refine (cnF_mem n T p x).2 (.inr (.inr ⟨?_, by rw [vtC_cls]; exact h⟩))
  exact vtC_pos.2 ⟨i, hi, (setU_mem _ _).2 hx⟩
/-- A consensus tree: valid, of these names, with these clades. -/
structure CnTr (n : Nat) (T : Nat → List Nd) (F : List Nat) (S : List Nd) : Prop where
  ok : TreeOk S
  cls : clsL S = F
  nms : nmsL S = nmsL (T 0)
  cl : ∀ v, v < S.length → cl4 S v ∈ F
  su : suE n T S = 0
theorem cn_tr {n : Nat} {T : Nat → List Nd} {p : Nat → Bool} (hE : cnE n T = 0) (hH : cnH n T p (cnF n T p)) : CnTr n T (cnF n T p) (cnT (cnF n T p) (T 0)) := by
  have hb := cn_in hE hH
  rw [cnT_bld]
  obtain ⟨h16, h0, hok, h32, hnm⟩ := cnE_zero hE
  refine ⟨hb.tok, hb.cls, hb.nml, fun v hv => ?_, suE_ok h16 hok hb.tok fun i hi => by rw [hb.nml]; exact (hnm i hi).symm⟩
  rw [hb.tlen] at hv
  rw [hb.cl hv]
  exact hb.inF hv
/-- What the statement on votes looks at. -/
structure VtOk (n : Nat) (T : Nat → List Nd) (S M : List Nd) : Prop where
  n0 : n ≠ 0
  ok : ∀ i, i < n → TreeOk (T i)
  okS : TreeOk S
  okM : TreeOk M
  suS : suE n T S = 0
  suM : suE n T M = 0
  vS : ∀ v, v < S.length → suV n T S v = n
  vM : ∀ v, v < M.length → n < 2 * suV n T M v ∧ suV n T M v ≤ n
  sub : ∀ x, x ∈ clsL S → x ∈ clsL M
  inS : ∀ i x, i < n → x ∈ clsL (T i) → (x ∈ clsL S ↔ vtC (fun i => clsL (T i)) n x = n)
  inM : ∀ i x, i < n → x ∈ clsL (T i) → (x ∈ clsL M ↔ n < 2 * vtC (fun i => clsL (T i)) n x)
theorem vt_ok {n : Nat} {T : Nat → List Nd} (hE : cnE n T = 0) : VtOk n T (cnT (cnF n T fun k => decide (k = n)) (T 0)) (cnT (cnF n T fun k => decide (n < 2 * k)) (T 0)) := by
  have hS := cn_tr hE (cnH_strict n T)
  have hM := cn_tr hE (cnH_major n T)
  obtain ⟨h16, h0, hok, h32, hnm⟩ := cnE_zero hE
  have fS : ∀ x, x ∈ cnF n T (fun k => decide (k = n)) → vtC (fun i => clsL (T i)) n x = n := fun x hx => of_decide_eq_true (cn_mem (p := fun k => decide (k = n)) hE (decide_eq_true rfl) hx)
  have fM : ∀ x, x ∈ cnF n T (fun k => decide (n < 2 * k)) → n < 2 * vtC (fun i => clsL (T i)) n x := fun x hx => of_decide_eq_true (cn_mem (p := fun k => decide (n < 2 * k)) hE (decide_eq_true (by omega)) hx)
  refine ⟨h0, hok, hS.ok, hM.ok, hS.su, hM.su, fun v hv => ?_, fun v hv => ?_, fun x hx => ?_, fun i x hi hx => ?_, fun i x hi hx => ?_⟩
  · rw [suV_eq hv]; exact fS _ (hS.cl v hv)
  · rw [suV_eq hv]; exact ⟨fM _ (hM.cl v hv), vtC_le _ _ _⟩
  · rw [hS.cls] at hx
    rw [hM.cls]
    refine (cnF_mem n T _ x).2 ?_
    rcases (cnF_mem n T _ x).1 hx with h | h | ⟨h1, h2⟩
    · exact .inl h
    · exact .inr (.inl h)
    · refine .inr (.inr ⟨h1, decide_eq_true ?_⟩)
      have := of_decide_eq_true h2
      omega
  · rw [hS.cls]
    exact ⟨fS x, fun h => cn_has hi hx (decide_eq_true h)⟩
  · rw [hM.cls]
    exact ⟨fM x, fun h => cn_has hi hx (decide_eq_true h)⟩
end Go.Proofs.YtfgkjofdgohacaaGreatDoor
namespace Go.Proofs.YtfgkjofdgohacaaGreatDoor
open Go Go.RowKit Go.Shelf Go.Maps
theorem iA_suL {n : Nat} {T : Nat → List Nd} {t : List Nd} {m v : Nat} (hv : v < m) : iA (suL n T t m) v = ((suV n T t v : Nat) : Int) := by
  unfold iA suL
  simp [List.getD_eq_getElem?_getD, hv]
theorem owns_nds_rd {w : World} {base : Nat} {a : Option Addr} {c : Nat} {t : List Nd} (h : w.ownsRow base 56 2 (.slice a t.length c) t.length (fl encNd t)) : Rd w a (fl encNd t) := rd_of_owns h
theorem tok_sz {t : List Nd} (h : TreeOk t) : ∀ v, v < t.length → (nS t v).size ≤ 9223372036854775807 := fun v hv => by
  have h1 := (h.2.2 v hv).2.2.1
  unfold nmB at h1
  simp only [Bool.and_eq_true, decide_eq_true_eq] at h1
  omega
set_option maxRecDepth 100000 in
set_option maxHeartbeats 8000000 in
theorem votes_any (a : Option Addr) (n c : Nat) (T : Nat → List Nd) (rs : List Rw) (w : World) (hn : n ≤ 1152921504606846976) (h : TrsIn w a n T rs) (ha : a = none → n = 0) (hZ : TzG w) :
    Calls Tryz.prog 6 #[.slice a n c] w fun e w' => e = .returned (.bool true) ∧ Below w.heap.size w w' := by
  have ENDW : Hid (∀ W, Below w.heap.size w W → Calls Tryz.prog 14 #[] W fun e w' => e = .returned (.bool true) ∧ Below w.heap.size w w') := fun W hb => (works_any W (hZ.bl hb)).mono fun e w' h => ⟨h.1, bl_trans hb h.2⟩
  have H0 := Lib.hid (few_any a n c T rs w hn h)
  have H1 : Hid (∀ W, n ≤ 1048575 → Below w.heap.size w W → _) := fun W hn hb => strict_any a n c T rs _ W hn (h.bl hb) (cnH_strict n T) (hZ.bl hb)
  have H2 : Hid (∀ W, n ≤ 1048575 → Below w.heap.size w W → _) := fun W hn hb => majority_any a n c T rs _ W hn (h.bl hb) (cnH_major n T) (hZ.bl hb)
  have H3 : Hid (∀ W t b m d, n < 1048575 → Below w.heap.size w W → _ → _ → _ → _ → _) := fun W t b m d hn hb hm hm2 hB hS => support_any a n c T rs b m d t W hn (h.bl hb) ha hm hm2 hB hS
  have HT := Lib.hid h
  clear h hZ
  go_enter Tryz.func6, Tryz.ntmps6
  go_wp2_with fail
  refine H0.out.mono ?_
  rintro e w1 ⟨rfl | ⟨rfl, hk⟩, q, hw1⟩
  · have HB1 : Hid (Below w.heap.size w w1) := by
      show Below _ _ _
      rw [hw1]; exact bl_drewN (Below.refl _ _) _
    clear hw1 H0 H1 H2 H3
    go_wp2_with fail
    refine (ENDW.out _ HB1.out).mono ?_
    rintro e w3 ⟨rfl, hb3⟩
    go_wp2_with fail
    go_ret
    exact ⟨rfl, hb3⟩
  have HB1 : Hid (Below w.heap.size w w1) := by
    show Below _ _ _
    rw [hw1]; exact bl_drewN (Below.refl _ _) _
  clear hw1 H0
  by_cases q2 : n = 0
  · have d2 : ((n : Int) == 0) = true := by rw [q2]; rfl
    clear q2 H1 H2 H3 hk
    go_wp2_with fail
    refine (ENDW.out _ HB1.out).mono ?_
    rintro e w3 ⟨rfl, hb3⟩
    go_wp2_with fail
    go_ret
    exact ⟨rfl, hb3⟩
  have d2 : ((n : Int) == 0) = false := by rw [beq_eq_false_iff_ne]; omega
  have H1 := Lib.hid (H1.out _ (by omega) HB1.out)
  have H2 := Lib.hid (fun W => H2.out W (by omega))
  have H3 := Lib.hid (fun W t b m d => H3.out W t b m d (by omega))
  have hn30 : n ≤ 30 := by omega
  clear hk q2
  go_wp2_with fail
  refine H1.out.mono ?_
  rintro e w2 ⟨hb2, ⟨hz, rfl⟩ | ⟨hz, vS, rfl, hoS⟩⟩
  · have HB2 := Lib.hid (bl_trans HB1.out hb2)
    have HZ := Lib.hid hz
    obtain ⟨E, hE⟩ : ∃ E, E = cnE n T := ⟨_, rfl⟩
    have HEE := Lib.hid hE
    have t1 : (E == 0) = false := by rw [hE, beq_eq_false_iff_ne]; exact hz
    rw [← hE]
    clear hb2 H1 hz hE
    go_wp2_with fail
    refine (H2.out _ HB2.out).mono ?_
    rintro e w3 ⟨hb3, ⟨hz, rfl⟩ | ⟨hz, v, rfl, ho⟩⟩
    · have HB3 := Lib.hid (bl_trans HB2.out hb3)
      rw [← HEE.out]
      clear hb3 H2 hz
      go_wp2_with fail
      refine (ENDW.out _ HB3.out).mono ?_
      rintro e w8 ⟨rfl, hb8⟩
      go_wp2_with fail
      go_ret
      exact ⟨rfl, hb8⟩
    · exact absurd hz HZ.out
  have HVT := Lib.hid (vt_ok hz)
  obtain ⟨S, hS⟩ : ∃ S, S = cnT (cnF n T fun k => decide (k = n)) (T 0) := ⟨_, rfl⟩
  obtain ⟨M, hM⟩ : ∃ M, M = cnT (cnF n T fun k => decide (n < 2 * k)) (T 0) := ⟨_, rfl⟩
  rw [← hS] at hoS HVT
  rw [← hM] at HVT
  have HME := Lib.hid hM
  have HZ := Lib.hid hz
  have HB2 := Lib.hid (bl_trans HB1.out hb2)
  have HOS := Lib.hid hoS
  obtain ⟨aS, cS, rfl⟩ := owns_sl HOS.out
  have HRS := Lib.hid (rd_of_owns HOS.out)
  clear hb2 hoS hz hS hM H1 HOS
  go_wp2_with fail
  refine (H2.out _ HB2.out).mono ?_
  rintro e w3 ⟨hb3, ⟨hz, rfl⟩ | ⟨hz, vM, rfl, hoM⟩⟩
  · exact absurd HZ.out hz
  rw [← HME.out] at hoM
  obtain ⟨aM, cM, rfl⟩ := owns_sl hoM
  have HRM := Lib.hid (rd_of_owns hoM)
  have HB3 := Lib.hid (bl_trans HB2.out hb3)
  have HRS := Lib.hid (HRS.out.bl hb3)
  clear hz hoM hb3 H2 HZ HME HB2
  obtain ⟨sl, hsl⟩ : ∃ k, k = S.length := ⟨_, rfl⟩
  obtain ⟨ml, hml⟩ : ∃ k, k = M.length := ⟨_, rfl⟩
  rw [← hsl, ← hml]
  have HSL := Lib.hid hsl.symm
  have HML := Lib.hid hml.symm
  have hs63 : sl ≤ 63 := by rw [hsl]; exact HVT.out.okS.2.1
  have hm63 : ml ≤ 63 := by rw [hml]; exact HVT.out.okM.2.1
  clear hsl hml
  have HZS : Hid (∀ v, v < sl → (nS S v).size ≤ 9223372036854775807) := by show ∀ v, _; rw [← HSL.out]; exact tok_sz HVT.out.okS
  have HZM : Hid (∀ v, v < ml → (nS M v).size ≤ 9223372036854775807) := by show ∀ v, _; rw [← HML.out]; exact tok_sz HVT.out.okM
  have C1 := Lib.hid (clades_any aS sl cS S w3 HSL.out (by omega) HRS.out HZS.out)
  rw [chkE_good HVT.out.okS, clsE_ok HVT.out.okS] at C1
  go_wp2_with fail
  refine C1.out.mono ?_
  rintro e w4 ⟨vX, rfl, hoX, hb4⟩
  obtain ⟨aX, cX, rfl⟩ := owns_sl hoX
  have HX4 := Lib.hid (rd_of_owns hoX)
  have HB4 := Lib.hid (bl_trans HB3.out hb4)
  have HRS := Lib.hid (HRS.out.bl hb4)
  have HRM := Lib.hid (HRM.out.bl hb4)
  clear hoX hb4 C1 HB3
  have C2 := Lib.hid (clades_any aM ml cM M w4 HML.out (by omega) HRM.out HZM.out)
  rw [chkE_good HVT.out.okM, clsE_ok HVT.out.okM] at C2
  have hx63 : (clsL S).length ≤ 63 := Nat.le_trans (cls_len S) HVT.out.okS.2.1
  have hy63 : (clsL M).length ≤ 63 := Nat.le_trans (cls_len M) HVT.out.okM.2.1
  obtain ⟨X, hX⟩ : ∃ X, X = clsL S := ⟨_, rfl⟩
  obtain ⟨Y, hY⟩ : ∃ Y, Y = clsL M := ⟨_, rfl⟩
  have HSUB : Hid (∀ x, x ∈ X → x ∈ Y) := by show ∀ x, _; rw [hX, hY]; exact HVT.out.sub
  have HINS : Hid (∀ i x, i < n → x ∈ clsL (T i) → decide (x ∈ X) = decide (vtC (fun i => clsL (T i)) n x = n)) := fun i x hi hx => by rw [hX, decide_eq_decide]; exact HVT.out.inS i x hi hx
  have HINM : Hid (∀ i x, i < n → x ∈ clsL (T i) → decide (x ∈ Y) = decide (n < 2 * vtC (fun i => clsL (T i)) n x)) := fun i x hi hx => by rw [hY, decide_eq_decide]; exact HVT.out.inM i x hi hx
  rw [← hX] at HX4 hx63 ⊢
  rw [← hY] at C2 hy63
  obtain ⟨px, hpx⟩ : ∃ k, k = X.length := ⟨_, rfl⟩
  obtain ⟨py, hpy⟩ : ∃ k, k = Y.length := ⟨_, rfl⟩
  rw [← hpx] at hx63 ⊢
  rw [← hpy] at C2 hy63
  have HPX := Lib.hid hpx.symm
  have HPY := Lib.hid hpy.symm
  clear hX hY hpx hpy
  go_wp2_with fail
  refine C2.out.mono ?_
  rintro e w5 ⟨vY, rfl, hoY, hb5⟩
  obtain ⟨aY, cY, rfl⟩ := owns_sl hoY
  have HY5 := Lib.hid (rd_of_owns hoY)
  have HX5 := Lib.hid (HX4.out.bl hb5)
  have HB5 := Lib.hid (bl_trans HB4.out hb5)
  have HRS := Lib.hid (HRS.out.bl hb5)
  have HRM := Lib.hid (HRM.out.bl hb5)
  clear hoY hb5 C2 HB4 HX4
  have S1 := Lib.hid (H3.out w5 S aS sl cS HB5.out HSL.out (by omega) HRS.out HZS.out)
  go_wp2_with fail
  refine S1.out.mono ?_
  rintro e w6 ⟨hb6, ⟨hz, _⟩ | ⟨_, RA, rfl, _, hblk⟩⟩
  · exact absurd HVT.out.suS hz
  have HA6 : Hid (Rd w6 (some ⟨RA, 0, none⟩) (fl encI (suL n T S sl))) := by
    show Rd _ _ _
    rw [fl_ofF] at hblk
    exact rd_of_blk4 hblk
  have HY6 := Lib.hid (HY5.out.bl hb6)
  have HX6 := Lib.hid (HX5.out.bl hb6)
  have HB6 := Lib.hid (bl_trans HB5.out hb6)
  have HRM := Lib.hid (HRM.out.bl hb6)
  clear hb6 hblk S1 HB5 HX5 HY5 HRS
  have S2 := Lib.hid (H3.out w6 M aM ml cM HB6.out HML.out (by omega) HRM.out HZM.out)
  go_wp2_with fail
  refine S2.out.mono ?_
  rintro e w7 ⟨hb7, ⟨hz, _⟩ | ⟨_, RB, rfl, _, hblk⟩⟩
  · exact absurd HVT.out.suM hz
  have HBB7 : Hid (Rd w7 (some ⟨RB, 0, none⟩) (fl encI (suL n T M ml))) := by
    show Rd _ _ _
    rw [fl_ofF] at hblk
    exact rd_of_blk4 hblk
  have HY := Lib.hid (HY6.out.bl hb7)
  have HX := Lib.hid (HX6.out.bl hb7)
  have HA := Lib.hid (HA6.out.bl hb7)
  have HB7 := Lib.hid (bl_trans HB6.out hb7)
  have HVS : Hid (∀ v, v < sl → iA (suL n T S sl) v = (n : Int)) := fun v hv => by rw [iA_suL hv, HVT.out.vS v (by rw [HSL.out]; exact hv)]
  have HVM : Hid (∀ v, v < ml → ∃ r : Nat, iA (suL n T M ml) v = (r : Int) ∧ n < 2 * r ∧ r ≤ n) := fun v hv => ⟨_, iA_suL hv, HVT.out.vM v (by rw [HML.out]; exact hv)⟩
  have HLA : Hid ((suL n T S sl).length = sl) := suL_len _ _ _ _
  have HLB : Hid ((suL n T M ml).length = ml) := suL_len _ _ _ _
  have HOK : Hid (∀ i, i < n → TreeOk (T i)) := HVT.out.ok
  generalize suL n T S sl = LA at *
  generalize suL n T M ml = LB at *
  clear hb7 hblk S2 HB6 HX6 HY6 HA6 HRM H3 HVT HSL HML HZS HZM
  go_wp2_with fail
  go_loopw [15] (fun y wr => ∃ k : Nat, k ≤ sl ∧ y = .int .i64 k ∧ wr = w7) (fun y _ => sl - (intOf y).toNat)
  case atStart => exact ⟨0, by omega, rfl, rfl⟩
  case round =>
    obtain ⟨k, hk, rfl, rfl⟩ := hrel
    by_cases hlt : k < sl
    · obtain ⟨b1, o1, e1, _, hc1⟩ := rdI HA.out (by rw [HLA.out]; omega)
      obtain ⟨rfl, rfl⟩ : RA = b1 ∧ 0 = o1 := by injection e1 with e1; injection e1 with e1 e2; exact ⟨e1, e2⟩
      have c1 := hc1 k (by rw [HLA.out]; exact hlt)
      rw [HVS.out k hlt, Nat.zero_add] at c1
      clear hc1 e1
      go_wp2_with fail
      exact ⟨⟨k + 1, by omega, by go_num, trivial⟩, by simp [intOf]; omega⟩
    obtain rfl : k = sl := by omega
    clear HVS HA HLA
    go_wp2_with fail
    go_loopw [16] (fun y wr2 => ∃ k : Nat, k ≤ ml ∧ y = .int .i64 k ∧ wr2 = wr) (fun y _ => ml - (intOf y).toNat)
    case atStart => exact ⟨0, by omega, rfl, rfl⟩
    case round =>
      obtain ⟨j, hj, rfl, rfl⟩ := hrel
      by_cases hlt2 : j < ml
      · obtain ⟨b1, o1, e1, _, hc1⟩ := rdI HBB7.out (by rw [HLB.out]; omega)
        obtain ⟨rfl, rfl⟩ : RB = b1 ∧ 0 = o1 := by injection e1 with e1; injection e1 with e1 e2; exact ⟨e1, e2⟩
        have c1 := hc1 j (by rw [HLB.out]; exact hlt2)
        obtain ⟨r, er, r1, r2⟩ := HVM.out j hlt2
        rw [er, Nat.zero_add] at c1
        have hw2 : IntKind.i64.wrap (2 * (r : Int)) = ((2 * r : Nat) : Int) := wrap_nat _ _ (by omega) (by omega)
        have d3 : decide (((2 * r : Nat) : Int) ≤ (n : Int)) = false := decide_eq_false (by omega)
        have d4 : decide ((n : Int) < (r : Int)) = false := decide_eq_false (by omega)
        obtain ⟨r2x, hr2⟩ : ∃ z, z = 2 * r := ⟨_, rfl⟩
        rw [← hr2] at hw2 d3
        have r3 : ¬ r2x ≤ n := by omega
        have r4 : ¬ n < r := by omega
        clear hc1 e1 er hr2 r1 r2
        go_wp2_with fail
        exact ⟨⟨j + 1, by omega, by go_num, trivial⟩, by simp [intOf]; omega⟩
      obtain rfl : j = ml := by omega
      clear HVM HBB7 HLB
      go_wp2_with fail
      go_loopw [17] (fun y wr3 => ∃ k : Nat, k ≤ px ∧ y = .int .i64 k ∧ wr3 = wr) (fun y _ => px - (intOf y).toNat)
      case atStart => exact ⟨0, by omega, rfl, rfl⟩
      case round =>
        obtain ⟨i, hi, rfl, rfl⟩ := hrel
        by_cases hlt3 : i < px
        · obtain ⟨b1, o1, rfl, _, hc1⟩ := rdV HX.out (by rw [HPX.out]; omega)
          have c1 := hc1 i (by rw [HPX.out]; exact hlt3)
          have HM1 : Hid (decide (vA X i ∈ Y) = true) := decide_eq_true (HSUB.out _ (by rw [vA_get (by rw [HPX.out]; exact hlt3)]; exact List.getElem_mem _))
          have HH := Lib.hid (fun x => lhas_any aY py cY x Y wr HPY.out (by omega) HY.out)
          clear hc1
          generalize vA X i = x at *
          go_wp2_with fail
          refine (HH.out x).mono ?_
          rintro e w8 ⟨rfl, rfl⟩
          rw [HM1.out]
          go_wp2_with fail
          exact ⟨⟨i + 1, by omega, by go_num, trivial⟩, by simp [intOf]; omega⟩
        obtain rfl : i = px := by omega
        clear HSUB
        go_wp2_with fail
        go_loopw [18] (fun y wr4 => ∃ k : Nat, k ≤ n ∧ y = .int .i64 k ∧ Hid (Below wr.heap.size wr wr4)) (fun y _ => n - (intOf y).toNat)
        case atStart => exact ⟨0, by omega, rfl, Below.refl _ _⟩
        case round =>
          obtain ⟨u, hu, rfl, HBU⟩ := hrel
          by_cases hlt4 : u < n
          · have HXU := Lib.hid (HX.out.bl HBU.out)
            have HYU := Lib.hid (HY.out.bl HBU.out)
            have HBW := Lib.hid (bl_trans HB7.out HBU.out)
            obtain ⟨b, o, rfl, _, hc⟩ := rdR (HT.out.bl HBW.out).rd (by rw [HT.out.len]; omega)
            have c1 := hc u (by rw [HT.out.len]; exact hlt4)
            obtain ⟨hl1, hl2⟩ := HT.out.tl u hlt4
            rw [hl1] at c1
            clear hc hl1
            have HR := Lib.hid ((HT.out.bl HBW.out).tr u hlt4)
            have HS := Lib.hid (HT.out.sz u hlt4)
            have HOKT := Lib.hid (HOK.out u hlt4)
            have HIX : Hid (∀ x, x ∈ clsL (T u) → decide (x ∈ X) = decide (vtC (fun i => clsL (T i)) n x = n)) := fun x hx => HINS.out u x hlt4 hx
            have HIY : Hid (∀ x, x ∈ clsL (T u) → decide (x ∈ Y) = decide (n < 2 * vtC (fun i => clsL (T i)) n x)) := fun x hx => HINM.out u x hlt4 hx
            obtain ⟨t, ht⟩ : ∃ t, t = T u := ⟨_, rfl⟩
            rw [← ht] at c1 HR HS HOKT hl2 HIX HIY
            clear ht
            generalize rA rs u = aa at *
            generalize rC rs u = cc at *
            have HCD := Lib.hid (clades_any aa t.length cc t wr rfl hl2 HR.out HS.out)
            rw [chkE_good HOKT.out, clsE_ok HOKT.out] at HCD
            have hl63 : (clsL t).length ≤ 63 := Nat.le_trans (cls_len t) HOKT.out.2.1
            obtain ⟨C, hC⟩ : ∃ C, C = clsL t := ⟨_, rfl⟩
            rw [← hC] at HCD hl63 HIX HIY
            obtain ⟨pc, hpc⟩ : ∃ p, p = C.length := ⟨_, rfl⟩
            rw [← hpc] at HCD hl63
            have HPC := Lib.hid hpc.symm
            clear hC hpc HINS HINM HR HS HOKT hl2
            go_wp2_with fail
            refine HCD.out.mono ?_
            rintro e w8 ⟨vC, rfl, hoC, hb8⟩
            obtain ⟨aC, cC, rfl⟩ := owns_sl hoC
            have HC8 := Lib.hid (rd_of_owns hoC)
            have HX8 := Lib.hid (HXU.out.bl hb8)
            have HY8 := Lib.hid (HYU.out.bl hb8)
            have HB8 := Lib.hid (bl_trans HBW.out hb8)
            have HBU8 := Lib.hid (bl_trans HBU.out hb8)
            clear hoC hb8 HXU HYU HBW HCD HBU
            go_wp2_with fail
            go_loopw [21] (fun y wr5 => ∃ k : Nat, k ≤ pc ∧ y = .int .i64 k ∧ Hid (Below w8.heap.size w8 wr5)) (fun y _ => pc - (intOf y).toNat)
            case atStart => exact ⟨0, by omega, rfl, Below.refl _ _⟩
            case round =>
              obtain ⟨k, hk, rfl, HBK⟩ := hrel
              by_cases hlt5 : k < pc
              · have HXK := Lib.hid (HX8.out.bl HBK.out)
                have HYK := Lib.hid (HY8.out.bl HBK.out)
                have HCK := Lib.hid (HC8.out.bl HBK.out)
                have HBWK := Lib.hid (bl_trans HB8.out HBK.out)
                obtain ⟨x, hx⟩ : ∃ x, x = vA C k := ⟨_, rfl⟩
                have hxm : x ∈ C := by rw [hx, vA_get (by rw [HPC.out]; exact hlt5)]; exact List.getElem_mem _
                have HIX1 := Lib.hid (HIX.out x hxm)
                have HIY1 := Lib.hid (HIY.out x hxm)
                have HXE := Lib.hid hx
                clear hx hxm HXK HYK
                obtain ⟨V, hV⟩ : ∃ V : Nat → Nat, V = fun q => vtC (fun i => clsL (T i)) q x := ⟨_, rfl⟩
                have hVn : vtC (fun i => clsL (T i)) n x = V n := by rw [hV]
                have HV0 : Hid (V 0 = 0) := by show _ = _; rw [hV]; rfl
                have HVS2 : Hid (∀ k, V (k + 1) = V k + if x ∈ clsL (T k) then 1 else 0) := by show ∀ k, _; rw [hV]; exact fun k => vtC_succ _ k x
                have HVL : Hid (∀ k, V k ≤ k) := by show ∀ k, _; rw [hV]; exact fun k => vtC_le _ k x
                rw [hVn] at HIX1 HIY1
                clear hV hVn
                go_wp2_with fail
                go_loopw [23, 22] (fun y z wr6 => ∃ q : Nat, q ≤ n ∧ y = .int .i64 q ∧ z = .int .i64 (V q : Nat) ∧ Hid (Below wr.heap.size wr wr6)) (fun y _ _ => n - (intOf y).toNat)
                case atStart => exact ⟨0, by omega, rfl, by rw [HV0.out]; rfl, Below.refl _ _⟩
                case round =>
                  obtain ⟨q, hq, rfl, rfl, HBQ⟩ := hrel
                  have HCQ := Lib.hid (HCK.out.bl HBQ.out)
                  by_cases hlt6 : q < n
                  · have HBWQ := Lib.hid (bl_trans HBWK.out HBQ.out)
                    obtain ⟨b2, o2, e2, _, hc2⟩ := rdR (HT.out.bl HBWQ.out).rd (by rw [HT.out.len]; omega)
                    obtain ⟨rfl, rfl⟩ : b = b2 ∧ o = o2 := by injection e2 with e2; injection e2 with e2 e3; exact ⟨e2, e3⟩
                    have c1 := hc2 q (by rw [HT.out.len]; exact hlt6)
                    obtain ⟨hl1, hl2⟩ := HT.out.tl q hlt6
                    rw [hl1] at c1
                    clear hc2 hl1 e2
                    have HR := Lib.hid ((HT.out.bl HBWQ.out).tr q hlt6)
                    have HS := Lib.hid (HT.out.sz q hlt6)
                    have HOKT := Lib.hid (HOK.out q hlt6)
                    have HNX := Lib.hid (HVS2.out q)
                    have hle := HVL.out q
                    obtain ⟨t2, ht2⟩ : ∃ t, t = T q := ⟨_, rfl⟩
                    rw [← ht2] at c1 HR HS HOKT hl2 HNX
                    clear ht2
                    generalize rA rs q = aa2 at *
                    generalize rC rs q = cc2 at *
                    have HCD := Lib.hid (clades_any aa2 t2.length cc2 t2 wr rfl hl2 HR.out HS.out)
                    rw [chkE_good HOKT.out, clsE_ok HOKT.out] at HCD
                    have hd63 : (clsL t2).length ≤ 63 := Nat.le_trans (cls_len t2) HOKT.out.2.1
                    obtain ⟨D, hD⟩ : ∃ D, D = clsL t2 := ⟨_, rfl⟩
                    rw [← hD] at HCD HNX hd63
                    obtain ⟨pd, hpd⟩ : ∃ p, p = D.length := ⟨_, rfl⟩
                    rw [← hpd] at HCD hd63
                    have HPD := Lib.hid hpd.symm
                    obtain ⟨S0, hS0⟩ : ∃ S, S = V q := ⟨_, rfl⟩
                    rw [← hS0] at HNX hle ⊢
                    clear hD hpd hS0 HR HS HOKT hl2
                    go_wp2_with fail
                    refine HCD.out.mono ?_
                    rintro e w9 ⟨vD, rfl, hoD, hb9⟩
                    obtain ⟨aD, cD, rfl⟩ := owns_sl hoD
                    have HH := Lib.hid (lhas_any aD pd cD x D w9 HPD.out (by omega) (rd_of_owns hoD))
                    have HC9 := Lib.hid (HCQ.out.bl hb9)
                    have HBQ9 := Lib.hid (bl_trans HBQ.out hb9)
                    clear hoD hb9 HCD
                    obtain ⟨b3, o3, rfl, _, hc3⟩ := rdV HC9.out (by rw [HPC.out]; omega)
                    have c3 := hc3 k (by rw [HPC.out]; exact hlt5)
                    rw [← HXE.out] at c3
                    clear hc3
                    go_wp2_with fail
                    refine HH.out.mono ?_
                    rintro e w10 ⟨rfl, rfl⟩
                    by_cases hm : x ∈ D
                    · have d1 : decide (x ∈ D) = true := decide_eq_true hm
                      rw [if_pos hm] at HNX
                      rw [d1]
                      clear hm d1
                      go_wp2_with fail
                      exact ⟨⟨q + 1, by omega, by go_num, by rw [HNX.out]; go_num, HBQ9⟩, by simp [intOf]; omega⟩
                    · have d1 : decide (x ∈ D) = false := decide_eq_false hm
                      rw [if_neg hm] at HNX
                      rw [d1]
                      clear hm d1
                      go_wp2_with fail
                      exact ⟨⟨q + 1, by omega, by go_num, by rw [HNX.out, Nat.add_zero], HBQ9⟩, by simp [intOf]; omega⟩
                  · obtain rfl : q = n := by omega
                    have hle := HVL.out q
                    have HXQ := Lib.hid (HX8.out.bl (bl_trans HBK.out HBQ.out))
                    have HYQ := Lib.hid (HY8.out.bl (bl_trans HBK.out HBQ.out))
                    have HHX := Lib.hid (lhas_any aX i cX x X wr HPX.out (by omega) HXQ.out)
                    have HHY := Lib.hid (lhas_any aY py cY x Y wr HPY.out (by omega) HYQ.out)
                    rw [HIX1.out] at HHX
                    rw [HIY1.out] at HHY
                    have HBK2 := Lib.hid (bl_trans HBK.out HBQ.out)
                    obtain ⟨b3, o3, rfl, _, hc3⟩ := rdV HCQ.out (by rw [HPC.out]; omega)
                    have c3 := hc3 k (by rw [HPC.out]; exact hlt5)
                    rw [← HXE.out] at c3
                    obtain ⟨V0, hV0⟩ : ∃ z, z = V q := ⟨_, rfl⟩
                    rw [← hV0] at HHX HHY hle ⊢
                    obtain ⟨V2, hV2⟩ : ∃ z, z = 2 * V0 := ⟨_, rfl⟩
                    rw [← hV2] at HHY
                    have hw : IntKind.i64.wrap (2 * (V0 : Int)) = (V2 : Int) := wrap_nat _ _ (by omega) (by omega)
                    obtain ⟨g1, hg1⟩ : ∃ g, g = decide (V0 = q) := ⟨_, rfl⟩
                    obtain ⟨g2, hg2⟩ : ∃ g, g = decide (q < V2) := ⟨_, rfl⟩
                    have e1 : ((V0 : Int) == (q : Int)) = g1 := by rw [hg1, Bool.eq_iff_iff, beq_iff_eq, decide_eq_true_eq]; omega
                    have e2 : decide ((q : Int) < (V2 : Int)) = g2 := by rw [hg2, decide_eq_decide]; omega
                    have e3 : (V0 == q) = g1 := by rw [hg1, Bool.eq_iff_iff, beq_iff_eq, decide_eq_true_eq]
                    rw [← hg1] at HHX
                    rw [← hg2] at HHY
                    have e4 : decide (q < V2) = g2 := hg2.symm
                    clear hc3 hV0 hV2 hg1 hg2 HCQ HIX1 HIY1 HXQ HYQ HVL HVS2 HV0
                    go_wp2_with fail
                    refine HHX.out.mono ?_
                    rintro e w10 ⟨rfl, rfl⟩
                    go_wp2_with fail
                    refine HHY.out.mono ?_
                    rintro e w11 ⟨rfl, rfl⟩
                    go_wp2_with fail
                    exact ⟨⟨k + 1, by omega, by go_num, HBK2⟩, by simp [intOf]; omega⟩
              · obtain rfl : k = pc := by omega
                have HBU9 := Lib.hid (bl_trans HBU8.out HBK.out)
                go_wp2_with fail
                exact ⟨⟨u + 1, by omega, by go_num, HBU9⟩, by simp [intOf]; omega⟩
          · obtain rfl : u = n := by omega
            go_wp2_with fail
            refine (ENDW.out _ (bl_trans HB7.out HBU.out)).mono ?_
            rintro e w8 ⟨rfl, hb8⟩
            go_wp2_with fail
            go_ret
            exact ⟨rfl, hb8⟩
end Go.Proofs.YtfgkjofdgohacaaGreatDoor
namespace Go.Proofs.YtfgkjofdgohacaaGreatDoor
open Go Go.RowKit Go.Shelf
section law
variable {F : Fence} {n : Nat} {P : Program} {α : Type}
/-- An iterator's word: it gives xs, if what the caller holds is not turned by a store into block V. -/
def GivesV (F : Fence) (n : Nat) (P : Program) (gf : Nat) (lb : Array Value) (encs : α → Array Value) (Kp : World → World → Prop) (V : Nat) (xs : List α) (w : World) : Prop :=
  ∀ (l : Nat) (J : List α → World → Prop) (W : World), Below w.heap.size w W → (∀ pre W1 v, J pre W1 → J pre (W1.setCell ⟨V, 0, none⟩ v)) →
    (∀ pre x W1, J pre W1 → pre ++ [x] <+: xs → YieldAt F (n - 1) P l (encs x) W1 fun e W' => e = .returned (.bool true) ∧ J (pre ++ [x]) W' ∧ Kp W1 W') → J [] W →
    CallsIn F n P gf (#[.func (.yield l) #[] #[]] ++ lb) W fun e W' => (∃ v, e = .returned v) ∧ J xs W'
theorem wpIn_range_V {g : Operand} {ps : Array Tmp} {assign body : Code} {Q : Exit → Act → World → Prop} {a : Act} {w : World} (hro : F.round = none) (h1 : 1 ≤ n) {gf : Nat} {lb : Array Value}
    (hg : a.eval g = .func (.func gf) #[] lb) (hF : F.fn gf) (he : ∀ args W, (callFunc gf args).run P W = .ok (.enter gf args) W) {encs : α → Array Value} {Kp : World → World → Prop} {V : Nat} {xs : List α}
    (hseq : GivesV F (n - 1) P gf lb encs Kp V xs w) (hKt : ∀ {A B C : World}, Kp A B → Kp B C → Kp A C) (hKo : ∀ (W : World) (l : Nat) (o o' : Obj), w.heap.size ≤ l → W.heap[l]? = some o → o.isCells = false → Kp W (W.putObj l o'))
    (hV : V < w.heap.size) (hps : ∀ x, (encs x).size = ps.size) (I : List α → World → Prop) (hI : OwnFrom w.heap.size I) (hIV : ∀ pre W v, I pre W → I pre (W.setCell ⟨V, 0, none⟩ v)) (h0 : I [] w) (b : α → Act)
    (hassign : ∀ (l : Nat) (x : α) (W : World) (K : Act → World → Prop), K (b x) W → assign.wpIn (F.inRound l) (n - 1 - 1) P (Exit.then K fun _ _ _ => False) { tmps := (ps.zip (encs x)).foldl (fun t (p, v) => t.setIfInBounds p v) a.tmps, defers := [] } W)
    (hbody : ∀ (l : Nat) (pre : List α) (x : α) (W : World), I pre W → pre ++ [x] <+: xs → body.wpIn (F.inRound l) (n - 1 - 1) P (ownPostK Kp I (fun _ _ _ => False) (pre ++ [x]) W) (b x) W)
    (hdone : ∀ (D : Nat) (W : World), w.heap.size ≤ D → I xs W → W.heap[D]? = some (.deferred (some [])) → Q .normal { a with defers := { target := .collected D, args := #[] } :: a.defers } W) :
    (Code.rangeFunc g ps assign body).wpIn F n P Q a w := by
  apply wpIn_rangeFunc
  intro fn hfn
  rw [hro]
  -- the loop's record in its three states, and the two blocks' places
  let L : LoopState → Obj := fun s => .loop { state := s, pending := none, fn := fn, tmps := a.tmps, params := ps, assign := assign, body := body, defers := w.heap.size }
  have eD : ∀ W : World, W.heap.size = w.heap.size → True := fun _ _ => trivial
  obtain ⟨D, hD⟩ : ∃ D, D = w.heap.size := ⟨_, rfl⟩
  have hrun := run_enterLoop_outer (P := P) (w := w) fn a.tmps ps assign body
  let U : World := (w.alloc (.deferred (some []))).alloc (L .ready)
  have uD : U.heap[D]? = some (.deferred (some [])) := by
    rw [hD]
    exact (Below.heap_alloc (w.alloc (.deferred (some []))) (L .ready) _ (by simp)).trans (World.alloc_heap_new w _)
  have uL : U.heap[D + 1]? = some (L .ready) := by
    have h := World.alloc_heap_new (w.alloc (.deferred (some []))) (L .ready)
    rw [World.size_alloc, ← hD] at h; exact h
  have uB : Below w.heap.size w U := bl_alloc (bl_alloc (Below.refl _ _) _) _
  refine ⟨D + 1, [{ target := .collected D, args := #[] }], U, { target := .fn (.func gf) lb, args := #[.func (.yield (D + 1)) #[] #[]] }, U, gf, #[.func (.yield (D + 1)) #[] #[]] ++ lb, U, ?_, ?_, ?_, ?_, fun _ => h1, ?_⟩
  · rw [hD]; exact hrun
  · simp only [resolve, hg]; simp [go_sem]
  · intro f' hf'
    simp [Target.leads] at hf'
    rw [← hf']; exact hF
  · simp [invoke, go_sem, he]
  · -- what the caller holds between two rounds
    let J : List α → World → Prop := fun pre W => I pre W ∧ W.heap[D + 1]? = some (L .ready) ∧ W.heap[D]? = some (.deferred (some []))
    have put : ∀ {pre : List α} {W : World} (o o' : Obj), I pre W → W.heap[D + 1]? = some o → o.isCells = false → I pre (W.putObj (D + 1) o') := fun o o' h hl ho => hI.putObj o' h (by omega) hl ho
    refine (hseq (D + 1) J U uB ?_ ?_ ⟨?_, uL, uD⟩).mono ?_
    · rintro pre W v ⟨h, hl, hd⟩
      exact ⟨hIV pre W v h, (Below.heap_setCell W ⟨V, 0, none⟩ v (D + 1) (show D + 1 ≠ V by omega)).trans hl, (Below.heap_setCell W ⟨V, 0, none⟩ v D (show D ≠ V by omega)).trans hd⟩
    · rintro pre x W ⟨h, hl, hd⟩ hx
      have lt : D + 1 < W.heap.size := (Array.getElem?_eq_some_iff.1 hl).1
      refine ⟨fn, _, assign, body, run_yield hl (hps x), roundIn_of_wpIn hfn (hassign _ x W _ ⟨_, run_beginRound hl rfl, ?_⟩)⟩
      let W2 : World := W.putObj (D + 1) (L .busy)
      have hl2 : W2.heap[D + 1]? = some (L .busy) := World.putObj_heap_same lt
      have hd2 : W2.heap[D]? = some (.deferred (some [])) := (World.putObj_heap_other (by omega)).trans hd
      have k12 : Kp W W2 := hKo W (D + 1) _ _ (by omega) hl rfl
      refine wpIn_mono (hbody (D + 1) pre x W2 (put _ _ h hl rfl) hx) ?_
      intro e a3 W3 hp
      cases e with
      | normal =>
        obtain ⟨ko, k23, h3⟩ := hp
        have hl3 := ko.same _ _ hl2 rfl
        have hd3 := ko.same _ _ hd2 rfl
        have lt3 : D + 1 < W3.heap.size := (Array.getElem?_eq_some_iff.1 hl3).1
        refine ⟨_, _, run_endRound none hl3, rfl, ⟨put _ _ h3 hl3 rfl, World.putObj_heap_same lt3, (World.putObj_heap_other (by omega)).trans hd3⟩, ?_⟩
        exact hKt (hKt k12 k23) (hKo W3 (D + 1) _ _ (by omega) hl3 rfl)
      | ret => exact hp.2.elim
      | exit id => exact hp.2.elim
      | goto t => exact hp.2.elim
      | panic c => exact hp.elim
      | outgrown => exact hp.elim
    · exact hI.alloc _ (hI.alloc _ h0)
    · rintro e W2 ⟨⟨v, rfl⟩, h, hl, hd⟩
      refine ⟨none, _, run_endLoop hl (by simp), ?_⟩
      exact hdone D _ (by omega) (put _ _ h hl rfl) ((World.putObj_heap_other (by omega)).trans hd)
end law
/-- Whatever cells do not lie in block U lie as they lay. -/
def KpX (U : Nat) (W W' : World) : Prop := ∀ (B : Nat) (cs : Array Value) (t : TypeId) (fr : Nat × Nat), B ≠ U → W.heap[B]? = some (.cells cs t fr) → W'.heap[B]? = some (.cells cs t fr)
theorem KpX.refl (U : Nat) (W : World) : KpX U W W := fun _ _ _ _ _ h => h
theorem KpX.trans {U : Nat} {X Y Z : World} (h : KpX U X Y) (k : KpX U Y Z) : KpX U X Z := fun B cs t fr hB hx => k B cs t fr hB (h B cs t fr hB hx)
theorem KpX.put {U : Nat} (W : World) (l : Nat) (o o' : Obj) (h : W.heap[l]? = some o) (hc : o.isCells = false) : KpX U W (W.putObj l o') := fun B cs t fr _ hB => by
  have hg := grownBy_putObj' W l o'
  refine (hg.block B (Array.getElem?_eq_some_iff.1 hB).1 (fun e => ?_)).trans hB
  have := Option.some.inj e
  subst this
  rw [h] at hB
  cases hB
  cases hc
theorem KpX.set {U : Nat} (W : World) (i : Nat) (v : Value) : KpX U W (W.setCell ⟨U, i, none⟩ v) := fun B _ _ _ hB hx => (Below.heap_setCell W ⟨U, i, none⟩ v B hB).trans hx
theorem KpX.blk {U : Nat} {W W' : World} (h : KpX U W W') {B : Nat} {cs : Array Value} {t : TypeId} (hB : B ≠ U) (hx : Blk W B cs t) : Blk W' B cs t := h B cs t _ hB hx
end Go.Proofs.YtfgkjofdgohacaaGreatDoor
namespace Go.Proofs.YtfgkjofdgohacaaGreatDoor
open Go Go.RowKit Go.Shelf
/-- What tree.check answers at one node. -/
def chkN (t : List Nd) (v : Int) : Int := if chkE t ≠ 0 then chkE t else if 0 ≤ v ∧ v < t.length then 0 else 3
set_option maxRecDepth 100000 in
set_option maxHeartbeats 1000000 in
theorem tcheck_any (a : Option Addr) (n c : Nat) (t : List Nd) (b : Option Addr) (cb : Nat) (v : Int) (w : World) (hn : t.length = n) (hN : n ≤ 1152921504606846976) (hA : Rd w a (fl encNd t)) (hB : Rd w b (fl encI [v])) (hS : ∀ v, v < n → (nS t v).size ≤ 9223372036854775807) :
    Calls Tryz.prog 80 #[.slice a n c, .slice b 1 cb] w fun e w' => e = .returned (.int .i64 (chkN t v)) ∧ Below w.heap.size w w' := by
  have HC := Lib.hid (check_any a n c t w hn hN hA hS)
  have HB := Lib.hid hB
  have HCN : Hid (chkN t v = if chkE t ≠ 0 then chkE t else if 0 ≤ v ∧ v < n then 0 else 3) := by show _ = _; unfold chkN; rw [hn]
  clear hn hA hB hS
  go_enter Tryz.func80, Tryz.ntmps80
  go_wp2_with fail
  refine HC.out.mono ?_
  rintro e w1 ⟨rfl, hb1⟩
  have HB1 := Lib.hid hb1
  have HR := Lib.hid (HB.out.bl hb1)
  clear hb1 HC HB
  by_cases h0 : chkE t = 0
  · rw [if_neg (fun h => h h0)] at HCN
    rw [h0]
    clear h0
    obtain ⟨b1, o1, rfl, _, hc1⟩ := rdI HR.out (by simp)
    have G := hc1 0 (by simp)
    have G0 : w1.cell? ⟨b1, o1, none⟩ = some (.int .i64 v) := G
    clear hc1 G
    go_wp2_with fail
    go_loopw [15] (fun x wr => ∃ k : Nat, k ≤ 1 ∧ x = .int .i64 k ∧ wr = w1 ∧ (k = 1 → 0 ≤ v ∧ v < n)) (fun x _ => 1 - (intOf x).toNat)
    case atStart => exact ⟨0, by omega, rfl, rfl, fun h => by omega⟩
    case round =>
      obtain ⟨k, hk, rfl, rfl, hv⟩ := hrel
      by_cases hlt : k < 1
      · obtain rfl : k = 0 := by omega
        by_cases q1 : v < 0
        · have d1 : decide (v < 0) = true := by simpa using q1
          have HV : Hid (chkN t v = 3) := by show _ = _; rw [HCN.out, if_neg (by omega)]
          clear q1 hv
          go_wp2_with fail
          go_ret
          exact ⟨by rw [HV.out] <;> rfl, HB1.out⟩
        · have d1 : decide (v < 0) = false := by simpa using q1
          by_cases q2 : v < n
          · have d2 : decide ((n : Int) ≤ v) = false := by simpa using q2
            have hv2 : 0 ≤ v ∧ v < n := by omega
            clear hv
            go_wp2_with fail
            go_roundw
            case rel => exact ⟨1, by omega, by go_num, by trivial, fun _ => hv2⟩
            case measure => simp [intOf] <;> omega
          · have d2 : decide ((n : Int) ≤ v) = true := by simp; omega
            have HV : Hid (chkN t v = 3) := by show _ = _; rw [HCN.out, if_neg (by omega)]
            clear q1 q2 hv
            go_wp2_with fail
            go_ret
            exact ⟨by rw [HV.out] <;> rfl, HB1.out⟩
      · obtain rfl : k = 1 := by omega
        have HV : Hid (chkN t v = 0) := by show _ = _; rw [HCN.out, if_pos (hv rfl)]
        clear hv
        go_wp2_with fail
        go_ret
        exact ⟨by rw [HV.out] <;> rfl, HB1.out⟩
  · have HV : Hid (chkN t v = chkE t) := by show _ = _; rw [HCN.out, if_pos h0]
    obtain ⟨E, hE⟩ : ∃ E, chkE t = E := ⟨_, rfl⟩
    rw [hE] at HV h0 ⊢
    have d0 : (E == 0) = false := by simp [h0]
    have d1 : (E != 0) = true := by simp [h0]
    clear hE h0 HCN
    go_wp2_with fail
    go_ret
    exact ⟨by rw [HV.out] <;> rfl, HB1.out⟩
theorem up_any (a : Option Addr) (n c : Nat) (v : Int) (w : World) :
    Calls Tryz.prog 81 #[.slice a n c, .int .i64 v] w fun e w' => e = .returned (.func (.func 112) #[] #[.pointer (some ⟨w.heap.size + 1, 0, none⟩), .pointer (some ⟨w.heap.size, 0, none⟩)]) ∧ w' = (w.alloc (.cells #[.slice a n c] 22)).alloc (.cells #[.int .i64 v] 3) := by
  go_enter Tryz.func81, Tryz.ntmps81
  go_wp2
  go_ret
  exact ⟨rfl, rfl⟩
theorem KpX.cell {U : Nat} {W W' : World} (h : KpX U W W') {p : Addr} (hp : p.block ≠ U) {v : Value} (hc : W.cell? p = some v) : W'.cell? p = some v := by
  have key : ∀ o, W.heap[p.block]? = some o → W'.heap[p.block]? = some o ∨ o.isCells = false := fun o ho => by
    cases o with
    | cells cs t fr => exact .inl (h p.block cs t fr hp ho)
    | _ => exact .inr rfl
  unfold World.cell? at hc ⊢
  cases ho : W.heap[p.block]? with
  | none => rw [ho] at hc; cases hc
  | some o =>
    rcases key o ho with h1 | h1
    · rw [h1]; rw [ho] at hc; exact hc
    · rw [ho] at hc
      cases o <;> first | (cases h1; done) | (simp at hc)
theorem cell_other {W : World} {b o V i : Nat} (h : b ≠ V) (v : Value) : (W.setCell ⟨V, i, none⟩ v).cell? ⟨b, o, none⟩ = W.cell? ⟨b, o, none⟩ := by
  unfold World.cell?
  rw [Below.heap_setCell W ⟨V, i, none⟩ v b h]
/-- V's number, as a measure. -/
def valV (V : Nat) (w : World) : Nat := match w.cell? ⟨V, 0, none⟩ with
  | some (.int _ x) => (x + 1).toNat
  | _ => 0
set_option maxRecDepth 100000 in
set_option maxHeartbeats 2000000 in
/-- tree.up's iterator gives the nodes on the way, the node first. -/
theorem up_gives (m n V T U c v : Nat) (a : Option Addr) (t : List Nd) (w : World) (hn : t.length = n) (hP : ∀ v, 0 < v → v < n → 0 ≤ nP t v ∧ nP t v < v) (h0 : nP t 0 = -1) (hv : v < n) (hm : 1 ≤ m)
    (hVB : Blk w V #[.int .i64 v] 3) (hTB : Blk w T #[.slice a n c] 22) (hR : Rd w a (fl encNd t)) (hVU : V ≠ U) (hTU : T ≠ U) (hVT : V ≠ T) (hbU : ∀ b o, a = some ⟨b, o, none⟩ → b ≠ U ∧ b ≠ V) :
    GivesV Fence.wide m Tryz.prog 112 #[.pointer (some ⟨V, 0, none⟩), .pointer (some ⟨T, 0, none⟩)] (fun x : Nat => #[.int .i64 x]) (KpX U) V (pthF t n v).reverse w := fun l J W hW hJV hY hJ0 => by
  obtain ⟨b, o, rfl, hb, hc⟩ := rdNd (hR.bl hW) (by omega)
  obtain ⟨hb1, hb2⟩ := hbU b o rfl
  have HY := Lib.hid hY
  have HN := Lib.hid hn
  have HP := Lib.hid hP
  have H0 := Lib.hid h0
  have HJ := Lib.hid hJ0
  have HJV := Lib.hid hJV
  have HV0 := Lib.hid (hVB.below hW)
  have HT0 := Lib.hid (hTB.below hW)
  have HC := Lib.hid (fun i (hi : i < n) => (hc i (by rw [hn]; exact hi)).1)
  clear hY hn hP h0 hJ0 hJV hVB hTB hR hc hbU hW
  refine callsIn_of_wp Tryz.func112 rfl trivial ?_ rfl
  simp only [Tryz.ntmps112, List.size_toArray, List.length_cons, List.length_nil, Nat.reduceAdd, Nat.reduceSub, Array.replicate_succ, Array.replicate_zero, List.push_toArray, List.append_toArray, List.nil_append, List.cons_append]
  gi_wp2
  gi_loopw [] (fun wx => ∃ (x : Int) (pre : List Nat), J pre wx ∧ Hid (Blk wx V #[.int .i64 x] 3) ∧ Hid (Blk wx T #[.slice (some ⟨b, o, none⟩) n c] 22) ∧ Hid (∀ i, i < n → wx.cell? ⟨b, o + i * 2, none⟩ = some (.int .i64 (nP t i))) ∧
    ((x = -1 ∧ pre = (pthF t n v).reverse) ∨ ∃ u : Nat, x = u ∧ u < n ∧ pre ++ (pthF t n u).reverse = (pthF t n v).reverse)) (fun wx => valV V wx)
  case atStart => exact ⟨v, [], HJ.out, HV0, HT0, HC, .inr ⟨v, rfl, hv, rfl⟩⟩
  case round =>
    clear HV0 HT0 HC HJ
    obtain ⟨x, pre, hJ, hV, hT, hC, h | ⟨u, rfl, hu, hpre⟩⟩ := hrel
    · obtain ⟨rfl, rfl⟩ := h
      have c1 : wr.cell? ⟨V, 0, none⟩ = some (.int .i64 (-1)) := hV.out.cell 0
      gi_wp2
      go_end0
      exact ⟨⟨_, rfl⟩, hJ⟩
    · have c1 : wr.cell? ⟨V, 0, none⟩ = some (.int .i64 u) := hV.out.cell 0
      have hsp : (pthF t n u).reverse = u :: (if u = 0 then [] else (pthF t n (nP t u).toNat).reverse) := by
        by_cases e : u = 0
        · subst e; rw [pth_zero, if_pos rfl]; rfl
        · rw [pth_succ HP.out (by omega) hu, if_neg e]; simp
      rw [hsp] at hpre
      have hpx : pre ++ [u] <+: (pthF t n v).reverse := ⟨_, by rw [← hpre]; simp; rfl⟩
      obtain ⟨fn, tmps, assign, body, hy, hR2⟩ := HY.out pre u wr hJ hpx
      have HPRE := Lib.hid hpre
      clear hpre hsp hpx
      gi_wp2
      refine hR2.mono ?_
      rintro e W3 ⟨rfl, hJ3, hk3⟩
      have hV3 := hk3.blk hVU hV.out
      have HT3 := Lib.hid (hk3.blk hTU hT.out)
      have HC3 : Hid (∀ i, i < n → W3.cell? ⟨b, o + i * 2, none⟩ = some (.int .i64 (nP t i))) := fun i hi => hk3.cell (p := ⟨b, o + i * 2, none⟩) hb1 (hC.out i hi)
      have e1 : W3.cell? ⟨V, 0, none⟩ = some (.int .i64 u) := hV3.cell 0
      have e2 : W3.cell? ⟨T, 0, none⟩ = some (.slice (some ⟨b, o, none⟩) n c) := HT3.out.cell 0
      have e3 := HC3.out u hu
      have f1 : W3.frozen? ⟨V, 0, none⟩ = false := hV3.free 0
      have HV3 := Lib.hid hV3
      have HM : Hid (valV V wr = u + 1) := by show _ = _; unfold valV; rw [c1]; show ((u : Int) + 1).toNat = u + 1; omega
      clear hV3 hk3 hV hT hC c1 hR2 hy hJ
      gi_wp2
      have hV4 : Hid (Blk (W3.setCell ⟨V, 0, none⟩ (.int .i64 (nP t u))) V #[.int .i64 (nP t u)] 3) := by
        have h := HV3.out.set 0 (.int .i64 (nP t u))
        show Blk _ _ _ _
        simpa using h
      have hT4 : Hid (Blk (W3.setCell ⟨V, 0, none⟩ (.int .i64 (nP t u))) T #[.slice (some ⟨b, o, none⟩) n c] 22) := HT3.out.other (Ne.symm hVT) _ _
      have hC4 : Hid (∀ i, i < n → (W3.setCell ⟨V, 0, none⟩ (.int .i64 (nP t u))).cell? ⟨b, o + i * 2, none⟩ = some (.int .i64 (nP t i))) := fun i hi => by
        rw [cell_other hb2]; exact HC3.out i hi
      have hM4 : Hid (valV V (W3.setCell ⟨V, 0, none⟩ (.int .i64 (nP t u))) = (nP t u + 1).toNat) := by
        show _ = _; unfold valV; rw [hV4.out.cell 0]; rfl
      have hJ4 := HJV.out _ _ (.int .i64 (nP t u)) hJ3
      go_roundw
      case rel =>
        refine ⟨nP t u, pre ++ [u], hJ4, hV4, hT4, hC4, ?_⟩
        by_cases e : u = 0
        · subst e
          left
          refine ⟨H0.out, ?_⟩
          rw [← HPRE.out, if_pos rfl]
        · right
          obtain ⟨p0, p1⟩ := HP.out u (by omega) hu
          refine ⟨(nP t u).toNat, by omega, by omega, ?_⟩
          rw [← HPRE.out, if_neg e]; simp
      case measure =>
        rw [hM4.out, HM.out]
        by_cases e : u = 0
        · subst e; rw [H0.out]; decide
        · obtain ⟨p0, p1⟩ := HP.out u (by omega) hu
          omega
end Go.Proofs.YtfgkjofdgohacaaGreatDoor
namespace Go.Proofs.YtfgkjofdgohacaaGreatDoor
open Go Go.RowKit Go.Shelf
attribute [local go_sem] Oper.semAt_some
/-- Blocks below w's end lie as they lay, but U and V. -/
structure But3 (U V : Nat) (w W : World) : Prop where
  os : W.os = w.os
  tape : W.tape = w.tape
  output : W.output = w.output
  size : w.heap.size ≤ W.heap.size
  block : ∀ k, k < w.heap.size → k ≠ U → k ≠ V → W.heap[k]? = w.heap[k]?
theorem But3.refl (U V : Nat) (w : World) : But3 U V w w := ⟨rfl, rfl, rfl, Nat.le_refl _, fun _ _ _ _ => rfl⟩
theorem But3.grown {U V : Nat} {w W W' : World} {row : Option Nat} (h : But3 U V w W) (hg : W.grownBy W' row) (hr : ∀ r, row = some r → w.heap.size ≤ r) : But3 U V w W' :=
  ⟨hg.os.trans h.os, hg.tape.trans h.tape, hg.output.trans h.output, Nat.le_trans h.size hg.size, fun k hk h1 h2 => (hg.block k (Nat.lt_of_lt_of_le hk h.size) (fun e => by have := hr k e.symm; omega)).trans (h.block k hk h1 h2)⟩
theorem But3.setV {U V : Nat} {w W : World} (h : But3 U V w W) (i : Nat) (v : Value) : But3 U V w (W.setCell ⟨V, i, none⟩ v) :=
  ⟨h.os, h.tape, h.output, by simp [World.setCell]; exact h.size, fun k hk h1 h2 => (Below.heap_setCell W ⟨V, i, none⟩ v k h2).trans (h.block k hk h1 h2)⟩
theorem But3.setU {U V : Nat} {w W : World} (h : But3 U V w W) (i : Nat) (v : Value) : But3 U V w (W.setCell ⟨U, i, none⟩ v) :=
  ⟨h.os, h.tape, h.output, by simp [World.setCell]; exact h.size, fun k hk h1 h2 => (Below.heap_setCell W ⟨U, i, none⟩ v k h1).trans (h.block k hk h1 h2)⟩
theorem But3.drewN {U V : Nat} {w W : World} (h : But3 U V w W) (n : Nat) : But3 U V w (W.drewN n) := ⟨h.os, h.tape, h.output, h.size, h.block⟩
/-- The set so far, with the k-th leaf if v is among the nodes. -/
def orK (A q v : Nat) (l : List Nat) : Nat := if v ∈ l then A ||| q else A
theorem orK_snoc (A q v : Nat) (l : List Nat) (x : Nat) : orK A q v (l ++ [x]) = if x = v then orK A q v l ||| q else orK A q v l := by
  unfold orK
  by_cases e : x = v
  · subst e
    by_cases h : x ∈ l
    · rw [if_pos (by simp), if_pos rfl, if_pos h]
      apply Nat.eq_of_testBit_eq
      intro i
      simp only [Nat.testBit_or, Bool.or_assoc, Bool.or_self]
    · rw [if_pos (by simp), if_pos rfl, if_neg h]
  · rw [if_neg e]
    by_cases h : v ∈ l
    · rw [if_pos (by simp [h]), if_pos h]
    · rw [if_neg (by simp [h]; exact fun h2 => e h2.symm), if_neg h]
/-- Clade's loop: the set so far, the deferred blocks of the ranges. -/
structure ClI (U : Nat) (w4 : World) (f : Nat) (Ds : List Nat) (W : World) : Prop where
  cu : Blk W U #[.int .u64 (f : Nat)] 41
  but : But3 U U w4 W
  ds : ∀ D ∈ Ds, w4.heap.size ≤ D ∧ W.heap[D]? = some (.deferred (some []))
  nd : Ds.Nodup
theorem But3.blk {U V : Nat} {w W : World} (h : But3 U V w W) {B : Nat} {cs : Array Value} {t : TypeId} (hx : Blk w B cs t) (h1 : B ≠ U) (h2 : B ≠ V) : Blk W B cs t := (h.block B hx.lt h1 h2).trans hx
theorem But3.cell {U V : Nat} {w W : World} (h : But3 U V w W) {p : Addr} (hp : p.block < w.heap.size) (h1 : p.block ≠ U) (h2 : p.block ≠ V) : W.cell? p = w.cell? p := by
  unfold World.cell?
  rw [h.block p.block hp h1 h2]
theorem But3.rd {U V : Nat} {w W : World} (h : But3 U V w W) {a : Option Addr} {cs : List Value} (hR : Rd w a cs) (hb : ∀ b o, a = some ⟨b, o, none⟩ → b ≠ U ∧ b ≠ V) : Rd W a cs := by
  intro h0
  obtain ⟨b, o, e, hlt, hc⟩ := hR h0
  obtain ⟨h1, h2⟩ := hb b o e
  exact ⟨b, o, e, Nat.lt_of_lt_of_le hlt h.size, fun i hi => (h.cell (p := ⟨b, o + i, none⟩) hlt h1 h2).trans (hc i hi)⟩
theorem ClI.next {U H f f' D : Nat} {w4 W w6 W' : World} {Ds : List Nat} (h : ClI U w4 f Ds W) (hU : U < w4.heap.size) (hH : H = W.heap.size) (h6 : Below W.heap.size W w6) (hb : But3 U (H + 1 + 1) w6 W') (hz : W.heap.size < w6.heap.size) (hu : Blk W' U #[.int .u64 (f' : Nat)] 41)
    (hD : w6.heap.size ≤ D) (hDD : W'.heap[D]? = some (.deferred (some []))) : ClI U w4 f' (D :: Ds) W' := by
  have hs := h.but.size
  have hs6 := h6.size
  have key : ∀ k, k < W.heap.size → k ≠ U → W'.heap[k]? = W.heap[k]? := fun k hk hku => (hb.block k (by omega) hku (by omega)).trans (h6.block k hk)
  refine ⟨hu, ⟨hb.os.trans (h6.os.trans h.but.os), hb.tape.trans (h6.tape.trans h.but.tape), hb.output.trans (h6.output.trans h.but.output), by have := hb.size; omega, fun k hk h1 _ => (key k (by omega) h1).trans (h.but.block k hk h1 h1)⟩, ?_, ?_⟩
  · intro D' hD'
    rcases List.mem_cons.1 hD' with rfl | hD'
    · exact ⟨by omega, hDD⟩
    · obtain ⟨d1, d2⟩ := h.ds D' hD'
      exact ⟨d1, (key D' (Array.getElem?_eq_some_iff.1 d2).1 (by omega)).trans d2⟩
  · refine List.nodup_cons.2 ⟨fun hx => ?_, h.nd⟩
    have := (Array.getElem?_eq_some_iff.1 (h.ds D hx).2).1
    omega
set_option maxRecDepth 100000 in
set_option maxHeartbeats 4000000 in
theorem clade_any (a : Option Addr) (n c v : Nat) (t : List Nd) (w : World) (hn : t.length = n) (hok : TreeOk t) (hL : (lvT t).length ≤ 64) (hv : v < n) (hA : Rd w a (fl encNd t)) (hS : ∀ v, v < n → (nS t v).size ≤ 9223372036854775807) :
    Calls Tryz.prog 40 #[.slice a n c, .int .i64 v] w fun e w' => e = .returned (.tuple #[.int .u64 (cl t v : Nat), .int .i64 0]) ∧ Below w.heap.size w w' := by
  have hn63 : n ≤ 63 := by have := hok.2.1; omega
  have hCN : chkN t v = 0 := by unfold chkN; rw [if_neg (fun h => h (chkE_good hok)), hn, if_pos (by omega)]
  have HPP : Hid (∀ v, 0 < v → v < n → 0 ≤ nP t v ∧ nP t v < v) := fun v h1 h2 => tree_par hok v h1 (by rw [hn]; exact h2)
  have HP0 : Hid (nP t 0 = -1) := by
    have h := hok.2.2 0 (by have := hok.1; omega)
    have h1 := h.1; have h2 := h.2.1
    show _ = _
    simp at h2; omega
  have HLL : Hid (lvT t = lvsL t n) := by show _ = _; unfold lvT; rw [if_pos (chkE_good hok), hn]
  have HLT : Hid (∀ k, k < (lvT t).length → vA (lvT t) k < n) := fun k hk => by
    rw [HLL.out] at hk ⊢
    exact (lvs_at t n k hk).1
  have hle : (lvT t).length ≤ n := by rw [HLL.out]; exact lvsL_le t n
  have HST : Hid (∀ k, k < (lvT t).length → clF t n v (k + 1) = orK (clF t n v k) (2 ^ k) v (pthF t n (vA (lvT t) k)).reverse) := fun k hk => by
    show (if _ then _ else _) = _
    unfold orK
    by_cases e : cmN t n (vA (lvT t) k) v = v
    · rw [if_pos e, if_pos (by rw [List.mem_reverse]; exact (cmN_iff HPP.out (HLT.out k hk) hv).1 e)]
    · rw [if_neg e, if_neg (by rw [List.mem_reverse]; exact fun h => e ((cmN_iff HPP.out (HLT.out k hk) hv).2 h))]
  have HLTC := Lib.hid (clF_lt t n v)
  have HFE := Lib.hid (clF_cl hn hok hv)
  obtain ⟨F, hF⟩ : ∃ F, clF t n v = F := ⟨_, rfl⟩
  have HF0 : Hid (F 0 = 0) := by show _ = _; rw [← hF]; rfl
  rw [hF] at HST HLTC HFE
  have hb0 := bl_alloc (bl_alloc (Below.refl _ w) (.cells #[.int .i64 v] 3)) (.cells #[.int .i64 v] 3)
  have HC := Lib.hid (tcheck_any a n c t (some ⟨w.heap.size + 1, 0, none⟩) 1 v ((w.alloc (.cells #[.int .i64 v] 3)).alloc (.cells #[.int .i64 v] 3)) hn (by omega) (hA.bl hb0) (by
    have hb := Blk.new2 w (.cells #[.int .i64 v] 3) #[.int .i64 v] 3
    intro _
    refine ⟨w.heap.size + 1, 0, rfl, hb.lt, fun i hi => ?_⟩
    obtain rfl : i = 0 := by simp [fl, encI] at hi; omega
    exact hb.cell 0) hS)
  rw [hCN] at HC
  have HN := Lib.hid hn
  have HA := Lib.hid (hA.bl hb0)
  have HV0 := Lib.hid ((Blk.new w #[.int .i64 v] 3).alloc (.cells #[.int .i64 v] 3))
  obtain ⟨ls, hls⟩ : ∃ x, x = lvT t := ⟨_, rfl⟩
  rw [← hls] at HLT hle HST hL HFE
  have HLS : Hid (ls = lvsL t n) := by show _ = _; rw [hls, HLL.out]
  obtain ⟨z, hz⟩ : ∃ x, x = ls.length := ⟨_, rfl⟩
  rw [← hz] at HLT hle HST hL HFE
  have HZ := Lib.hid hz
  clear hn hok hA hS hF hls hz HLL hCN
  refine (callsIn_wide (n := 10)).1 ?_
  refine callsIn_of_wp_marks Tryz.func40 rfl trivial ?_ rfl
  simp only [Tryz.ntmps40, List.size_toArray, List.length_cons, List.length_nil, Nat.reduceAdd, Nat.reduceSub, Array.replicate_succ, Array.replicate_zero, List.push_toArray, List.append_toArray, List.nil_append, List.cons_append]
  refine wpIn_wide.2 ?_
  go_wp2_with fail
  refine HC.out.mono ?_
  rintro e w2 ⟨rfl, hb2⟩
  have HB2 := Lib.hid (bl_trans hb0 hb2)
  have HR2 := Lib.hid (HA.out.bl hb2)
  have HV2 := Lib.hid (HV0.out.below hb2)
  obtain ⟨Bv, hBv⟩ : ∃ x, x = w.heap.size := ⟨_, rfl⟩
  rw [← hBv] at HV2 ⊢
  have HBV := Lib.hid hBv
  clear hb0 hb2 HC HA HV0 hBv
  go_wp2_with fail
  have hU := Blk.new w2 #[.int .u64 0] 41
  have hb3 := bl_alloc (Below.refl _ w2) (.cells #[.int .u64 0] 41)
  refine (leaves_any a n c t _ HN.out (by omega) (HR2.out.bl hb3) (fun v h1 h2 => by have := HPP.out v h1 h2; omega)).mono ?_
  rintro e w4 ⟨x4, rfl, ho4, hb4⟩
  rw [← HLS.out, ← HZ.out] at ho4
  obtain ⟨A4, c4, rfl, hA4⟩ := owns_slice ho4
  have HRL := Lib.hid (rd_of_owns ho4)
  have hU4 := hU.below hb4
  have HB4 := Lib.hid (bl_trans HB2.out (bl_trans hb3 hb4))
  have HR4 := Lib.hid (HR2.out.bl (bl_trans hb3 hb4))
  have HV4 := Lib.hid (HV2.out.below (bl_trans hb3 hb4))
  have hne : Bv < w2.heap.size := HV2.out.lt
  have hlow : Hid (∀ b o, a = some ⟨b, o, none⟩ → b < w2.heap.size) := fun b o e => by
    obtain ⟨b', o', e', hlt, _⟩ := rdNd HR2.out (by rw [HN.out]; omega)
    rw [e] at e'; cases e'; exact hlt
  have hws : w.heap.size ≤ w2.heap.size := HB2.out.size
  obtain ⟨U, hUe⟩ : ∃ U, U = w2.heap.size := ⟨_, rfl⟩
  have hA4' : Hid (∀ b o, A4 = some ⟨b, o, none⟩ → z ≠ 0 → U < b) := fun b o e hz0 => by
    rcases hA4 with h | ⟨g, hg1, hg2, e2⟩
    · exact absurd h hz0
    · rw [e2] at e; cases e; rw [World.size_alloc] at hg1; omega
  clear hA4
  rw [← hUe] at hU4 hne hlow hws ⊢
  have HU4 := Lib.hid hU4
  clear ho4 hb3 hb4 hU hU4 hUe
  go_wp2_with fail
  have hU4l : U < w4.heap.size := HU4.out.lt
  have HI0 : ClI U w4 (F 0) [] w4 := ⟨by rw [HF0.out]; exact HU4.out, But3.refl _ _ _, fun D h => (by cases h), List.nodup_nil⟩
  refine wp_loop_ghost_k (fun r act W => ∃ (k : Nat) (Ds : List Nat) (u : Nat → Value), r = z - k ∧ k ≤ z ∧ act = { tmps := #[.slice a n c, .int .i64 v, undef, .pointer (some ⟨Bv, 0, none⟩), .int .u64 0, .int .i64 0, .int .i64 0, .pointer (some ⟨U, 0, none⟩), u 8, u 9, u 10, .slice a n c, .int .i64 v, .slice (some ⟨Bv + 1, 0, none⟩) 1 1, .int .i64 0, .int .i64 0, .bool false, undef, .slice a n c, .slice A4 z c4, .int .i64 z, .int .i64 k, u 22, u 23, u 24, u 25, u 26, u 27, u 28, u 29, u 30, u 31, u 32, u 33, u 34, u 35, u 36, u 37, u 38], defers := dfs Ds } ∧ ClI U w4 (F k) Ds W) z ?start ?round
  case start => exact ⟨0, [], fun _ => undef, rfl, by omega, rfl, HI0⟩
  case round =>
    rintro r act W ⟨k, Ds, u, rfl, hk, rfl, hI⟩ J K hJ hK
    by_cases hlt : k < z
    · obtain ⟨b1, o1, rfl, hb1, hca⟩ := rdI (hI.but.rd HRL.out (fun b o e => by have := hA4'.out b o e (by omega); omega)) (by rw [iN_len, ← HZ.out]; omega)
      have G := hca k (by rw [iN_len, ← HZ.out]; exact hlt)
      rw [iN_get] at G
      have hyn := HLT.out k hlt
      have HSK := Lib.hid (HST.out k hlt)
      have hfk := HLTC.out k
      have h64 : 2 ^ k < 18446744073709551616 := Nat.pow_lt_pow_right (m := k) (n := 64) (by omega) (by omega)
      clear hca
      generalize vA ls k = y at *
      have HI := Lib.hid hI
      clear hI
      go_wp2_with fail
      refine (up_any a n c y _).mono ?_
      rintro e w6 ⟨rfl, rfl⟩
      obtain ⟨H, hH⟩ : ∃ H, H = W.heap.size := ⟨_, rfl⟩
      simp only [World.size_alloc]
      have hbK := ((Blk.new W #[.int .i64 k] 3).alloc (.cells #[.slice a n c] 22)).alloc (.cells #[.int .i64 y] 3)
      have hbT := (Blk.new2 W (.cells #[.int .i64 k] 3) #[.slice a n c] 22).alloc (.cells #[.int .i64 y] 3)
      have hbV := Blk.new ((W.alloc (.cells #[.int .i64 k] 3)).alloc (.cells #[.slice a n c] 22)) #[.int .i64 y] 3
      have hbl6 : Below W.heap.size W (((W.alloc (.cells #[.int .i64 k] 3)).alloc (.cells #[.slice a n c] 22)).alloc (.cells #[.int .i64 y] 3)) := bl_alloc (bl_alloc (bl_alloc (Below.refl _ _) _) _) _
      have hz6 : (((W.alloc (.cells #[.int .i64 k] 3)).alloc (.cells #[.slice a n c] 22)).alloc (.cells #[.int .i64 y] 3)).heap.size = H + 1 + 1 + 1 := by simp only [World.size_alloc, hH]
      simp only [World.size_alloc] at hbV
      obtain ⟨w6, hw6⟩ : ∃ x, x = (((W.alloc (.cells #[.int .i64 k] 3)).alloc (.cells #[.slice a n c] 22)).alloc (.cells #[.int .i64 y] 3)) := ⟨_, rfl⟩
      rw [← hw6] at hbK hbT hbV hbl6 hz6 ⊢
      rw [← hH] at hbK hbT hbV ⊢
      have HH := Lib.hid hH
      have HBK := Lib.hid hbK
      have HBT := Lib.hid hbT
      have HBV6 := Lib.hid hbV
      have HBL6 := Lib.hid hbl6
      have HZ6 := Lib.hid hz6
      have HUH : Hid (U < H) := by show _ < _; have := HI.out.but.size; omega
      have HU6 := Lib.hid (HI.out.cu.below hbl6)
      have HB6v := Lib.hid ((HI.out.but.blk HV4.out (by omega) (by omega)).below hbl6)
      have HR6 := Lib.hid ((HI.out.but.rd HR4.out (fun b o e => by have := hlow.out b o e; omega)).bl hbl6)
      clear hw6 hbK hbT hbV hbl6 hz6 hH G
      go_wp2_with fail
      refine (wpIn_wide (n := 10)).1 ?_
      refine wpIn_range_V rfl (by omega) (gf := 112) (lb := #[.pointer (some ⟨H + 1 + 1, 0, none⟩), .pointer (some ⟨H + 1, 0, none⟩)]) rfl trivial (enters_of Tryz.func112 (by kernel_rfl) rfl)
        (up_gives 9 n (H + 1 + 1) (H + 1) U c y a t w6 HN.out HPP.out HP0.out hyn (by omega) HBV6.out HBT.out HR6.out (by have := HUH.out; omega) (by have := HUH.out; omega) (by omega) (fun b o e => by have := hlow.out b o e; have := HUH.out; omega))
        KpX.trans (fun W l o o' _ h hc => KpX.put W l o o' h hc) (by have := HZ6.out; omega) (fun _ => rfl) (fun pre W' => Blk W' U #[.int .u64 (orK (F k) (2 ^ k) v pre : Nat)] 41 ∧ But3 U (H + 1 + 1) w6 W')
        (fun ys W W' row h hg hr => ⟨h.1.grown hg (fun e => by have := (hr U e.symm).1; have := HZ6.out; have := HUH.out; omega), h.2.grown hg (fun r e => (hr r e).1)⟩)
        (fun pre W' v' h => ⟨h.1.other (by have := HUH.out; omega) _ _, h.2.setV _ _⟩) ⟨by unfold orK; rw [if_neg (by simp)]; exact HU6.out, But3.refl _ _ _⟩
        (fun x => { tmps := #[.slice a n c, .int .i64 v, undef, .pointer (some ⟨Bv, 0, none⟩), .int .u64 0, .int .i64 0, .int .i64 0, .pointer (some ⟨U, 0, none⟩), .pointer (some ⟨H, 0, none⟩), .int .i64 y, .int .i64 (x : Int), .slice a n c, .int .i64 v, .slice (some ⟨Bv + 1, 0, none⟩) 1 1, .int .i64 0, .int .i64 0, .bool false, undef, .slice a n c, .slice (some ⟨b1, o1, none⟩) z c4, .int .i64 z, .int .i64 k, .bool true, .int .i64 k, .pointer (some ⟨b1, o1 + k, none⟩), .int .i64 y, .slice a n c, .int .i64 y, .func (.func 112) #[] #[.pointer (some ⟨H + 1 + 1, 0, none⟩), .pointer (some ⟨H + 1, 0, none⟩)], .int .i64 (x : Int), u 30, u 31, u 32, u 33, u 34, u 35, u 36, u 37, u 38], defers := [] }) ?assign ?body ?done
      case assign =>
        intro l x W' K hK
        gi_wp2
        exact hK
      case body =>
        rintro l pre x W' ⟨h1, h2⟩ _
        have hor := orK_snoc (F k) (2 ^ k) v pre x
        have hlt2 : orK (F k) (2 ^ k) v pre < 18446744073709551616 := by
          unfold orK
          split
          · exact Nat.or_lt_two_pow (n := 64) (by omega) h64
          · omega
        have hUl := HUH.out
        have hz6 := HZ6.out
        have c1 : W'.cell? ⟨Bv, 0, none⟩ = some (.int .i64 v) := (h2.blk HB6v.out (by omega) (by omega)).cell 0
        have c2 : W'.cell? ⟨U, 0, none⟩ = some (.int .u64 (orK (F k) (2 ^ k) v pre : Nat)) := h1.cell 0
        have c3 : W'.cell? ⟨H, 0, none⟩ = some (.int .i64 k) := (h2.blk HBK.out (by omega) (by omega)).cell 0
        have f2 : W'.frozen? ⟨U, 0, none⟩ = false := h1.free 0
        have HOR := Lib.hid hor
        have HB1 := Lib.hid h1
        have HB2 := Lib.hid h2
        clear hor h1 h2
        generalize orK (F k) (2 ^ k) v pre = A at *
        by_cases e : x = v
        · rw [if_pos e] at HOR
          have hbo := bits_or hlt2 h64
          have ew : ((2 : Int) ^ k) = ((2 ^ k : Nat) : Int) := by simp
          have HW : Hid (IntKind.u64.wrap (2 ^ k) = ((2 ^ k : Nat) : Int)) := by show _ = _; rw [ew, w64 _ h64]
          have hAU : ∀ nq, Blk ((W'.drewN nq).setCell ⟨U, 0, none⟩ (.int .u64 ((A ||| 2 ^ k : Nat) : Int))) U #[.int .u64 ((A ||| 2 ^ k : Nat) : Int)] 41 := fun nq => by
            have h := (HB1.out.drewN nq).set 0 (.int .u64 ((A ||| 2 ^ k : Nat) : Int))
            simpa using h
          have hAB : ∀ nq, But3 U (H + 1 + 1) w6 ((W'.drewN nq).setCell ⟨U, 0, none⟩ (.int .u64 ((A ||| 2 ^ k : Nat) : Int))) := fun nq => (HB2.out.drewN nq).setU _ _
          obtain ⟨r, hr⟩ : ∃ r, A ||| 2 ^ k = r := ⟨_, rfl⟩
          rw [hr] at hbo HOR hAU hAB
          obtain ⟨q, hq⟩ : ∃ q, 2 ^ k = q := ⟨_, rfl⟩
          rw [hq] at hbo HW
          have hw := HW.out
          have HAU := Lib.hid hAU
          have HAB := Lib.hid hAB
          have HE2 := Lib.hid e
          have HOX := HOR.out
          subst e
          clear hr hq ew hfk hlt2 hAU hAB HOR h64
          gi_wp2
          have hmo : Tryz.prog.follows .mixedOrders = true := by kernel_rfl
          gi_region_with_o (fail)
          all_goals exact ⟨(keeps_drewN W' 1).trans (KeepsOthers.setCell _ _ _), KpX.set (W'.drewN 1) 0 _, by rw [HOX]; exact HAU.out 1, HAB.out 1⟩
        · rw [if_neg e] at HOR
          have t1 : ((x : Int) == (v : Int)) = false := by simp; omega
          have t2 : decide ((x : Int) = (v : Int)) = false := by simp; omega
          clear e
          gi_wp2
          exact ⟨KeepsOthers.refl _, KpX.refl _ _, by rw [HOR.out]; exact HB1.out, HB2.out⟩
      case done =>
        rintro D W' hD ⟨h1, h2⟩ hKD
        have hNX := HI.out.next hU4l HH.out HBL6.out h2 (by have := HZ6.out; have := HH.out; omega) (by rw [← HSK.out] at h1; exact h1) hD hKD
        clear h1 h2 hKD
        simp only [Exit.inBlock, Exit.then]
        go_wp2_with fail
        exact Handed.intro (z - (k + 1)) (by omega) (hJ _ _ _ ⟨k + 1, D :: Ds, ex_u rfl (by omega) hNX rfl⟩)
    · obtain rfl : k = z := by omega
      have HI := Lib.hid hI
      have c1 : W.cell? ⟨U, 0, none⟩ = some (.int .u64 (F k : Nat)) := hI.cu.cell 0
      clear hI
      go_wp2_with fail
      refine leaves_all Ds _ HI.out.nd (fun D hD => (HI.out.ds D hD).2) fun w' ht => ⟨_, results_tmp2 rfl _ _ _, ?_⟩
      refine ⟨by rw [HFE.out]; rfl, ht.below ?_ fun D hD => by have := (HI.out.ds D hD).1; have := HB4.out.size; omega⟩
      have hb := HI.out.but
      exact ⟨hb.os.trans HB4.out.os, hb.tape.trans HB4.out.tape, hb.output.trans HB4.out.output, Nat.le_trans HB4.out.size hb.size, fun q hq => (hb.block q (by have := HB4.out.size; omega) (by omega) (by omega)).trans (HB4.out.block q hq)⟩
end Go.Proofs.YtfgkjofdgohacaaGreatDoor
namespace Go.Proofs.YtfgkjofdgohacaaGreatDoor
open Go Go.RowKit Go.Shelf Go.Maps
set_option maxRecDepth 100000 in
set_option maxHeartbeats 4000000 in
theorem wleaves_any (a : Option Addr) (n c : Nat) (t : List Nd) (w : World) (hn : t.length = n) (hA : Rd w a (fl encNd t)) (hS : ∀ v, v < n → (nS t v).size ≤ 9223372036854775807) (hok : TreeOk t) :
    Calls Tryz.prog 37 #[.slice a n c] w fun e w' => ∃ v, e = .returned v ∧ w'.ownsRow w.heap.size 9 1 v (lvT t).length (fl encS (nmsL t)) ∧ Below w.heap.size w w' := by
  have hn63 : n ≤ 63 := by rw [← hn]; exact hok.2.1
  have HN := Lib.hid hn
  have HOK := Lib.hid hok
  have HA := Lib.hid hA
  have HLV := Lib.hid (Leaves_any a n c t w hn (by omega) hA hS)
  have HE : Hid (chkE t = 0) := chkE_good hok
  obtain ⟨L, hL⟩ : ∃ L, L = (lvT t).length := ⟨_, rfl⟩
  have HLL := Lib.hid hL
  have HLB : Hid (L ≤ 63) := by show L ≤ 63; rw [hL]; exact lvT_le63 hok
  rw [← hL] at HLV ⊢
  rw [HE.out] at HLV
  have HND := Lib.hid (nms_nodup hn hok)
  clear hn hA hS hok hL
  have hL63 : L ≤ 63 := HLB.out
  go_enter Tryz.func37, Tryz.ntmps37
  go_wp2_with (go_at_call 39; refine HLV.out.mono ?_; rintro e w2 ⟨v, rfl, ho, hb2⟩; obtain ⟨al, c2, rfl⟩ := owns_sl ho; have HO := Lib.hid ho; have HB2 := Lib.hid hb2; clear ho hb2)
  have HRL := Lib.hid (rd_of_owns HO.out)
  obtain ⟨nm, hnm⟩ : ∃ nm : Nat → List ByteArray, nm = fun k => ((lvT t).take k).map (nS t) := ⟨_, rfl⟩
  have HLU : Hid (∀ k, k < L → vA (lvT t) k < n ∧ nm (k + 1) = nm k ++ [nS t (vA (lvT t) k)] ∧ (nm k).length = k) := fun k hk => by
    have hkl : k < (lvT t).length := by rw [← HLL.out]; exact hk
    refine ⟨(tok_leaf HN.out HOK.out hkl).1, ?_, ?_⟩
    · rw [hnm]
      show ((lvT t).take (k + 1)).map (nS t) = _
      rw [take_snocV hkl, List.map_append]; rfl
    · rw [hnm]
      show (((lvT t).take k).map (nS t)).length = k
      rw [List.length_map, List.length_take]; omega
  have HN0 : Hid (nm 0 = []) := by show _ = _; rw [hnm]; rfl
  have HNA : Hid (nm L = (lvT t).map (nS t)) := by
    show _ = _
    rw [hnm, HLL.out]
    show ((lvT t).take (lvT t).length).map (nS t) = _
    rw [List.take_length]
  have HNK : Hid (∀ k, (nm k).Nodup) := fun k => by
    rw [hnm]
    show (((lvT t).take k).map (nS t)).Nodup
    rw [List.map_take]
    exact HND.out.sublist (List.take_sublist _ _)
  clear hnm HLV HO
  go_wp2_with fail
  go_loopw [6, 5] (fun x y wr => ∃ (k cA : Nat) (A : Option Addr), k ≤ L ∧ x = .int .i64 k ∧ y = .slice A k cA ∧ Hid (∃ P : List ByteArray, P.length = k ∧ P.Pairwise LtB ∧ P.Perm (nm k) ∧ wr.ownsRow w2.heap.size 9 1 (.slice A k cA) k (fl encS P)) ∧ Hid (Below w2.heap.size w2 wr)) (fun x _ _ => L - (intOf x).toNat)
  case atStart => exact ⟨0, 0, none, by omega, rfl, rfl, ⟨[], rfl, List.Pairwise.nil, by rw [HN0.out], World.ownsRow_nil _ _ _ _⟩, Below.refl _ _⟩
  case round =>
    obtain ⟨k, cA, A, hk, rfl, rfl, HV, HBW⟩ := hrel
    by_cases hlt : k < L
    · obtain ⟨hu, hnx, hnl⟩ := HLU.out k hlt
      have HNX := Lib.hid hnx
      have HNL := Lib.hid hnl
      clear hnx hnl
      obtain ⟨bl, ol, rfl, _, hcl⟩ := rdI (HRL.out.bl HBW.out) (by rw [iN_len, ← HLL.out]; omega)
      have c1 := hcl k (by rw [iN_len, ← HLL.out]; exact hlt)
      rw [iN_get] at c1
      clear hcl
      generalize vA (lvT t) k = u at *
      obtain ⟨bn, on, rfl, _, hcn⟩ := rdNd (HA.out.bl (bl_trans HB2.out HBW.out)) (by rw [HN.out]; omega)
      have c2 := (hcn u (by rw [HN.out]; exact hu)).2
      clear hcn
      generalize nS t u = s at *
      obtain ⟨P, hpl, hpw, hperm, hown⟩ := HV.out
      have HPL := Lib.hid hpl
      have HPW := Lib.hid hpw
      have HPM := Lib.hid hperm
      have HOW := Lib.hid hown
      clear hpl hpw hperm hown
      have d1 : decide ((u : Int) < 0) = false := decide_eq_false (by omega)
      have d2 : decide ((n : Int) ≤ (u : Int)) = false := decide_eq_false (by omega)
      have hsz1 : w2.heap.size ≤ (wr.alloc (.cells #[.string s] 9)).heap.size := (bl_alloc HBW.out _).size
      go_wp2_with (at_builtin; refine push_S4 rfl (.tmp 35) (.tmp 44) rfl w2.heap.size (.slice A k cA) P k HPL.out.symm rfl (HOW.out.alloc _) _ _ s rfl (Blk.new _ _ _) (by omega) hsz1 ?_; intro g cap w8 h1 h2 h3 h4; have H81 := Lib.hid h1; have H82 := Lib.hid (bl_grown (bl_alloc HBW.out _) h2 (fun r e => (HOW.out.lt r e).1)); clear h1 h2 h3 h4)
      have hgz : w2.heap.size ≤ g := by
        obtain ⟨_, hr⟩ := H81.out
        rcases hr with ⟨hv, _⟩ | ⟨g', _, _, hv, hg, _⟩
        · cases hv
        · cases hv; exact hg
      have HPI : Hid (∃ P1 P2 : List ByteArray, P1.length = k ∧ P1.length + P2.length = k ∧ (P1 ++ P2).Pairwise LtB ∧ (∀ y ∈ P2, LtB s y) ∧ (P1 ++ s :: P2).Perm (nm (k + 1)) ∧ w8.ownsRow w2.heap.size 9 1 (.slice (some ⟨g, 0, none⟩) (k + 1) cap) (k + 1) (fl encS (P1 ++ s :: P2))) :=
        ⟨P, [], HPL.out, by rw [HPL.out]; rfl, by rw [List.append_nil]; exact HPW.out, by simp, by rw [HNX.out]; exact List.Perm.append_right _ HPM.out, H81.out⟩
      have hwk0 : IntKind.i64.wrap (((k : Int) + 1) - 1) = (k : Int) := wrap_nat _ k (by omega) (by omega)
      have hwk1 : IntKind.i64.wrap (((k + 1 : Nat) : Int) - 1) = (k : Int) := wrap_nat _ k (by omega) (by omega)
      clear HV c1 c2 d1 d2 H81
      go_wp2_with fail
      go_loopw [7] (fun y wr2 => ∃ j : Nat, j ≤ k ∧ y = .int .i64 j ∧ Hid (Below w2.heap.size w2 wr2) ∧ Hid (∃ P1 P2 : List ByteArray, P1.length = j ∧ P1.length + P2.length = k ∧ (P1 ++ P2).Pairwise LtB ∧ (∀ y ∈ P2, LtB s y) ∧ (P1 ++ s :: P2).Perm (nm (k + 1)) ∧ wr2.ownsRow w2.heap.size 9 1 (.slice (some ⟨g, 0, none⟩) (k + 1) cap) (k + 1) (fl encS (P1 ++ s :: P2)))) (fun y _ => (intOf y).toNat)
      case atStart => exact ⟨k, Nat.le_refl _, rfl, H82, HPI⟩
      case round =>
        clear H82 HPI hwk0 hwk1 hsz1
        obtain ⟨j, hj, rfl, HB, HPI⟩ := hrel
        obtain ⟨P1, P2, hk1, hki, hpw, hlow, hperm, ho⟩ := HPI.out
        have hcl : (P1 ++ s :: P2).length = k + 1 := by simp; omega
        have OUT : Hid ((∀ y ∈ P1, LtB y s) → ∀ q, Hid (∃ P : List ByteArray, P.length = k + 1 ∧ P.Pairwise LtB ∧ P.Perm (nm (k + 1)) ∧ (wr.drewN q).ownsRow w2.heap.size 9 1 (.slice (some ⟨g, 0, none⟩) (k + 1) cap) (k + 1) (fl encS P)) ∧ Hid (Below w2.heap.size w2 (wr.drewN q))) := fun hall q =>
          ⟨⟨P1 ++ s :: P2, hcl, ins_pw4 hpw hall hlow, hperm, own1_drew ho q⟩, bl_drewN HB.out q⟩
        have hcs : ∀ t, t < k + 1 → wr.cell? ⟨g, t, none⟩ = some (.string (sA (P1 ++ s :: P2) t)) := fun t ht => by
          have h := (own1_cells ho ht).1
          rw [h, fl_S1]
          exact congrArg some (sA_map hcl ht)
        have hfr : ∀ t, t < k + 1 → wr.frozen? ⟨g, t, none⟩ = false := fun t ht => (own1_cells ho ht).2
        have HO := Lib.hid ho
        have HPM := Lib.hid hperm
        have HPW := Lib.hid hpw
        have HLW := Lib.hid hlow
        have HK1 := Lib.hid hk1
        have HKI := Lib.hid hki
        by_cases hk0 : 0 < j
        · obtain ⟨P0, y, rfl⟩ : ∃ P0 y, P1 = P0 ++ [y] := ⟨P1.dropLast, P1.getLast (by intro e; rw [e] at hk1; simp at hk1; omega), (List.dropLast_concat_getLast _).symm⟩
          have hp0 : P0.length = j - 1 := by simp at hk1; omega
          have HP0 := Lib.hid hp0
          have gx : sA (P0 ++ [y] ++ s :: P2) j = s := by
            rw [← hk1]
            exact getD_mid (P0 ++ [y]) P2 s ByteArray.empty
          have gy : sA (P0 ++ [y] ++ s :: P2) (j - 1) = y := by
            rw [← hp0]
            have := getD_mid P0 (s :: P2) y ByteArray.empty
            unfold sA
            rw [List.append_assoc]
            exact this
          obtain ⟨G, hG⟩ : ∃ G : Nat → ByteArray, ∀ t, G t = sA (P0 ++ [y] ++ s :: P2) t := ⟨_, fun _ => rfl⟩
          have hcw : ∀ t, t < k + 1 → wr.cell? ⟨g, t, none⟩ = some (.string (G t)) := fun t ht => by rw [hG]; exact hcs t ht
          have HGX : Hid (G j = s) := (hG j).trans gx
          have HGY : Hid (G (j - 1) = y) := (hG (j - 1)).trans gy
          clear hG hcs gx gy hk1 hki hpw hlow hperm ho hcl hp0
          have hkn : j < k + 1 := by omega
          have hwk : IntKind.i64.wrap ((j : Int) - 1) = ((j - 1 : Nat) : Int) := wrap_nat _ (j - 1) (by omega) (by omega)
          have hk1n : j - 1 < k + 1 := by omega
          rcases Bool.eq_false_or_eq_true (ltB (G j) (G (j - 1))) with hq | hq
          · have hb : Op.bytesLess (G j).toList (G (j - 1)).toList = true := by rw [bytesL_eq, ByteArray.toList_eq, ByteArray.toList_eq]; exact hq
            have HQ := Lib.hid hq
            clear hq
            go_wp2_with fail
            go_quiet (fail)
            go_wp2_with fail
            go_region
            all_goals go_wp2_with fail
            refine ⟨⟨j - 1, by omega, rfl, ?_, ?_⟩, by simp [intOf]; omega⟩
            · exact bl_set2 HB.out hgz
            · refine ⟨P0, y :: P2, HP0.out, ?_, ?_, ?_, ?_, ?_⟩
              · have := HKI.out; simp at this ⊢; omega
              · have := HPW.out; simpa using this
              · intro z hz
                rcases List.mem_cons.1 hz with rfl | hz
                · rw [← HGX.out, ← HGY.out]; exact ltB_iff.1 HQ.out
                · exact HLW.out z hz
              · have := HPM.out
                refine List.Perm.trans ?_ this
                simp only [List.append_assoc, List.singleton_append]
                exact List.Perm.append_left _ (List.Perm.swap y s _)
              · have h := own1_swap Value.string (q := nq + 1) (P := P0) (R := P2) (a := y) (b := s) (by rw [← fl_S1]; have h := HO.out; simpa using h)
                rw [← fl_S1] at h
                have e1 : P0.length + 1 = j := by rw [HP0.out]; omega
                rw [e1, HP0.out] at h
                rw [HGX.out, HGY.out]
                simpa using h
          · have hb : Op.bytesLess (G j).toList (G (j - 1)).toList = false := by rw [bytesL_eq, ByteArray.toList_eq, ByteArray.toList_eq]; exact hq
            have HQ := Lib.hid hq
            have HALL : Hid (∀ z ∈ P0 ++ [y], LtB z s) := low_all4 (List.pairwise_append.1 HPW.out).1 (by
              have h1 : ¬ LtB s y := fun h => by
                have h2 := HQ.out
                rw [HGX.out, HGY.out, ltB_iff.2 h] at h2
                cases h2
              refine LtB.tot h1 fun e => ?_
              have h3 := (HPM.out.nodup_iff).2 (HNK.out _)
              rw [e] at h3
              simp [List.nodup_append] at h3)
            clear hq
            go_wp2_with fail
            go_quiet (fail)
            go_wp2_with fail
            obtain ⟨o1, o2⟩ := OUT.out HALL.out nq
            exact ⟨⟨k + 1, cap, _, by omega, by go_num, rfl, o1, o2⟩, by simp [intOf]; omega⟩
        · have h0 : P1 = [] := List.eq_nil_of_length_eq_zero (by omega)
          subst h0
          clear hcs hfr hk1 hki hpw hlow hperm ho hcl HO HPM HPW HLW HK1 HKI
          go_wp2_with fail
          go_quiet (fail)
          go_wp2_with fail
          obtain ⟨o1, o2⟩ := OUT.out (by simp) nq
          exact ⟨⟨k + 1, cap, _, by omega, by go_num, rfl, o1, o2⟩, by simp [intOf]; omega⟩
    · obtain rfl : k = L := by omega
      obtain ⟨P, hpl, hpw, hperm, hown⟩ := HV.out
      have hs : P = nmsL t := srtB_ext hpw (nms_pw HN.out HOK.out) fun x => by
        rw [hperm.mem_iff, HNA.out]
        unfold nmsL
        rw [srtB_mem]
      rw [hs] at hown
      have HOW := Lib.hid (owns_base4 hown HB2.out.size)
      clear hs hown hperm hpw hpl
      go_wp2_with fail
      go_ret
      exact ⟨_, rfl, HOW.out, bl_trans HB2.out HBW.out⟩
end Go.Proofs.YtfgkjofdgohacaaGreatDoor
namespace Go.Proofs.YtfgkjofdgohacaaGreatDoor
open Go Go.RowKit Go.Shelf
set_option maxHeartbeats 1000000 in
theorem lfit4_any (x y : Nat) (w : World) (hx : x < 18446744073709551616) (hy : y < 18446744073709551616) :
    Calls Tryz.prog 38 #[.int .u64 x, .int .u64 y] w fun e w' => e = .returned (.bool (fitB x y)) ∧ w' = w := by
  have hb := bits_and hx hy
  obtain ⟨z, hz⟩ : ∃ z, x &&& y = z := ⟨_, rfl⟩
  rw [hz] at hb
  have HF : Hid (fitB x y = (decide (z = 0) || decide (z = x) || decide (z = y))) := by show _ = _; unfold fitB; rw [hz]
  clear hz
  by_cases q1 : z = 0
  · have t1 : ((z : Int) == 0) = true := by simp [q1]
    have HQ : Hid (fitB x y = true) := by show _ = _; rw [HF.out, decide_eq_true q1]; rfl
    have t2 : (z == 0) = true := by simp [q1]
    clear q1
    go_enter Tryz.func38, Tryz.ntmps38
    go_wp2_with fail
    go_ret
    exact ⟨ret_b (by rw [HQ.out]; try simp [t1]), rfl⟩
  · have t1 : ((z : Int) == 0) = false := by simp [q1]
    have t1n : (z == 0) = false := by simp [q1]
    by_cases q2 : z = x
    · have t2 : ((z : Int) == (x : Int)) = true := by simp [q2]
      have t2n : (z == x) = true := by simp [q2]
      have HQ : Hid (fitB x y = true) := by show _ = _; rw [HF.out, decide_eq_true q2]; simp
      clear q1 q2
      go_enter Tryz.func38, Tryz.ntmps38
      go_wp2_with fail
      all_goals
        go_ret
        exact ⟨ret_b (by rw [HQ.out]; try simp [t1, t1n, t2, t2n]), rfl⟩
    · have t2 : ((z : Int) == (x : Int)) = false := by simp; omega
      have t2n : (z == x) = false := by simp [q2]
      by_cases q3 : z = y
      · have t3 : ((z : Int) == (y : Int)) = true := by simp [q3]
        have t3n : (z == y) = true := by simp [q3]
        have HQ : Hid (fitB x y = true) := by show _ = _; rw [HF.out, decide_eq_true q3]; simp
        clear q1 q2 q3
        go_enter Tryz.func38, Tryz.ntmps38
        go_wp2_with fail
        all_goals
          go_ret
          exact ⟨ret_b (by rw [HQ.out]; try simp [t1, t1n, t2, t2n, t3, t3n]), rfl⟩
      · have t3 : ((z : Int) == (y : Int)) = false := by simp; omega
        have t3n : (z == y) = false := by simp [q3]
        have HQ : Hid (fitB x y = false) := by show _ = _; rw [HF.out, decide_eq_false q1, decide_eq_false q2, decide_eq_false q3]; rfl
        clear q1 q2 q3
        go_enter Tryz.func38, Tryz.ntmps38
        go_wp2_with fail
        all_goals
          go_ret
          exact ⟨ret_b (by rw [HQ.out]; try simp [t1, t1n, t2, t2n, t3, t3n]), rfl⟩
set_option maxHeartbeats 1000000 in
theorem rfit4_any (x y : Nat) (w : World) (hx : x < 18446744073709551616) (hy : y < 18446744073709551616) :
    Calls Tryz.prog 75 #[.int .u64 x, .int .u64 y] w fun e w' => e = .returned (.bool (fitB x y)) ∧ w' = w := by
  have hb := bits_and hx hy
  obtain ⟨z, hz⟩ : ∃ z, x &&& y = z := ⟨_, rfl⟩
  rw [hz] at hb
  have HF : Hid (fitB x y = (decide (z = 0) || decide (z = x) || decide (z = y))) := by show _ = _; unfold fitB; rw [hz]
  clear hz
  by_cases q1 : z = 0
  · have t1 : ((z : Int) == 0) = true := by simp [q1]
    have HQ : Hid (fitB x y = true) := by show _ = _; rw [HF.out, decide_eq_true q1]; rfl
    have t2 : (z == 0) = true := by simp [q1]
    clear q1
    go_enter Tryz.func75, Tryz.ntmps75
    go_wp2_with fail
    go_ret
    exact ⟨ret_b (by rw [HQ.out]; try simp [t1]), rfl⟩
  · have t1 : ((z : Int) == 0) = false := by simp [q1]
    have t1n : (z == 0) = false := by simp [q1]
    by_cases q2 : z = x
    · have t2 : ((z : Int) == (x : Int)) = true := by simp [q2]
      have t2n : (z == x) = true := by simp [q2]
      have HQ : Hid (fitB x y = true) := by show _ = _; rw [HF.out, decide_eq_true q2]; simp
      clear q1 q2
      go_enter Tryz.func75, Tryz.ntmps75
      go_wp2_with fail
      all_goals
        go_ret
        exact ⟨ret_b (by rw [HQ.out]; try simp [t1, t1n, t2, t2n]), rfl⟩
    · have t2 : ((z : Int) == (x : Int)) = false := by simp; omega
      have t2n : (z == x) = false := by simp [q2]
      by_cases q3 : z = y
      · have t3 : ((z : Int) == (y : Int)) = true := by simp [q3]
        have t3n : (z == y) = true := by simp [q3]
        have HQ : Hid (fitB x y = true) := by show _ = _; rw [HF.out, decide_eq_true q3]; simp
        clear q1 q2 q3
        go_enter Tryz.func75, Tryz.ntmps75
        go_wp2_with fail
        all_goals
          go_ret
          exact ⟨ret_b (by rw [HQ.out]; try simp [t1, t1n, t2, t2n, t3, t3n]), rfl⟩
      · have t3 : ((z : Int) == (y : Int)) = false := by simp; omega
        have t3n : (z == y) = false := by simp [q3]
        have HQ : Hid (fitB x y = false) := by show _ = _; rw [HF.out, decide_eq_false q1, decide_eq_false q2, decide_eq_false q3]; rfl
        clear q1 q2 q3
        go_enter Tryz.func75, Tryz.ntmps75
        go_wp2_with fail
        all_goals
          go_ret
          exact ⟨ret_b (by rw [HQ.out]; try simp [t1, t1n, t2, t2n, t3, t3n]), rfl⟩
end Go.Proofs.YtfgkjofdgohacaaGreatDoor
