/- treecmp.build. Counts of numbers of 64 bits in maps of the call's own. treecmp.consensus: the walk. slices.Clone of rows of trees. treecmp.Support: the walk. treecmp.Triples. treecmp.Strict, treecmp.Majority. The families that win are hierarchies. The example of package 34: its values. The example of package 34: what the consensus and the support answer. -/
import Derived.Test.YtfgkjofdgohacaaGreatDoorGG
import Derived.Test.YtfgkjofdgohacaaGreatDoorGB
import Derived.Deep.LoopGhost
import Derived.Test.YtfgkjofdgohacaaGreatDoorGD
import Derived.Lib.SliceRun
import Derived.Test.YtfgkjofdgohacaaGreatDoorGF
namespace Go.Proofs.YtfgkjofdgohacaaGreatDoor
open Go Go.RowKit Go.Shelf Go.Maps
theorem pow_all {L : Nat} (hL : L ≤ 32) : IntKind.u64.wrap (IntKind.u64.wrap (2 ^ L) - 1) = ((2 ^ L - 1 : Nat) : Int) := by
  have hp : 2 ^ L ≤ 4294967296 := Nat.pow_le_pow_right (n := 2) (by omega) (show L ≤ 32 by omega)
  have hp0 : 0 < 2 ^ L := Nat.two_pow_pos L
  rw [pow64 (by omega), show ((2 ^ L : Nat) : Int) - 1 = ((2 ^ L - 1 : Nat) : Int) by omega, IntKind.wrap_u64]
  generalize 2 ^ L = z at *
  omega
/-- What build's sets hold. -/
def famP (L : Nat) (S : List Nat) (x : Nat) : Prop := x = 2 ^ L - 1 ∨ (∃ k, k < L ∧ x = 2 ^ k) ∨ x ∈ S
theorem info_RI : (Tryz.prog.info? 30).map (fun i => (i.zero, i.size, i.bytes)) = some (some (.slice none 0 0), 1, 24) := by kernel_rfl
theorem encI_one4 : ∀ x : Int, ∀ u ∈ encI x, u.oneCell' = true := by
  intro x u hu
  simp only [encI, List.mem_cons, List.not_mem_nil, or_false] at hu
  subst hu; rfl
/-- The sets that were put so far. -/
structure BdI (w1 : World) (S5 m1 K : Nat) (P : Nat → Prop) (W : World) : Prop where
  bl : Below w1.heap.size w1 W
  s5 : Blk W S5 #[.map (some m1)] 67
  mu : ∃ A, MU W m1 K A ∧ ∀ x, x ∈ A ↔ P x
theorem BdI.below {w1 W W' : World} {S5 m1 K : Nat} {P : Nat → Prop} (h : BdI w1 S5 m1 K P W) (hb : Below W.heap.size W W') : BdI w1 S5 m1 K P W' :=
  ⟨bl_trans h.bl hb, h.s5.below hb, let ⟨A, h1, h2⟩ := h.mu; ⟨A, h1.bl hb, h2⟩⟩
theorem BdI.put {w1 W : World} {S5 m1 K B x : Nat} {P : Nat → Prop} (h : BdI w1 S5 m1 K P W) (hm1 : w1.heap.size ≤ m1) (hK : K ≤ 1000000) (hB : Blk W B #[.int .u64 (x : Int)] 41) (hx : x < 18446744073709551616) :
    Calls Tryz.prog 69 #[.map (some m1), .slice (some ⟨B, 0, none⟩) 1 1] W fun e w' => e = .returned (.tuple #[]) ∧ BdI w1 S5 m1 (K + 1) (fun y => P y ∨ y = x) w' ∧ W.grownBy w' (some m1) := by
  obtain ⟨A, h1, h2⟩ := h.mu
  refine (putU_any m1 K A (some ⟨B, 0, none⟩) 1 1 [x] W h1 rfl (by omega) (by omega) (rd_of_blk4 (cs := fl encV [x]) hB) (fun i hi => by
    have : i = 0 := by omega
    subst this; exact hx)).mono ?_
  rintro e w' ⟨he, hmu, hg⟩
  obtain ⟨es, cl, hbk⟩ := h1.blk
  refine ⟨he, ⟨bl_grown h.bl hg fun r e => by rw [← Option.some.inj e]; exact hm1, h.s5.grown hg fun e => ?_, addL A [x], hmu, fun y => by rw [addL_mem, h2]; simp⟩, hg⟩
  have e : S5 = m1 := Option.some.inj e
  have h3 := h.s5
  unfold Blk at h3
  rw [e, hbk] at h3
  cases h3
theorem blk_keptM {W W' : World} {B tm n : Nat} {cs : Array Value} {t : TypeId} {S : List ByteArray} (h : Blk W B cs t) (hM : MN W tm n S) (hg : W.grownBy W' (some tm)) : Blk W' B cs t := by
  refine gr_blk4 hg h fun e => ?_
  subst e
  obtain ⟨es, c, hb⟩ := hM.blk
  have h2 : W.heap[B]? = some (.cells cs t (0, 0)) := h
  rw [h2] at hb
  cases hb
theorem owns_keptM {W W' : World} {base e k m tm n : Nat} {v : Value} {xs : List Value} {S : List ByteArray} (h : W.ownsRow base e k v m xs) (hM : MN W tm n S) (hg : W.grownBy W' (some tm)) : W'.ownsRow base e k v m xs := by
  refine h.kept hg ?_
  cases hv : v.ownBlock with
  | none => exact .inl rfl
  | some R =>
    refine .inr fun e' => ?_
    obtain ⟨cs, fr, hR⟩ := owns_ty h hv
    obtain ⟨es, c, hb⟩ := hM.blk
    have : R = tm := Option.some.inj e'
    subst this
    rw [hR] at hb
    cases hb
theorem KdI.keptM {a0 W W' : World} {KA K m tm n : Nat} {ys : List Nat} {rws : List Rw} {S : List ByteArray} (h : KdI a0 KA K ys rws m W) (hM : MN W tm n S) (hg : W.grownBy W' (some tm)) (ht : a0.heap.size ≤ tm) : KdI a0 KA K ys rws m W' :=
  ⟨bl_grown h.bl hg fun r e => by rw [← Option.some.inj e]; exact ht, blk_keptM h.kc hM hg, owns_keptM h.ka hM hg, h.rl, fun i hi => owns_keptM (h.rows i hi) hM hg, h.rr⟩
theorem sortedKeys_any {a0 w : World} (b n : Nat) (S : List Nat) (h : MU w b n S) (hS : S.length < 1048576) (hF : Lam S) (hT : TzG a0) (ha0 : Below a0.heap.size a0 w) :
    Calls Tryz.prog 97 #[.func (.func 121) #[] #[.pointer (some ⟨w.heap.size, 0, none⟩)], .func (.func 98) #[] #[]] (w.alloc (.cells #[.map (some b)] 67)) fun e w' => ∃ v ys, e = .returned v ∧ List.Perm ys S ∧ ys.Pairwise (fun a b => rkS a < rkS b) ∧ w'.ownsRow w.heap.size 41 1 v S.length (fl encV ys) ∧ Below w.heap.size w w' := by
  have hs := keysU_stops 9 w.heap.size b n S (w.alloc (.cells #[.map (some b)] 67)) (by omega) (by simp) ((Blk.new w #[.map (some b)] 67).cell 0) (h.alloc _)
  have hb1 := bl_alloc (Below.refl _ w) (.cells #[.map (some b)] 67)
  have hc := sortedF_any (a0 := a0) 121 (enters_of Tryz.func121 (by kernel_rfl) rfl) _ _ S _ KeepsWalks hF hS (by omega) h.nd hs KeepsWalks.trans
    (fun W l o o' _ hl _ hw => ⟨by simp [World.putObj], fun k o2 hk ho2 => by
      by_cases e : k = l
      · subst e; rw [hl] at hk; cases hk; rw [hw] at ho2; cases ho2
      · exact (World.putObj_heap_other (fun e2 => e e2)).trans hk⟩)
    (fun W W' hk _ => ⟨hk.size, fun k o hk1 ho => hk.same k o hk1 (by cases o <;> first | rfl | cases ho)⟩) hT (bl_trans ha0 hb1)
  refine hc.mono ?_
  rintro e w' ⟨v, ys, he, p1, p2, h1, h2⟩
  exact ⟨v, ys, he, p1, p2, owns_base4 h1 (by rw [World.size_alloc]; omega), bl_trans hb1 h2⟩
set_option maxRecDepth 100000 in
set_option maxHeartbeats 2000000 in
theorem tbuild_any (a : Option Addr) (L c : Nat) (nm : List ByteArray) (b n : Nat) (S F : List Nat) (w : World) (hl : nm.length = L) (h1 : 1 ≤ L) (h32 : L ≤ 32) (hA : Rd w a (fl encS nm)) (hne : ∀ s, s ∈ nm → s ≠ ByteArray.empty) (hsz : ∀ s, s ∈ nm → s.size ≤ maxLen) (hnd : nm.Nodup)
    (hM : MU w b n S) (hn : n ≤ 900000) (hF : Hier L F) (hm : ∀ x, x ∈ F ↔ famP L S x) (hT : TzG w) :
    Calls Tryz.prog 70 #[.slice a L c, .map (some b)] w fun e w' => ∃ v, e = .returned v ∧ w'.ownsRow w.heap.size 56 2 v (grw nm F 64 (2 ^ L - 1) (-1) ([], 0)).1.length (fl encNd (grw nm F 64 (2 ^ L - 1) (-1) ([], 0)).1) ∧ Below w.heap.size w w' := by
  have HL := Lib.hid hl
  have HA := Lib.hid hA
  have HNE := Lib.hid hne
  have HSZ := Lib.hid hsz
  have HND := Lib.hid hnd
  have HM := Lib.hid hM
  have HF := Lib.hid hF
  have HMF := Lib.hid hm
  have HT := Lib.hid hT
  have hall := pow_all h32
  have HAL64 : Hid (2 ^ L - 1 < 18446744073709551616) := by
    have hp : 2 ^ L ≤ 4294967296 := Nat.pow_le_pow_right (n := 2) (by omega) (show L ≤ 32 by omega)
    show _ < _
    omega
  have HP64 : Hid (∀ k, k < L → 2 ^ k < 18446744073709551616) := fun k hk => by
    have hp : 2 ^ k ≤ 2 ^ 32 := Nat.pow_le_pow_right (n := 2) (by omega) (show k ≤ 32 by omega)
    omega
  clear hl hA hne hsz hnd hM hF hm hT
  obtain ⟨AL, hAL⟩ : ∃ AL, AL = 2 ^ L - 1 := ⟨_, rfl⟩
  rw [← hAL] at hall HAL64 ⊢
  have HALE := Lib.hid hAL
  clear hAL
  refine (callsIn_wide (n := 10)).1 ?_
  refine callsIn_of_wp_marks Tryz.func70 rfl trivial ?_ rfl
  simp only [Tryz.ntmps70, List.size_toArray, List.length_cons, List.length_nil, Nat.reduceAdd, Nat.reduceSub, Array.replicate_succ, Array.replicate_zero, List.push_toArray, List.append_toArray, List.nil_append, List.cons_append]
  refine wpIn_wide.2 ?_
  have hmm := @run_makeMap Tryz.prog
  go_upto_region 2 with fail
  obtain ⟨w1, hw1⟩ : ∃ x, x = w.alloc (.cells #[.slice a L c] 46) := ⟨_, rfl⟩
  obtain ⟨w4, hw4⟩ : ∃ x, x = ((w.alloc (.cells #[.slice a L c] 46)).alloc (.map #[] 0)).alloc (.cells #[.map (some (w.heap.size + 1))] 67) := ⟨_, rfl⟩
  have HB1 : Hid (Below w.heap.size w w1) := by show Below _ _ _; rw [hw1]; exact bl_alloc (Below.refl _ _) _
  have HNC : Hid (Blk w1 w.heap.size #[.slice a L c] 46) := by show Blk _ _ _ _; rw [hw1]; exact Blk.new _ _ _
  have HZ1 : Hid (w1.heap.size = w.heap.size + 1) := by show _ = _; rw [hw1, World.size_alloc]
  have HBD : Hid (BdI w1 (w.heap.size + 1 + 1) (w.heap.size + 1) 0 (fun _ => False) w4) := by
    refine ⟨?_, ?_, [], ?_, fun x => by simp⟩
    · rw [hw4, ← hw1]; exact bl_alloc (bl_alloc (Below.refl _ _) _) _
    · rw [hw4]
      have h := Blk.new ((w.alloc (.cells #[.slice a L c] 46)).alloc (.map #[] 0)) #[.map (some (w.heap.size + 1))] 67
      rw [World.size_alloc, World.size_alloc] at h
      exact h
    · rw [hw4]
      have h := (MU.made (w.alloc (.cells #[.slice a L c] 46))).alloc (.cells #[.map (some (w.heap.size + 1))] 67)
      rw [World.size_alloc] at h
      exact h
  rw [← hw4]
  obtain ⟨Nc, hNc⟩ : ∃ x, x = w.heap.size := ⟨_, rfl⟩
  rw [← hNc] at HNC HZ1 HBD ⊢
  have HNE2 := Lib.hid hNc
  obtain ⟨m1, hm1⟩ : ∃ x, x = Nc + 1 := ⟨_, rfl⟩
  rw [← hm1] at HZ1 HBD ⊢
  obtain ⟨S5, hS5⟩ : ∃ x, x = m1 + 1 := ⟨_, rfl⟩
  rw [← hS5] at HBD ⊢
  have HM1 : Hid (w1.heap.size ≤ m1) := by show _ ≤ _; rw [HZ1.out]; exact Nat.le_refl _
  clear hw1 hw4 hNc hm1 hS5 hmm
  have HNC2 : Hid (∀ W, Below w1.heap.size w1 W → W.cell? ⟨Nc, 0, none⟩ = some (.slice a L c)) := fun W hb => (HNC.out.below hb).cell 0
  have s0 : w4.cell? ⟨S5, 0, none⟩ = some (.map (some m1)) := HBD.out.s5.cell 0
  have n0 : w4.cell? ⟨Nc, 0, none⟩ = some (.slice a L c) := HNC2.out w4 HBD.out.bl
  refine wp_region_order (S := fun W => W.cell? ⟨S5, 0, none⟩ = some (.map (some m1)) ∧ W.cell? ⟨Nc, 0, none⟩ = some (.slice a L c)) 6 [0,1,2,3,4] [5] (by kernel_rfl) (by kernel_rfl) ⟨s0, n0⟩ ?_
  iterate 5 (refine headT_cons (by rfl) (by rfl) (by intro w hSw; obtain ⟨s0, s1⟩ := hSw; go_simp; try rfl) ?_; simp only [Act.put, List.setIfInBounds_toArray, List.set_cons_zero, List.set_cons_succ])
  refine headT_nil ?_
  refine midT_cons (by rfl) (fun K hK => ?_)
  rw [if_pos (by rfl)]
  go_simp
  have HB5 : Hid (Below w4.heap.size w4 (w4.alloc (.cells #[.int .u64 (AL : Int)] 41)).drew) := bl_drewN (bl_alloc (Below.refl _ _) _) 1
  have HR5 : Hid (Blk (w4.alloc (.cells #[.int .u64 (AL : Int)] 41)).drew w4.heap.size #[.int .u64 (AL : Int)] 41) := (Blk.new w4 _ _).drewN 1
  have HBD5 := Lib.hid (HBD.out.below HB5.out)
  generalize (w4.alloc (.cells #[.int .u64 (AL : Int)] 41)).drew = w5 at *
  generalize w4.heap.size = X5 at *
  refine hK.out _ _ ⟨HBD5.out.s5.cell 0, HNC2.out _ HBD5.out.bl⟩ (fun hcl => ?_)
  clear hK K s0 n0 hcl
  try simp only [Act.put, List.setIfInBounds_toArray, List.set_cons_zero, List.set_cons_succ]
  refine midT_nil ?_
  simp only [List.drop_succ_cons, List.drop_zero]
  have HP := Lib.hid (HBD5.out.put HM1.out (by omega) HR5.out HAL64.out)
  go_wp2_with (go_at_call 69; refine HP.out.mono ?_; rintro e w6 ⟨rfl, hbd, _⟩; have HBD6 := Lib.hid hbd; clear hbd)
  refine NoPanic.normal ?_
  clear HBD HB5 HR5 HBD5 HP hall
  have HBL : Hid (BdI w1 S5 m1 (1 + 0) (fun y => y = AL ∨ ∃ q, q < 0 ∧ y = 2 ^ q) w6) := ⟨HBD6.out.bl, HBD6.out.s5, let ⟨A, g1, g2⟩ := HBD6.out.mu; ⟨A, g1, fun y => by rw [g2]; simp⟩⟩
  clear HBD6
  have n0 : w6.cell? ⟨Nc, 0, none⟩ = some (.slice a L c) := HNC2.out w6 HBL.out.bl
  go_wp2_with fail
  clear n0
  go_loopw [26, 6] (fun x _ wr => ∃ k : Nat, k ≤ L ∧ x = .int .i64 k ∧ Hid (BdI w1 S5 m1 (1 + k) (fun y => y = AL ∨ ∃ q, q < k ∧ y = 2 ^ q) wr)) (fun x _ _ => L - (intOf x).toNat)
  case atStart => exact ⟨0, by omega, rfl, HBL⟩
  case round =>
    clear HBL
    obtain ⟨k, hk, rfl, HBD⟩ := hrel
    have s0 : wr.cell? ⟨S5, 0, none⟩ = some (.map (some m1)) := HBD.out.s5.cell 0
    by_cases hlt : k < L
    · have hpw := pow64 (p := k) (by omega)
      have HPK := Lib.hid (HP64.out k hlt)
      obtain ⟨y, hy⟩ : ∃ y, y = 2 ^ k := ⟨_, rfl⟩
      rw [← hy] at hpw HPK
      have HY := Lib.hid hy
      clear hy
      go_upto_region 6 with fail
      refine wp_region_order (S := fun W => W.cell? ⟨S5, 0, none⟩ = some (.map (some m1))) 4 [0,1,2] [3] (by kernel_rfl) (by kernel_rfl) s0 ?_
      iterate 3 (refine headT_cons (by rfl) (by rfl) (by intro w hSw; have s0 := hSw; go_simp; try rfl) ?_; simp only [Act.put, List.setIfInBounds_toArray, List.set_cons_zero, List.set_cons_succ])
      refine headT_nil ?_
      refine midT_cons (by rfl) (fun K hK => ?_)
      rw [if_pos (by rfl)]
      go_simp
      have HB5 : Hid (Below wr.heap.size wr (wr.alloc (.cells #[.int .u64 (y : Int)] 41)).drew) := bl_drewN (bl_alloc (Below.refl _ _) _) 1
      have HR5 : Hid (Blk (wr.alloc (.cells #[.int .u64 (y : Int)] 41)).drew wr.heap.size #[.int .u64 (y : Int)] 41) := (Blk.new wr _ _).drewN 1
      have HBD5 := Lib.hid (HBD.out.below HB5.out)
      generalize (wr.alloc (.cells #[.int .u64 (y : Int)] 41)).drew = w7 at *
      generalize wr.heap.size = X7 at *
      refine hK.out _ _ (HBD5.out.s5.cell 0) (fun _ => ?_)
      clear hK K s0
      try simp only [Act.put, List.setIfInBounds_toArray, List.set_cons_zero, List.set_cons_succ]
      refine midT_nil ?_
      simp only [List.drop_succ_cons, List.drop_zero]
      have HP := Lib.hid (HBD5.out.put HM1.out (by omega) HR5.out HPK.out)
      go_wp2_with (go_at_call 69; refine HP.out.mono ?_; rintro e w8 ⟨rfl, hbd, _⟩; have HBD6 := Lib.hid hbd; clear hbd)
      refine NoPanic.normal ?_
      have HBN : Hid (BdI w1 S5 m1 (1 + (k + 1)) (fun y => y = AL ∨ ∃ q, q < k + 1 ∧ y = 2 ^ q) w8) := ⟨HBD6.out.bl, HBD6.out.s5, let ⟨A, g1, g2⟩ := HBD6.out.mu; ⟨A, g1, fun z => by
        rw [g2]
        constructor
        · rintro ((h | ⟨q, h1, h2⟩) | h)
          · exact .inl h
          · exact .inr ⟨q, by omega, h2⟩
          · exact .inr ⟨k, by omega, by rw [h, HY.out]⟩
        · rintro (h | ⟨q, h1, h2⟩)
          · exact .inl (.inl h)
          · by_cases e : q = k
            · subst e; exact .inr (by rw [h2, HY.out])
            · exact .inl (.inr ⟨q, by omega, h2⟩)⟩⟩
      clear HBD6 HBD HP HB5 HR5 HBD5
      go_wp2_with fail
      exact ⟨⟨k + 1, by omega, by go_num, HBN⟩, by simp [intOf]; omega⟩
    · obtain rfl : k = L := by omega
      have HMW := Lib.hid (HM.out.bl (bl_trans HB1.out HBD.out.bl))
      have HAL := Lib.hid (allU_any b n S wr HMW.out (by have := HMW.out.le; omega))
      go_wp2_with fail
      refine HAL.out.mono ?_
      rintro e w7 ⟨X, A, c', rfl, hX, hXb, hXo, hb7⟩
      have HXG := Lib.hid hX
      have HXB := Lib.hid hXb
      have HXO := Lib.hid hXo
      have HB7 := Lib.hid hb7
      have HM1L : Hid (m1 < wr.heap.size) := by
        obtain ⟨A1, g1, _⟩ := HBD.out.mu
        exact g1.blt
      have HS5L : Hid (S5 < wr.heap.size) := HBD.out.s5.lt
      have HBD7 := Lib.hid (HBD.out.below hb7)
      have HSL : Hid (S.length ≤ 900000) := by show _ ≤ _; have := HMW.out.le; omega
      have HSN := Lib.hid HM.out.nd
      have HSLT := Lib.hid HM.out.lt
      have HZ7 : Hid (wr.heap.size ≤ w7.heap.size ∧ w1.heap.size ≤ wr.heap.size) := ⟨hb7.size, HBD.out.bl.size⟩
      clear hX hXb hXo hb7 s0 HBD HMW HAL hlt hk
      obtain ⟨WS, hWS⟩ : ∃ x, x = wr.heap.size := ⟨_, rfl⟩
      rw [← hWS] at HXG HXO HM1L HS5L HZ7
      clear hWS
      go_wp2_with fail
      refine wp_vals (a₁ := ?a1) rfl HXB.out HXO.out (sdU_len HSN.out) (by have := HSL.out; omega) (fun x hx => HSLT.out x ((sdU_mem x _).1 hx)) rfl (fun pre W => BdI w1 S5 m1 (1 + k + pre.length) (fun y => (y = AL ∨ ∃ q, q < k ∧ y = 2 ^ q) ∨ y ∈ pre.map Fin.val) W) ?_ ?_ ?assign ?body ?done
      · intro pre W W' row h hg hr
        have h1 := HM1L.out
        have h2 := HS5L.out
        have h3 := HZ7.out
        refine ⟨bl_grown h.bl hg fun r e => by have := (hr r e).1; omega, h.s5.grown hg fun e => by have := (hr S5 e.symm).1; omega, let ⟨A1, g1, g2⟩ := h.mu; ⟨A1, g1.kept hg fun e => by have := (hr m1 e.symm).1; omega, g2⟩⟩
      · exact ⟨HBD7.out.bl, HBD7.out.s5, let ⟨A1, g1, g2⟩ := HBD7.out.mu; ⟨A1, g1, fun y => by rw [g2]; simp⟩⟩
      case assign =>
        intro r x W K hK
        gi_wp2
        repeat (rw [Oper.semAt_some _ _ _ (by intro c h; cases h)]; go_simp; gi_wp2)
        exact hK
      case body =>
        rintro r pre ⟨x, hx⟩ W h1 hlen
        have s0 : W.cell? ⟨S5, 0, none⟩ = some (.map (some m1)) := h1.s5.cell 0
        have HI := Lib.hid h1
        have HBA := Lib.hid (h1.below (bl_alloc (Below.refl _ _) (.cells #[.int .u64 (x : Int)] 41)))
        have HP := Lib.hid (HBA.out.put HM1.out (by have := HSL.out; omega) (Blk.new W #[.int .u64 (x : Int)] 41) hx)
        have HRX : Hid (∀ B, BsV X A B → WS ≤ B) := fun B h => bsV_ge HXG.out HXO.out (Nat.le_refl _) h
        dsimp only
        clear h1 hlen
        gi_wp2_with fail
        repeat (rw [Oper.semAt_some _ _ _ (by intro c h; cases h)]; go_simp; gi_wp2_with fail)
        refine ⟨trivial, ?_⟩
        refine (CallsIn.inRound r (callsIn_wide.2 HP.out)).mono ?_
        rintro e w' ⟨rfl, hbd, hg⟩
        have HBN := Lib.hid hbd
        have HGN := Lib.hid hg
        clear hbd hg
        gi_wp2
        have hsz := HGN.out.size
        rw [World.size_alloc] at hsz
        have hblk : ∀ q, q < W.heap.size → q ≠ m1 → w'.heap[q]? = W.heap[q]? := fun q hq hne => (HGN.out.block q (by rw [World.size_alloc]; omega) (fun e => hne (Option.some.inj e))).trans (Below.heap_alloc W _ q hq)
        have hm1L := HM1L.out
        have hZ7 := HZ7.out
        refine ⟨⟨by omega, fun q o hq ho _ => ?_⟩, kpV_of (by omega) (fun B hB hlt => hblk B hlt ?_), ?_⟩
        · have hlt := (Array.getElem?_eq_some_iff.1 ho).1
          exact (hblk q hlt (by omega)).trans ho
        · have := HRX.out B hB
          omega
        · refine ⟨HBN.out.bl, HBN.out.s5, let ⟨A1, g1, g2⟩ := HBN.out.mu; ⟨A1, ?_, fun y => ?_⟩⟩
          · rw [List.length_append]; exact g1
          · rw [g2, List.map_append, List.mem_append]
            simp [or_assoc]
      case done =>
        rintro D xs W hD hxs h1 hKD
        have HFM : Hid (∃ A K, K ≤ 1000000 ∧ MU W m1 K A ∧ ∀ x, x ∈ A ↔ x ∈ F) := by
          obtain ⟨A1, g1, g2⟩ := h1.mu
          have hlen : xs.length = S.length := by rw [← sdU_len HSN.out, ← hxs, List.length_map]
          refine ⟨A1, _, ?_, g1, fun y => ?_⟩
          · have := HSL.out; omega
          · rw [g2, HMF.out, hxs, sdU_mem]
            unfold famP
            rw [HALE.out, or_assoc]
        have HBDW := Lib.hid h1.bl
        have HS5W := Lib.hid h1.s5
        have HKDD := Lib.hid hKD
        have HDD := Lib.hid hD
        have s0 : W.cell? ⟨S5, 0, none⟩ = some (.map (some m1)) := h1.s5.cell 0
        clear h1 hKD hD hxs HXB HXO HBD7 HB7 HXG
        simp only [Exit.inBlock, Exit.then]
        obtain ⟨A1, K1, hK1, hA1, hA2⟩ := HFM.out
        have hlam : Lam F := HF.out.lam (by omega)
        have hlam1 : Lam A1 := hlam.sub fun x hx => (hA2 x).1 hx
        have HKY := Lib.hid (keysU_any m1 W)
        have HSO := Lib.hid (sortedKeys_any (a0 := w) m1 K1 A1 hA1 (by have := hA1.le; omega) hlam1 HT.out (bl_trans HB1.out HBDW.out))
        have HAN := Lib.hid hA1.nd
        have HAM := Lib.hid hA2
        have HAL2 : Hid (A1.length ≤ 1000000) := by show _ ≤ _; have := hA1.le; omega
        clear hA1 hA2 hlam hlam1 HFM hK1
        go_wp2_with fail
        refine HKY.out.mono ?_
        rintro e w7b ⟨rfl, hw7b⟩
        subst w7b
        go_wp2_with fail
        refine HSO.out.mono ?_
        rintro e w8 ⟨v8, ys, rfl, p1, p2, ho8, hb8⟩
        obtain ⟨A8, c8, rfl⟩ := owns_sl ho8
        have HP1 := Lib.hid p1
        have HO8 := Lib.hid ho8
        have HB8 := Lib.hid hb8
        have HRK : Hid (Rkd k F ys) := ⟨HF.out, h1, h32, fun x => by rw [p1.mem_iff, HAM.out], p2⟩
        have HNN : Hid (A1.length = ys.length) := p1.length_eq.symm
        have hN : A1.length ≤ 1000000 := HAL2.out
        clear p1 p2 ho8 hb8 HSO HKY
        obtain ⟨N, hNe⟩ : ∃ N, N = A1.length := ⟨_, rfl⟩
        rw [← hNe] at HO8 HNN hN ⊢
        clear hNe
        obtain ⟨i0, hi0, hz0, hz1, hz2⟩ := info_parts info_RI
        have hmk := run_make (P := Tryz.prog) (w8.alloc (.cells #[.slice A8 N c8] 37)) 113 30 i0 _ Tryz.underlying113 hi0 hz0 .i64 .i64 (N : Int) (N : Int) (by omega) (by omega) (by rw [hz2]; omega) (by omega)
        simp only [hz1, Int.toNat_natCast, Nat.mul_one] at hmk
        clear hi0 hz0 hz1 hz2
        go_upto_region 13 with fail
        obtain ⟨a0, ha0⟩ : ∃ x, x = w8.alloc (.cells #[.slice A8 N c8] 37) := ⟨_, rfl⟩
        have HZ0 : Hid (a0.heap.size = w8.heap.size + 1) := by show _ = _; rw [ha0, World.size_alloc]
        have HB0 : Hid (Below w8.heap.size w8 a0) := by show Below _ _ _; rw [ha0]; exact bl_alloc (Below.refl _ _) _
        have HLC : Hid (Blk a0 w8.heap.size #[.slice A8 N c8] 37) := by show Blk _ _ _ _; rw [ha0]; exact Blk.new _ _ _
        rw [← ha0]
        clear ha0 hmk
        have HLY : Hid (Rd a0 A8 (fl encV ys)) := (rd_of_owns HO8.out).bl HB0.out
        have HKD0 := Lib.hid (KdI.first (a0 := a0) N ys HNN.out.symm hN)
        have HBA0 := Lib.hid (bl_trans HB8.out HB0.out)
        obtain ⟨KA, hKA⟩ : ∃ x, x = a0.heap.size := ⟨_, rfl⟩
        obtain ⟨Lc, hLc⟩ : ∃ x, x = w8.heap.size := ⟨_, rfl⟩
        rw [← hKA] at HKD0 HZ0
        rw [← hLc] at HLC HZ0 ⊢
        obtain ⟨w11, hw11⟩ : ∃ x, x = (a0.alloc (.cells (madeCells #[Value.slice none 0 0] N) 30)).alloc (.cells #[.slice (some ⟨KA, 0, none⟩) N N] 113) := ⟨_, rfl⟩
        rw [← hw11] at HKD0
        rw [← HZ0.out, ← hw11]
        have HKAE := Lib.hid hKA
        have HLCE := Lib.hid hLc
        clear hw11 hKA hLc HO8 HB8 HB0
        have hN1 : 1 ≤ N := by have := HRK.out.zero.1; rw [← HNN.out] at this; exact this
        have HYN : Hid (ys.length = N) := HNN.out.symm
        have HVB : Hid (∀ q, q < N → vA ys q < 18446744073709551616) := fun q hq => HRK.out.lam.lt _ (HRK.out.inF (by rw [HYN.out]; exact hq))
        have HLC2 : Hid (∀ W', Below a0.heap.size a0 W' → W'.cell? ⟨Lc, 0, none⟩ = some (.slice A8 N c8) ∧ Rd W' A8 (fl encV ys)) := fun W' hb => ⟨(HLC.out.below hb).cell 0, HLY.out.bl hb⟩
        go_wp2_with fail
        go_loopw [10, 11] (fun x _ wr => ∃ (m : Nat) (rws : List Rw), 1 ≤ m ∧ m ≤ N ∧ x = .int .i64 m ∧ Hid (KdI a0 KA (KA + 1) ys rws m wr)) (fun x _ _ => N - (intOf x).toNat)
        case atStart => exact ⟨1, _, by omega, hN1, rfl, HKD0⟩
        case round =>
          clear HKD0 s0
          obtain ⟨m, rws, hm1, hmN, rfl, HKD⟩ := hrel
          obtain ⟨l0, hly⟩ := HLC2.out wr HKD.out.bl
          by_cases hlt : m < N
          · have hPAR := HRK.out.par (k := m) (by omega) (by rw [HYN.out]; exact hlt)
            obtain ⟨gy, oy, hA8, _, hcy⟩ := rdV hly (by rw [HYN.out]; omega)
            have HCY : Hid (∀ q, q < N → wr.cell? ⟨gy, oy + q, none⟩ = some (.int .u64 (vA ys q : Int))) := fun q hq => hcy q (by rw [HYN.out]; exact hq)
            have hwm : IntKind.i64.wrap ((m : Int) - 1) = ((m - 1 : Nat) : Int) := wrap_nat _ (m - 1) (by omega) (by omega)
            have c9 := HCY.out m hlt
            have HY0 : Hid (WiN (vA ys m) (vA ys 0)) := by
              show WiN _ _
              rw [HRK.out.zero.2]
              exact wi_r.1 (sub_all4 (HF.out.lt _ (HRK.out.inF (by rw [HYN.out]; exact hlt))))
            have HPL := Lib.hid hPAR.1
            have hym := HVB.out m hlt
            rw [hA8] at l0
            clear hPAR hly hcy hA8
            obtain ⟨ym, hyme⟩ : ∃ y, y = vA ys m := ⟨_, rfl⟩
            rw [← hyme] at c9 HY0 HPL hym
            have HYM := Lib.hid hyme
            clear hyme
            go_wp2_with fail
            go_loopw [11] (fun y wr2 => ∃ u : Nat, u < m ∧ y = .int .i64 u ∧ Hid (parP ys ym m = parP ys ym (u + 1)) ∧ ∃ q, wr2 = wr.drewN q) (fun y _ => (intOf y).toNat)
            case atStart => exact ⟨m - 1, by omega, rfl, by show _ = _; rw [show m - 1 + 1 = m by omega], 0, rfl⟩
            case round =>
              obtain ⟨u, hu, rfl, HPU, q, rfl⟩ := hrel
              have c8 := HCY.out u (by omega)
              have hyu := HVB.out u (by omega)
              have hand := bits_and hyu hym
              have HST : Hid (parP ys ym (u + 1) = if vA ys u &&& ym = ym then u else parP ys ym u) := rfl
              have HU0 : Hid (u = 0 → vA ys u &&& ym = ym) := fun e => by rw [e]; exact wi_r.2 HY0.out
              obtain ⟨yu, hyue⟩ : ∃ y, y = vA ys u := ⟨_, rfl⟩
              rw [← hyue] at c8 hand HST HU0 hyu
              clear hyue
              obtain ⟨z, hz⟩ : ∃ z, z = yu &&& ym := ⟨_, rfl⟩
              rw [← hz] at hand HST HU0
              clear hz
              have huN : u < N := by omega
              by_cases hw : z = ym
              · have t1 : ((z : Int) != (ym : Int)) = false := by simp [hw]
                have t2 : ((z : Int) == (ym : Int)) = true := by simp [hw]
                have HUP : Hid (parP ys ym m = u) := by show _ = _; rw [HPU.out, HST.out, if_pos hw]
                clear hw HPU HST HU0
                go_wp2_with fail
                go_quiet (fail)
                go_upto_region 19 with fail
                have HKQ := Lib.hid (HKD.out.below (bl_drewN (Below.refl wr.heap.size wr) (q + nq)))
                have e9 : (wr.drewN q).drewN nq = wr.drewN (q + nq) := by simp
                try rw [e9]
                generalize wr.drewN (q + nq) = wq at *
                clear c8 c9 t1 t2 hand e9
                obtain ⟨⟨ra, rm, rc⟩, hrw⟩ : ∃ r : Rw, r = rwA rws u := ⟨_, rfl⟩
                have HRW := Lib.hid hrw
                have huy : u < ys.length := by rw [HYN.out]; exact huN
                have HUY := Lib.hid huy
                have k0 : wq.cell? ⟨KA + 1, 0, none⟩ = some (.slice (some ⟨KA, 0, none⟩) N N) := by
                  have h := HKQ.out.kc.cell 0
                  rw [HYN.out] at h; exact h
                have k1 : wq.cell? ⟨KA, u, none⟩ = some (.slice ra rm rc) := by
                  rw [(own1_cells HKQ.out.ka huy).1, fl_R1 rws (by rw [HKQ.out.rl]; exact huy), ← hrw]; rfl
                have hrow := HKQ.out.rows u huy
                rw [← hrw] at hrow
                have hrm := owns_n hrow
                rw [← hrm] at hrow
                have hrmb : rm ≤ 1000000 := by
                  rw [hrm]
                  unfold kI
                  exact Nat.le_trans (List.length_filter_le _ _) (by rw [List.length_range]; omega)
                have HROW := Lib.hid hrow
                have HRM : Hid (rm = (iN (kI ys u m)).length) := by show _ = _; rw [iN_len]; exact hrm
                clear hrow hrm hrw huy
                refine wp_region_order (S := fun W => W.cell? ⟨KA + 1, 0, none⟩ = some (.slice (some ⟨KA, 0, none⟩) N N) ∧ W.cell? ⟨KA, u, none⟩ = some (.slice ra rm rc)) 9 [0,1,2,3,4,5,6] [7,8] (by kernel_rfl) (by kernel_rfl) ⟨k0, k1⟩ ?_
                iterate 7 (refine headT_cons (by rfl) (by rfl) (by intro w hSw; obtain ⟨s0, s1⟩ := hSw; go_simp; try rfl) ?_; simp only [Act.put, List.setIfInBounds_toArray, List.set_cons_zero, List.set_cons_succ])
                refine headT_nil ?_
                refine midT_cons (by rfl) (fun K hK => ?_)
                rw [if_pos (by rfl)]
                go_simp
                have HKA2 : Hid (KdI a0 KA (KA + 1) ys rws m (wq.alloc (.cells #[.int .i64 (m : Int)] 3)).drew) := HKQ.out.below (bl_drewN (bl_alloc (Below.refl _ wq) (.cells #[.int .i64 (m : Int)] 3)) 1)
                have HBB : Hid (Blk (wq.alloc (.cells #[.int .i64 (m : Int)] 3)).drew wq.heap.size #[.int .i64 (m : Int)] 3) := (Blk.new wq _ _).drewN 1
                have HRO2 : Hid ((wq.alloc (.cells #[.int .i64 (m : Int)] 3)).drew.ownsRow a0.heap.size 3 1 (.slice ra rm rc) rm (fl encI (iN (kI ys u m)))) := owns_below HROW.out (bl_drewN (bl_alloc (Below.refl _ wq) _) 1)
                generalize (wq.alloc (.cells #[.int .i64 (m : Int)] 3)).drew = wa at *
                generalize wq.heap.size = Bx at *
                have HKCE : Hid (∀ W', KdI a0 KA (KA + 1) ys rws m W' → W'.cell? ⟨KA + 1, 0, none⟩ = some (.slice (some ⟨KA, 0, none⟩) N N) ∧ W'.cell? ⟨KA, u, none⟩ = some (.slice ra rm rc)) := fun W' h => by
                  refine ⟨?_, ?_⟩
                  · have h2 := h.kc.cell 0
                    rw [HYN.out] at h2; exact h2
                  · rw [(own1_cells h.ka HUY.out).1, fl_R1 rws (by rw [h.rl]; exact HUY.out), ← HRW.out]; rfl
                refine hK.out _ _ (HKCE.out _ HKA2.out) (fun hcl => ?_)
                clear hK K hcl k0 k1
                try simp only [Act.put, List.setIfInBounds_toArray, List.set_cons_zero, List.set_cons_succ]
                refine midT_cons (by rfl) (fun K hK => ?_)
                rw [if_pos (by rfl)]
                have hbz := HKA2.out.bl.size
                refine wp_pushs encI_len (by decide) encI_one4 Tryz.underlying30 info_I rfl (.tmp 77) (.tmp 79) rfl (.slice ra rm rc) (iN (kI ys u m)) rm HRM.out rfl HRO2.out (some ⟨Bx, 0, none⟩) 1 1 [(m : Int)] rfl rfl (rd_of_blk4 (cs := fl encI [(m : Int)]) HBB.out) (fun e => by cases e) (by omega) (by decide) hbz ?_
                intro v' wb q1 q2 q3
                obtain ⟨va, vc, rfl⟩ := owns_sl q1
                have hpp : parP ys (vA ys m) m = u := by rw [← HYM.out]; exact HUP.out
                have HKAG : Hid (a0.heap.size ≤ KA) := by show _ ≤ _; rw [HKAE.out]; exact Nat.le_refl _
                have HPUSH := Lib.hid (KdI.push (r := (va, rm + 1, vc)) HKA2.out HUY.out (by omega) hpp HKAG.out (by rw [← HRW.out]; exact q2) (by have h := q1; have h2 := HRM.out; rw [iN_len] at h2; rw [← h2]; exact h) (by rw [← HRW.out]; exact q3))
                have HKW : Hid (Blk wb (KA + 1) #[.slice (some ⟨KA, 0, none⟩) ys.length ys.length] 113) := blk_kept_ty HKA2.out.kc HRO2.out (by decide) q2
                have HAW : Hid (wb.ownsRow a0.heap.size 30 1 (.slice (some ⟨KA, 0, none⟩) ys.length ys.length) ys.length (fl encR rws)) := owns_kept_ty HKA2.out.ka HRO2.out (by decide) q2
                have k0 : wb.cell? ⟨KA + 1, 0, none⟩ = some (.slice (some ⟨KA, 0, none⟩) N N) := by
                  have h2 := HKW.out.cell 0
                  rw [HYN.out] at h2; exact h2
                have k1 : wb.cell? ⟨KA, u, none⟩ = some (.slice ra rm rc) := by
                  rw [(own1_cells HAW.out HUY.out).1, fl_R1 rws (by rw [HKA2.out.rl]; exact HUY.out), ← HRW.out]; rfl
                have kf : wb.frozen? ⟨KA, u, none⟩ = false := (own1_cells HAW.out HUY.out).2
                refine hK.out _ _ ⟨k0, k1⟩ (fun hcl => ?_)
                clear hK K hcl q1 q2 q3 hpp HKW HAW
                try simp only [Act.put, List.setIfInBounds_toArray, List.set_cons_zero, List.set_cons_succ]
                refine midT_nil ?_
                simp only [List.drop_succ_cons, List.drop_zero]
                go_wp2_with fail
                refine NoPanic.normal ?_
                go_wp2_with fail
                go_roundw
                case rel => exact ⟨m + 1, _, by omega, by omega, by go_num, HPUSH⟩
                case measure => simp [intOf]; omega
              · have t1 : ((z : Int) != (ym : Int)) = true := bne_iff_ne.2 fun e => hw (by omega)
                have t2 : ((z : Int) == (ym : Int)) = false := beq_eq_false_iff_ne.2 fun e => hw (by omega)
                have hu0 : u ≠ 0 := fun e => hw (HU0.out e)
                have hwu : IntKind.i64.wrap ((u : Int) - 1) = ((u - 1 : Nat) : Int) := wrap_nat _ (u - 1) (by omega) (by omega)
                have HPN : Hid (parP ys ym m = parP ys ym (u - 1 + 1)) := by show _ = _; rw [HPU.out, HST.out, if_neg hw, show u - 1 + 1 = u by omega]
                clear hw HPU HST HU0
                go_wp2_with fail
                go_quiet (fail)
                go_wp2_with fail
                exact ⟨⟨u - 1, by omega, rfl, HPN, q + nq, by simp⟩, by simp [intOf]; omega⟩
          · obtain rfl : m = N := by omega
            have hmm := @run_makeMap Tryz.prog
            clear hly
            go_upto_region 21 with fail
            clear hmm
            obtain ⟨w12, hw12⟩ : ∃ x, x = (wr.alloc (.map #[] 0)).alloc (.cells #[.map (some wr.heap.size)] 95) := ⟨_, rfl⟩
            have HB12 : Hid (Below wr.heap.size wr w12) := by show Below _ _ _; rw [hw12]; exact bl_alloc (bl_alloc (Below.refl _ _) _) _
            have HT12 : Hid (Blk w12 (wr.heap.size + 1) #[.map (some wr.heap.size)] 95) := by
              show Blk _ _ _ _
              rw [hw12]
              have h := Blk.new (wr.alloc (.map #[] 0)) #[.map (some wr.heap.size)] 95
              rw [World.size_alloc] at h
              exact h
            have HM12 : Hid (MN w12 wr.heap.size 0 []) := by show MN _ _ _ _; rw [hw12]; exact (MN.made wr).alloc _
            rw [← hw12]
            clear hw12
            have HKD12 := Lib.hid (HKD.out.below HB12.out)
            obtain ⟨tm, htm⟩ : ∃ x, x = wr.heap.size := ⟨_, rfl⟩
            rw [← htm] at HT12 HM12 ⊢
            have HTMG : Hid (a0.heap.size ≤ tm) := by show _ ≤ _; rw [htm]; exact HKD.out.bl.size
            clear htm HB12 HKD
            have HNW : Hid (∀ W', Below a0.heap.size a0 W' → W'.cell? ⟨Nc, 0, none⟩ = some (.slice a k c) ∧ Rd W' a (fl encS nm)) := fun W' hb => by
              have h1 : Below w.heap.size w a0 := bl_trans (bl_trans HB1.out HBDW.out) HBA0.out
              have h2 : Below w1.heap.size w1 a0 := bl_trans HBDW.out HBA0.out
              exact ⟨HNC2.out W' (bl_trans h2 hb), HA.out.bl (bl_trans h1 hb)⟩
            obtain ⟨n0, hnr⟩ := HNW.out w12 HKD12.out.bl
            have t0 : w12.cell? ⟨tm + 1, 0, none⟩ = some (.map (some tm)) := HT12.out.cell 0
            have HPN := Lib.hid (putN_any tm 0 [] a k c nm w12 HM12.out HL.out (by omega) (by omega) hnr (fun i hi => HSZ.out _ (sA_mem (by rw [HL.out]; exact hi))))
            clear hnr l0
            go_upto_region 22 with (go_at_call 68; refine HPN.out.mono ?_; rintro e w13 ⟨rfl, hmn, hg⟩; have HM13 := Lib.hid hmn; have HG13 := Lib.hid hg; clear hmn hg)
            clear n0 t0 HPN
            go_upto_region 26 with fail
            have HKD13 := Lib.hid (HKD12.out.keptM HM12.out HG13.out HTMG.out)
            have HT13 : Hid (Blk w13 (tm + 1) #[.map (some tm)] 95) := blk_keptM HT12.out HM12.out HG13.out
            have HXR : Hid (∀ i, i < ys.length → ∀ R, (slR (rwA rws i)).ownBlock = some R → R < w13.heap.size) := fun i hi R hv => ((HKD13.out.rows i hi).lt R hv).2
            have HXG : Hid (a0.heap.size ≤ w13.heap.size) := HKD13.out.bl.size
            clear HKD12 HT12 HM12 HG13
            obtain ⟨X0, hX0⟩ : ∃ x, x = w13.heap.size := ⟨_, rfl⟩
            obtain ⟨w16, hw16⟩ : ∃ x, x = ((w13.alloc (.cells #[.int .i64 0] 3)).alloc (.cells #[.slice none 0 0] 22)).alloc (.cells #[.func (.func 101) #[] #[.pointer (some ⟨X0 + 1, 0, none⟩), .pointer (some ⟨Lc, 0, none⟩), .pointer (some ⟨Nc, 0, none⟩), .pointer (some ⟨X0, 0, none⟩), .pointer (some ⟨tm + 1, 0, none⟩), .pointer (some ⟨KA + 1, 0, none⟩), .pointer (some ⟨X0 + 1 + 1, 0, none⟩)]] 138) := ⟨_, rfl⟩
            rw [← hX0] at HXR HXG ⊢
            rw [← hw16]
            have HB16 : Hid (Below w13.heap.size w13 w16) := by show Below _ _ _; rw [hw16]; exact bl_alloc (bl_alloc (bl_alloc (Below.refl _ _) _) _) _
            have HX16 : Hid (Blk w16 X0 #[.int .i64 0] 3) := by
              show Blk _ _ _ _
              rw [hw16, hX0]; exact ((Blk.new w13 _ _).alloc _).alloc _
            have HO16 : Hid (Blk w16 (X0 + 1) #[.slice none 0 0] 22) := by
              show Blk _ _ _ _
              rw [hw16, hX0]; exact (Blk.new2 w13 _ _ _).alloc _
            have HG16 : Hid (Blk w16 (X0 + 1 + 1) #[.func (.func 101) #[] #[.pointer (some ⟨X0 + 1, 0, none⟩), .pointer (some ⟨Lc, 0, none⟩), .pointer (some ⟨Nc, 0, none⟩), .pointer (some ⟨X0, 0, none⟩), .pointer (some ⟨tm + 1, 0, none⟩), .pointer (some ⟨KA + 1, 0, none⟩), .pointer (some ⟨X0 + 1 + 1, 0, none⟩)]] 138) := by
              show Blk _ _ _ _
              rw [hw16]
              have h := Blk.new ((w13.alloc (.cells #[.int .i64 0] 3)).alloc (.cells #[.slice none 0 0] 22)) #[.func (.func 101) #[] #[.pointer (some ⟨X0 + 1, 0, none⟩), .pointer (some ⟨Lc, 0, none⟩), .pointer (some ⟨Nc, 0, none⟩), .pointer (some ⟨X0, 0, none⟩), .pointer (some ⟨tm + 1, 0, none⟩), .pointer (some ⟨KA + 1, 0, none⟩), .pointer (some ⟨X0 + 1 + 1, 0, none⟩)]] 138
              rw [World.size_alloc, World.size_alloc, ← hX0] at h
              exact h
            clear hw16 hX0
            have hB10 : Below w1.heap.size w1 a0 := bl_trans HBDW.out HBA0.out
            have hBw0 : Below w.heap.size w a0 := bl_trans HB1.out hB10
            have HGZ : Hid (GrZ a0 ⟨X0 + 1, Lc, Nc, X0, tm + 1, KA + 1, X0 + 1 + 1, tm, KA, A8, c8, a, c, rws⟩ nm ys) :=
              ⟨by have h := HLC.out; rw [← HYN.out] at h; exact h, HLY.out, by have h := HNC.out.below hB10; rw [← HL.out] at h; exact h, HA.out.bl hBw0, HT.out.bl hBw0, by have := HXG.out; show _ ≤ X0 + 1; omega, HXG.out, HKD13.out.rl,
                fun i hi e => Nat.lt_irrefl _ (HXR.out i hi X0 e), HKD13.out.rr⟩
            have HGS : Hid (GrS a0 ⟨X0 + 1, Lc, Nc, X0, tm + 1, KA + 1, X0 + 1 + 1, tm, KA, A8, c8, a, c, rws⟩ (addM [] nm) ys (fun i => kI ys i ys.length) ([], 0) w16) := by
              have hk := HKD13.out.below HB16.out
              refine ⟨hk.bl, ⟨_, HO16.out, World.ownsRow_nil _ _ _ _⟩, HX16.out, HT13.out.below HB16.out, (HM13.out.mono (by omega)).bl HB16.out, hk.kc, hk.ka, fun i hi => ?_, fun i hi => List.Perm.refl _, HG16.out⟩
              have h := hk.rows i hi
              rw [← HYN.out] at h
              exact h
            have hz := HRK.out.zero
            have hlenF := HRK.out.len
            have hmm : ys.length ≤ 1000000 := by rw [HYN.out]; exact hN
            have hF0 : vA ys 0 ∈ F := HRK.out.inF hz.1
            have HNEV : Hid ((grw nm F 64 (vA ys 0) (-1) ([], 0)).1 = (grw nm F 64 AL (-1) ([], 0)).1) := by show _ = _; rw [hz.2, HALE.out]
            have HGC := Lib.hid (grow_any a0 ⟨X0 + 1, Lc, Nc, X0, tm + 1, KA + 1, X0 + 1 + 1, tm, KA, A8, c8, a, c, rws⟩ nm (addM [] nm) ys F k HGZ.out HRK.out HL.out (fun s => by rw [addM_mem]; simp) HNE.out (by omega) 64 0 (-1) _ ([], 0) w16 HGS.out hz.1 (cntB_le _ 64)
              (by have h := pre_len HRK.out.lam k HF.out.lt (f := 64) hF0; show 0 + _ ≤ _; omega)
              (by have h := inn_few HF.out (by omega) (pre_nodup HRK.out.lam k HF.out.lt 64 _ hF0) (fun z hz => (pre_mem HRK.out.lam k HF.out.lt 64 _ z hF0 hz).1); show 0 + _ ≤ 31; omega))
            unfold pt0 at HGC
            have g0 : w16.cell? ⟨X0 + 1 + 1, 0, none⟩ = some (.func (.func 101) #[] #[.pointer (some ⟨X0 + 1, 0, none⟩), .pointer (some ⟨Lc, 0, none⟩), .pointer (some ⟨Nc, 0, none⟩), .pointer (some ⟨X0, 0, none⟩), .pointer (some ⟨tm + 1, 0, none⟩), .pointer (some ⟨KA + 1, 0, none⟩), .pointer (some ⟨X0 + 1 + 1, 0, none⟩)]) := HG16.out.cell 0
            have hen101 : Enters Tryz.prog 101 := enters_of Tryz.func101 (by kernel_rfl) rfl
            have hcall := fun args W => hen101 args W
            clear hz hlenF hmm hF0 HGS HX16 HO16 HG16 HT13 HKD13 HM13
            go_wp2_with fail
            refine HGC.out.mono ?_
            rintro e w17 ⟨rfl, ks', hg, _⟩
            obtain ⟨v, hbo, hown⟩ := hg.out
            have o0 : w17.cell? ⟨X0 + 1, 0, none⟩ = some v := hbo.cell 0
            have HOW := Lib.hid hown
            have HBL := Lib.hid hg.bl
            obtain ⟨va, vc, rfl⟩ := owns_sl hown
            clear hg hbo hown g0 hcall hen101
            go_wp2_with fail
            have HDW : Hid (w17.heap[D]? = some (.deferred (some []))) := by
              have h1 := bl_trans HBA0.out HBL.out
              have hlt := (Array.getElem?_eq_some_iff.1 HKDD.out).1
              exact (h1.block D hlt).trans HKDD.out
            have HBWW : Hid (Below w.heap.size w w17) := bl_trans (bl_trans (bl_trans HB1.out HBDW.out) HBA0.out) HBL.out
            have HDG : Hid (w.heap.size ≤ D) := by
              have h1 := HDD.out
              have h2 := HZ7.out
              have h3 := HB1.out.size
              show _ ≤ _
              omega
            refine leaves_all [D] _ (by simp) (fun D' hD' => by rw [List.mem_singleton.1 hD']; exact HDW.out) fun w' ht => ⟨_, results_tmp rfl _ _ _, ?_⟩
            refine ⟨_, rfl, ?_, ht.below HBWW.out (fun D' hD' => by rw [List.mem_singleton.1 hD']; exact HDG.out)⟩
            rw [← HNEV.out]
            refine owns_base4 (ht.owns (fun D' hD' => by rw [List.mem_singleton.1 hD']; exact HDW.out) HOW.out) ?_
            exact (bl_trans (bl_trans HB1.out HBDW.out) HBA0.out).size
end Go.Proofs.YtfgkjofdgohacaaGreatDoor
namespace Go.Proofs.YtfgkjofdgohacaaGreatDoor
open Go Go.RowKit Go.Maps
theorem zeroI (w : World) : (zeroValue 3).run Tryz.prog w = .ok (.int .i64 0) w := by kernel_rfl
/-- A map's elements that are numbers. -/
noncomputable def elI : Value → Option (DataW Unit × List MemPlace) := plainElem Tryz.prog 3
/-- Block b counts: C. -/
structure MC (w : World) (b n : Nat) (C : Nat → Nat) : Prop where
  ex : ∃ D : DataW Unit, w.ownsMap Tryz.prog 41 elI b n D ∧ (∀ x : Nat, has D (kU x) = decide (C x ≠ 0)) ∧ ∀ x : Nat, D.atKey (kU x) (.lit (.int .i64 0)) = .lit (.int .i64 ((C x : Nat) : Int))
  lt : ∀ x, C x ≠ 0 → x < 18446744073709551616
theorem MC.made (w : World) : MC (w.alloc (.map #[] 0)) w.heap.size 0 (fun _ => 0) := ⟨⟨_, World.ownsMap_made w _ _ _, fun _ => rfl, fun _ => rfl⟩, fun _ h => absurd rfl h⟩
theorem MC.kept {w w' : World} {b n : Nat} {C : Nat → Nat} {row : Option Nat} (h : MC w b n C) (hg : w.grownBy w' row) (hne : some b ≠ row) : MC w' b n C := let ⟨D, h1, h2, h3⟩ := h.ex; ⟨⟨D, h1.kept hg hne, h2, h3⟩, h.lt⟩
theorem MC.alloc {w : World} {b n : Nat} {C : Nat → Nat} (h : MC w b n C) (o : Obj) : MC (w.alloc o) b n C := let ⟨D, h1, h2, h3⟩ := h.ex; ⟨⟨D, h1.alloc o, h2, h3⟩, h.lt⟩
theorem MC.mono {w : World} {b n n' : Nat} {C : Nat → Nat} (h : MC w b n C) (hn : n ≤ n') : MC w b n' C := let ⟨D, h1, h2, h3⟩ := h.ex; ⟨⟨D, h1.mono hn, h2, h3⟩, h.lt⟩
theorem MC.blk {w : World} {b n : Nat} {C : Nat → Nat} (h : MC w b n C) : ∃ es c, w.heap[b]? = some (.map es c) := let ⟨_, ⟨es, c, h1, _⟩, _⟩ := h.ex; ⟨es, c, h1⟩
theorem MC.blt {w : World} {b n : Nat} {C : Nat → Nat} (h : MC w b n C) : b < w.heap.size := let ⟨_, _, e⟩ := h.blk; (Array.getElem?_eq_some_iff.1 e).1
theorem MC.at {w w' : World} {b n : Nat} {C : Nat → Nat} (h : MC w b n C) (he : w'.heap[b]? = w.heap[b]?) : MC w' b n C := by
  obtain ⟨D, ⟨es, clock, h1, h2⟩, h3, h4⟩ := h.ex
  exact ⟨⟨D, ⟨es, clock, he.trans h1, h2⟩, h3, h4⟩, h.lt⟩
theorem MC.bl {w w' : World} {b n : Nat} {C : Nat → Nat} (h : MC w b n C) (hb : Below w.heap.size w w') : MC w' b n C := h.at (hb.block b h.blt)
/-- One more of x. -/
def incC (C : Nat → Nat) (x : Nat) : Nat → Nat := fun y => if y = x then C y + 1 else C y
theorem MC.inc_of {w' : World} {b n x : Nat} {C : Nat → Nat} {D : DataW Unit} (hx : x < 18446744073709551616) (hi : IsMap D) (hl : ∀ x, C x ≠ 0 → x < 18446744073709551616) (h2 : ∀ x : Nat, has D (kU x) = decide (C x ≠ 0)) (h3 : ∀ x : Nat, D.atKey (kU x) (.lit (.int .i64 0)) = .lit (.int .i64 ((C x : Nat) : Int))) (hD' : w'.ownsMap Tryz.prog 41 elI b (n + 1) (D.put (kU x) (.lit (.int .i64 ((C x + 1 : Nat) : Int))))) : MC w' b (n + 1) (incC C x) := by
  refine ⟨⟨_, hD', fun y => ?_, fun y => ?_⟩, fun y hy => ?_⟩
  · by_cases e : y = x
    · subst e
      rw [has_put_same hi (lawU.key (kU_key hx)) _]
      simp [incC]
    · rw [has_put_other (fun e2 => e (kU_inj e2)), h2]
      simp [incC, e]
  · by_cases e : y = x
    · subst e
      rw [atKey_put_same hi (lawU.key (kU_key hx))]
      simp [incC]
    · rw [atKey_put_other (fun e2 => e (kU_inj e2)), h3]
      simp [incC, e]
  · by_cases e : y = x
    · rw [e]; exact hx
    · unfold incC at hy
      rw [if_neg e] at hy
      exact hl y hy
theorem wpList_lookC {w : World} {ops : Array Oper} {rest : List Oper} {o : Oper} {a : Act} {Q : Exit → Act → World → Prop} (hg : o.guard = none) (m x : Operand) (hop : o.op = Op.lookup 130 m x false) (b n : Nat) (C : Nat → Nat) (hm : a.eval m = .map (some b)) (h : MC w b n C)
    (z : Nat) (hx : a.eval x = .int .u64 (z : Int)) (hz : z < 18446744073709551616) (hK : wpList Tryz.prog ops Q rest (a.put o.dst (.int .i64 ((C z : Nat) : Int))) w) : wpList Tryz.prog ops Q (o :: rest) a w := by
  obtain ⟨D, h1, _, h3⟩ := h.ex
  refine wpList_lookup_own_int w hg m x 130 hop 41 3 .i64 lawU Tryz.underlying130 Tryz.underlying3 (zeroI w) b n D hm h1 _ _ hx (kU_key hz) fun c hat _ => ?_
  rw [h3 z] at hat
  injection hat with hat
  injection hat with _ hat
  rw [← hat]; exact hK
theorem wpList_incC {w : World} {ops : Array Oper} {rest : List Oper} {o : Oper} {a : Act} {Q : Exit → Act → World → Prop} (hg : o.guard = none) (m x v : Operand) (hop : o.op = Op.mapUpdate 130 m x v) (b n : Nat) (C : Nat → Nat) (hm : a.eval m = .map (some b)) (h : MC w b n C) (hn : n < 1152921504606846976)
    (z : Nat) (hx : a.eval x = .int .u64 (z : Int)) (hv : a.eval v = .int .i64 ((C z : Nat) + 1 : Int)) (hz : z < 18446744073709551616) (hc : C z < 1152921504606846976) (hK : ∀ w', MC w' b (n + 1) (incC C z) → w.grownBy w' (some b) → wpList Tryz.prog ops Q rest (a.put o.dst undef) w') : wpList Tryz.prog ops Q (o :: rest) a w := by
  obtain ⟨D, h1, h2, h3⟩ := h.ex
  refine wpList_mapUpdate_own w hg m x v 130 hop 41 3 lawU Tryz.underlying130 elI b n D hm h1 (by unfold maxLen; omega) _ _ _ hx hv (kU_key hz) (.lit (.int .i64 ((C z : Nat) + 1 : Int))) [] (plainElem_int Tryz.underlying3 (by simp [Lit.wf, IntKind.min, IntKind.max, IntKind.bits, IntKind.signed]; omega)) fun w' h5 h4 => hK w' (MC.inc_of hz h1.isMap h.lt h2 h3 (by rw [show ((C z + 1 : Nat) : Int) = (C z : Nat) + 1 from by push_cast; rfl]; exact h5)) h4
theorem wpListIn_lookC {F : Fence} {d : Nat} {w : World} {ops : Array Oper} {rest : List Oper} {o : Oper} {a : Act} {Q : Exit → Act → World → Prop} (hg : o.guard = none) (m x : Operand) (hop : o.op = Op.lookup 130 m x false) (b n : Nat) (C : Nat → Nat) (hm : a.eval m = .map (some b)) (h : MC w b n C)
    (z q : Nat) (hx : a.eval x = .int .u64 (z : Int)) (hz : z < 18446744073709551616) (hq : C z = q) (hK : wpListIn F d Tryz.prog ops Q rest (a.put o.dst (.int .i64 (q : Int))) w) : wpListIn F d Tryz.prog ops Q (o :: rest) a w := by
  subst hq
  obtain ⟨D, h1, _, h3⟩ := h.ex
  refine wpListIn_lookup_own_int w hg m x 130 hop 41 3 .i64 lawU Tryz.underlying130 Tryz.underlying3 (zeroI w) b n D hm h1 _ _ hx (kU_key hz) fun c hat _ => ?_
  rw [h3 z] at hat
  injection hat with hat
  injection hat with _ hat
  rw [← hat]; exact hK
theorem wpListIn_incC {F : Fence} {d : Nat} {w : World} {ops : Array Oper} {rest : List Oper} {o : Oper} {a : Act} {Q : Exit → Act → World → Prop} (hg : o.guard = none) (m x v : Operand) (hop : o.op = Op.mapUpdate 130 m x v) (b n : Nat) (C : Nat → Nat) (hm : a.eval m = .map (some b)) (h : MC w b n C) (hn : n < 1152921504606846976)
    (z q : Nat) (hx : a.eval x = .int .u64 (z : Int)) (hv : a.eval v = .int .i64 ((q : Nat) + 1 : Int)) (hz : z < 18446744073709551616) (hq : C z = q) (hc : q < 1152921504606846976) (hK : ∀ w', MC w' b (n + 1) (incC C z) → w.grownBy w' (some b) → wpListIn F d Tryz.prog ops Q rest (a.put o.dst undef) w') : wpListIn F d Tryz.prog ops Q (o :: rest) a w := by
  subst hq
  obtain ⟨D, h1, h2, h3⟩ := h.ex
  refine wpListIn_mapUpdate_own w hg m x v 130 hop 41 3 lawU Tryz.underlying130 elI b n D hm h1 (by unfold maxLen; omega) _ _ _ hx hv (kU_key hz) (.lit (.int .i64 ((C z : Nat) + 1 : Int))) [] (plainElem_int Tryz.underlying3 (by simp [Lit.wf, IntKind.min, IntKind.max, IntKind.bits, IntKind.signed]; omega)) fun w' h5 h4 => hK w' (MC.inc_of hz h1.isMap h.lt h2 h3 (by rw [show ((C z + 1 : Nat) : Int) = (C z : Nat) + 1 from by push_cast; rfl]; exact h5)) h4
/-- How often x is in the sets of the first k. -/
def vtC (S : Nat → List Nat) (k x : Nat) : Nat := ((List.range k).filter fun i => decide (x ∈ S i)).length
theorem vtC_zero (S : Nat → List Nat) (x : Nat) : vtC S 0 x = 0 := rfl
theorem vtC_succ (S : Nat → List Nat) (k x : Nat) : vtC S (k + 1) x = vtC S k x + if x ∈ S k then 1 else 0 := by
  unfold vtC
  rw [List.range_succ, List.filter_append, List.length_append]
  by_cases h : x ∈ S k
  · simp [h]
  · simp [h]
theorem vtC_le (S : Nat → List Nat) (k x : Nat) : vtC S k x ≤ k := by
  have h := List.length_filter_le (fun i => decide (x ∈ S i)) (List.range k)
  rw [List.length_range] at h
  exact h
theorem count_sd (S : List Nat) (x : Nat) : (sdU S).count x = if x ∈ S then 1 else 0 := by
  have hn : (sdU S).Nodup := (sdU_pw S).imp fun h => Nat.ne_of_lt h
  rw [hn.count]
  by_cases q : x ∈ S
  · rw [if_pos q, if_pos ((sdU_mem x _).2 q)]
  · rw [if_neg q, if_neg fun hm => q ((sdU_mem x _).1 hm)]
theorem inc_count (C : Nat → Nat) (l : List Nat) (x : Nat) : incC (fun y => C y + l.count y) x = fun y => C y + (l ++ [x]).count y := by
  funext y
  unfold incC
  rw [List.count_append, List.count_singleton]
  by_cases e : y = x
  · subst e; simp; omega
  · rw [if_neg e]
    have : (x == y) = false := by simpa using fun h => e h.symm
    rw [this]; simp
set_option maxHeartbeats 1000000 in
/-- Strict's word. -/
theorem strict1_any (B : Nat) (a : Option Addr) (n c k : Nat) (w : World) (hc : w.cell? ⟨B, 0, none⟩ = some (.slice a n c)) : Calls Tryz.prog 61 #[.int .i64 (k : Int), .pointer (some ⟨B, 0, none⟩)] w fun e w' => e = .returned (.bool (decide (k = n))) ∧ w' = w := by
  go_enter Tryz.func61, Tryz.ntmps61
  go_wp2_with fail
  go_ret
  refine ⟨?_, rfl⟩
  have h : ((k : Int) == (n : Int)) = decide (k = n) := by
    by_cases h : k = n
    · subst h; simp
    · rw [decide_eq_false h, beq_eq_false_iff_ne]; omega
  show Ending.returned (.bool ((k : Int) == (n : Int))) = _
  rw [h]
set_option maxHeartbeats 1000000 in
/-- Majority's word. -/
theorem majority1_any (B : Nat) (a : Option Addr) (n c k : Nat) (w : World) (hk : k ≤ 1000) (hc : w.cell? ⟨B, 0, none⟩ = some (.slice a n c)) : Calls Tryz.prog 63 #[.int .i64 (k : Int), .pointer (some ⟨B, 0, none⟩)] w fun e w' => e = .returned (.bool (decide (n < 2 * k))) ∧ w' = w := by
  go_enter Tryz.func63, Tryz.ntmps63
  go_wp2_with fail
  go_ret
  refine ⟨?_, rfl⟩
  have h : decide ((n : Int) < 2 * (k : Int)) = decide (n < 2 * k) := by
    by_cases h : n < 2 * k
    · rw [decide_eq_true h, decide_eq_true]; omega
    · rw [decide_eq_false h, decide_eq_false]; omega
  show Ending.returned (.bool (decide ((n : Int) < 2 * (k : Int)))) = _
  rw [h]
end Go.Proofs.YtfgkjofdgohacaaGreatDoor
namespace Go.Proofs.YtfgkjofdgohacaaGreatDoor
open Go Go.RowKit Go.Shelf Go.Maps
attribute [local go_sem] Oper.semAt_some
theorem ShOk.rdn {W : World} {base : Nat} {x : Shp} {t : List Nd} (h : ShOk W base x t) : Rd W x.1.1 (fl encS (nmsL t)) := by
  obtain ⟨⟨xa, xn, xc⟩, y, m⟩ := x
  obtain rfl : xn = _ := h.n1
  exact rd_of_owns h.names
/-- A leaf's name. -/
theorem nms_in {t : List Nd} (hok : TreeOk t) {s : ByteArray} (h : s ∈ nmsL t) : s ≠ ByteArray.empty ∧ s.size ≤ 24 := by
  unfold nmsL at h
  rw [srtB_mem, List.mem_map] at h
  obtain ⟨v, hv, rfl⟩ := h
  have hlt := ((lv_mem rfl hok).1 hv).1
  have h3 := (hok.2.2 v hlt).2.2.1
  unfold nmB at h3
  simp only [Bool.and_eq_true, decide_eq_true_eq] at h3
  refine ⟨fun e => ?_, h3.2⟩
  rw [e] at h3
  exact absurd h3.1.2 (by decide)
/-- A tree has a leaf: its last node. -/
theorem lvT_pos {t : List Nd} (hok : TreeOk t) : 1 ≤ (lvT t).length := by
  have hm : t.length - 1 ∈ lvT t := by
    refine (lv_mem rfl hok).2 ⟨by have := hok.1; omega, ?_⟩
    unfold leafB famL
    rw [List.isEmpty_iff, List.filter_eq_nil_iff]
    intro u hu
    have hu := List.mem_range.1 hu
    have h1 := (hok.2.2 u hu).1
    unfold kidB
    simp
    omega
  exact List.length_pos_of_mem hm
/-- The votes so far. -/
structure VtI (w1 : World) (V bM K : Nat) (C : Nat → Nat) (W : World) : Prop where
  bl : Below w1.heap.size w1 W
  v : Blk W V #[.map (some bM)] 130
  mc : MC W bM K C
theorem VtI.below {w1 W W' : World} {V bM K : Nat} {C : Nat → Nat} (h : VtI w1 V bM K C W) (hb : Below W.heap.size W W') : VtI w1 V bM K C W' :=
  ⟨bl_trans h.bl hb, h.v.below hb, h.mc.bl hb⟩
/-- The sets that have won so far. -/
structure CnI (W0 : World) (m2 bM r nn : Nat) (D : DataW Unit) (left : Lit → Bool) (cnt K : Nat) (S : List Nat) (Q : Nat → Prop) (W : World) : Prop where
  bl : Below W0.heap.size W0 W
  rg : W.ranges Tryz.prog 41 elI bM r nn D left cnt
  mu : MU W m2 K S
  mem : ∀ x, x ∈ S ↔ (has D (kU x) = true ∧ left (kU x) = false ∧ Q x)
  le : K + cnt ≤ Maps.size D
theorem CnI.skip {W0 W W9 : World} {m2 bM r nn cnt cnt9 K y : Nat} {D : DataW Unit} {left : Lit → Bool} {S : List Nat} {Q : Nat → Prop} (h : CnI W0 m2 bM r nn D left cnt K S Q W) (hg : W.grownBy W9 (some r)) (hrg : W9.ranges Tryz.prog 41 elI bM r nn D (fun z => left z && !z.sameKey (.int .u64 (y : Int))) cnt9) (hlt : cnt9 < cnt) (hr : W0.heap.size ≤ r) (hm : m2 ≠ r) (hQ : ¬ Q y) :
    CnI W0 m2 bM r nn D (fun z => left z && !z.sameKey (.int .u64 (y : Int))) cnt9 K S Q W9 := by
  refine ⟨bl_grown h.bl hg fun q e => by rw [← Option.some.inj e]; exact hr, hrg, h.mu.kept hg fun e => hm (Option.some.inj e), fun x => ?_, by have := h.le; omega⟩
  rw [h.mem]
  have hk : (kU x).sameKey (.int .u64 (y : Int)) = decide (x = y) := kU_same x y
  rw [hk]
  by_cases e : x = y
  · subst e; simp [hQ]
  · simp [e]
theorem CnI.step {W0 W W9 : World} {m2 bM r nn cnt cnt9 K y B : Nat} {D : DataW Unit} {left : Lit → Bool} {S : List Nat} {Q : Nat → Prop} (h : CnI W0 m2 bM r nn D left cnt K S Q W) (hg : W.grownBy W9 (some r)) (hrg : W9.ranges Tryz.prog 41 elI bM r nn D (fun z => left z && !z.sameKey (.int .u64 (y : Int))) cnt9) (hlt : cnt9 < cnt) (hr : W0.heap.size ≤ r) (hm : m2 ≠ r) (hQ : Q y) (hb : bM ≠ m2) (hy : y < 18446744073709551616) (hhas : has D (kU y) = true) (hB : B = W9.heap.size) (h0 : W0.heap.size ≤ m2) (hK : K ≤ 1000000) :
    Calls Tryz.prog 69 #[.map (some m2), .slice (some ⟨B, 0, none⟩) 1 1] (W9.alloc (.cells #[.int .u64 (y : Int)] 41)) fun e w' => e = .returned (.tuple #[]) ∧ CnI W0 m2 bM r nn D (fun z => left z && !z.sameKey (.int .u64 (y : Int))) cnt9 (K + 1) (addL S [y]) Q w' := by
  subst hB
  refine (putU_any m2 K S (some ⟨W9.heap.size, 0, none⟩) 1 1 [y] _ ((h.mu.kept hg fun e => hm (Option.some.inj e)).alloc _) rfl (by omega) (by omega) (rd_of_blk4 (cs := fl encV [y]) (Blk.new W9 #[.int .u64 (y : Int)] 41)) (fun i hi => by
    have : i = 0 := by omega
    subst this; exact hy)).mono ?_
  rintro e w' ⟨he, hmu, hg2⟩
  refine ⟨he, bl_grown (bl_trans (bl_grown h.bl hg fun q e => by rw [← Option.some.inj e]; exact hr) (bl_alloc (Below.refl _ _) _)) hg2 fun q e => by rw [← Option.some.inj e]; exact h0, (hrg.alloc _).kept hg2 (fun e => hb (Option.some.inj e)) (fun e => hm (Option.some.inj e).symm), hmu, fun x => ?_, by have := h.le; omega⟩
  rw [addL_mem, h.mem, List.mem_singleton]
  have hk : (kU x).sameKey (.int .u64 (y : Int)) = decide (x = y) := kU_same x y
  rw [hk]
  by_cases e : x = y
  · subst e; simp [hQ, hhas]
  · simp [e]
/-- What consensus says of the trees: the error. -/
def cnE (n : Nat) (T : Nat → List Nd) : Int := if 16 < n then 12 else if n = 0 then 5 else if shE n T ≠ 0 then shE n T else if 32 < (lvT (T 0)).length then 12 else alE (T 0) n T
/-- The tree of some clades. -/
def cnT (F : List Nat) (t : List Nd) : List Nd := (grw (nmsL t) F 64 (2 ^ (lvT t).length - 1) (-1) ([], 0)).1
set_option maxRecDepth 100000 in
set_option maxHeartbeats 2000000 in
theorem consensus_any (a : Option Addr) (n c : Nat) (T : Nat → List Nd) (rs : List Rw) (pf PB : Nat) (p : Nat → Bool) (F : List Nat) (w : World) (hn : n ≤ 1048575) (h : TrsIn w a n T rs) (hen : Enters Tryz.prog pf)
    (hp : ∀ k W, k ≤ 16 → Below w.heap.size w W → Calls Tryz.prog pf #[.int .i64 ((k : Nat) : Int), .pointer (some ⟨PB, 0, none⟩)] W fun e w' => e = .returned (.bool (p k)) ∧ w' = W)
    (hF : cnE n T = 0 → Hier (lvT (T 0)).length F ∧ ∀ x, x ∈ F ↔ (x = 2 ^ (lvT (T 0)).length - 1 ∨ (∃ k, k < (lvT (T 0)).length ∧ x = 2 ^ k) ∨ (vtC (fun i => setU (T i)) n x ≠ 0 ∧ p (vtC (fun i => setU (T i)) n x) = true))) (hT : TzG w) :
    Calls Tryz.prog 60 #[.slice a n c, .func (.func pf) #[] #[.pointer (some ⟨PB, 0, none⟩)]] w fun e w' => Below w.heap.size w w' ∧ (cnE n T ≠ 0 ∧ e = .returned (.tuple #[.slice none 0 0, .int .i64 (cnE n T)]) ∨ cnE n T = 0 ∧ ∃ v, e = .returned (.tuple #[v, .int .i64 0]) ∧ w'.ownsRow w.heap.size 56 2 v (cnT F (T 0)).length (fl encNd (cnT F (T 0)))) := by
  have HSH := Lib.hid (shapes_any a n c T rs w hn h)
  have HTR := Lib.hid h
  have HPP := Lib.hid hp
  have HFF := Lib.hid hF
  have HTZ := Lib.hid hT
  clear h hp hF hT
  refine (callsIn_wide (n := 10)).1 ?_
  refine callsIn_of_wp_marks Tryz.func60 rfl trivial ?_ rfl
  simp only [Tryz.ntmps60, List.size_toArray, List.length_cons, List.length_nil, Nat.reduceAdd, Nat.reduceSub, Array.replicate_succ, Array.replicate_zero, List.push_toArray, List.append_toArray, List.nil_append, List.cons_append]
  refine wpIn_wide.2 ?_
  by_cases q1 : 16 < n
  · have hE : cnE n T = 12 := by unfold cnE; rw [if_pos q1]
    have d1 : decide (16 < (n : Int)) = true := decide_eq_true (by omega)
    clear q1
    go_wp2_with fail
    refine leaves_all [] _ List.nodup_nil (fun D h => by cases h) fun W' ht => ⟨_, results_tmp2 rfl _ _ _, ?_⟩
    refine ⟨ht.below (Below.refl _ _) (fun D h => by cases h), .inl ⟨by rw [hE]; decide, by rw [hE]; rfl⟩⟩
  · have d1 : decide (16 < (n : Int)) = false := decide_eq_false (by omega)
    by_cases q2 : n = 0
    · have hE : cnE n T = 5 := by unfold cnE; rw [if_neg q1, if_pos q2]
      have d2 : ((n : Int) == 0) = true := by rw [q2]; rfl
      clear q1 q2
      go_wp2_with fail
      refine leaves_all [] _ List.nodup_nil (fun D h => by cases h) fun W' ht => ⟨_, results_tmp2 rfl _ _ _, ?_⟩
      refine ⟨ht.below (Below.refl _ _) (fun D h => by cases h), .inl ⟨by rw [hE]; decide, by rw [hE]; rfl⟩⟩
    · have d2 : ((n : Int) == 0) = false := by rw [beq_eq_false_iff_ne]; omega
      have HN16 : Hid (n ≤ 16 ∧ n ≠ 0) := ⟨by omega, q2⟩
      have HE0 : Hid (cnE n T = if shE n T ≠ 0 then shE n T else if 32 < (lvT (T 0)).length then 12 else alE (T 0) n T) := by show _ = _; unfold cnE; rw [if_neg q1, if_neg q2]
      clear q1 q2
      go_wp2_with fail
      refine HSH.out.mono ?_
      rintro e w1 ⟨hb1, ⟨hz, rfl⟩ | ⟨hz, A, c', xs, rfl, hxs⟩⟩
      · have d3 : (shE n T == 0) = false := by rw [beq_eq_false_iff_ne]; exact hz
        have hE : cnE n T = shE n T := by rw [HE0.out, if_pos hz]
        have HZ := Lib.hid hz
        have HB1 := Lib.hid hb1
        clear hz hb1
        go_wp2_with fail
        refine leaves_all [] _ List.nodup_nil (fun D h => by cases h) fun W' ht => ⟨_, results_tmp2 rfl _ _ _, ?_⟩
        refine ⟨ht.below HB1.out (fun D h => by cases h), .inl ⟨by rw [hE]; exact HZ.out, by rw [hE]; rfl⟩⟩
      · have HX1 := Lib.hid hxs
        have HB1 := Lib.hid hb1
        have HE1 : Hid (cnE n T = if 32 < (lvT (T 0)).length then 12 else alE (T 0) n T) := by show _ = _; rw [HE0.out, if_neg (by rw [hz]; decide)]
        have HOKS : Hid (∀ i, i < n → TreeOk (T i)) := fun i hi => by
          by_cases q : TreeOk (T i)
          · exact q
          · rw [shE_bad hi q] at hz; omega
        rw [hz]
        clear hz hb1 hxs HSH HE0
        have h0 : 0 < n := by have := HN16.out; omega
        have HY0 := Lib.hid (HX1.out.ok 0 h0)
        have HXL := Lib.hid HX1.out.len
        have hl63 := lvT_le63 (HOKS.out 0 h0)
        obtain ⟨bX, oX, rfl, _, hc⟩ := rdSh (rd_of_owns HX1.out.own) (by rw [HX1.out.len]; exact h0)
        obtain ⟨c1, c2, c3⟩ := hc 0 (by rw [HX1.out.len]; exact h0)
        clear hc
        obtain ⟨y0, hy0⟩ : ∃ y, y = shA xs 0 := ⟨_, rfl⟩
        rw [← hy0] at c1 c2 c3 HY0
        have HYE := Lib.hid hy0
        clear hy0
        obtain ⟨⟨xa, xn, xc⟩, ⟨ya, yn, yc⟩, xm⟩ := y0
        obtain ⟨L, hL⟩ : ∃ L, L = (lvT (T 0)).length := ⟨_, rfl⟩
        obtain rfl : xn = L := HY0.out.n1.trans hL.symm
        have HAK := Lib.hid (alike_any ((xa, xn, xc), (ya, yn, yc), xm) (T 0) (some ⟨bX, oX, none⟩) n c' T xs w1 (HOKS.out 0 h0) HOKS.out HY0.out.n1 HY0.out.rdn HX1.out.len (by have := HN16.out; omega) (rd_of_owns HX1.out.own) fun i hi => ⟨(HX1.out.ok i hi).n1, (HX1.out.ok i hi).rdn⟩)
        rw [← hL] at hl63 HE1
        have HLE := Lib.hid hL
        simp only [slR, Nat.zero_mul, Nat.add_zero] at c1 c2 c3
        clear hL
        by_cases q3 : 32 < xn
        · have hE : cnE n T = 12 := by rw [HE1.out, if_pos q3]
          have d3 : decide (32 < (xn : Int)) = true := decide_eq_true (by omega)
          clear q3
          go_wp2_with fail
          refine leaves_all [] _ List.nodup_nil (fun D h => by cases h) fun W' ht => ⟨_, results_tmp2 rfl _ _ _, ?_⟩
          refine ⟨ht.below HB1.out (fun D h => by cases h), .inl ⟨by rw [hE]; decide, by rw [hE]; rfl⟩⟩
        · have d3 : decide (32 < (xn : Int)) = false := decide_eq_false (by omega)
          have HL32 : Hid (xn ≤ 32) := by show _ ≤ _; omega
          have HE2 : Hid (cnE n T = alE (T 0) n T) := by show _ = _; rw [HE1.out, if_neg q3]
          clear q3
          go_wp2_with fail
          refine HAK.out.mono ?_
          rintro e w2 ⟨rfl, hb2⟩
          have HB2 := Lib.hid hb2
          have HB12 := Lib.hid (bl_trans HB1.out hb2)
          clear hb2 HAK c1 c2 c3
          by_cases q4 : alE (T 0) n T = 0
          · have HE3 : Hid (cnE n T = 0) := HE2.out.trans q4
            rw [q4]
            clear q4 HE2 HE1
            have hmm := @run_makeMap Tryz.prog
            go_upto_region 14 with fail
            clear hmm
            obtain ⟨bM, hbM⟩ : ∃ y, y = w2.heap.size := ⟨_, rfl⟩
            obtain ⟨w3, hw3⟩ : ∃ y, y = (w2.alloc (.map #[] 0)).alloc (.cells #[.map (some w2.heap.size)] 130) := ⟨_, rfl⟩
            have HV0 : Hid (VtI w2 (bM + 1) bM 0 (fun _ => 0) w3) := by
              rw [hw3, hbM]
              refine ⟨bl_alloc (bl_alloc (Below.refl _ _) _) _, ?_, ?_⟩
              · have h := Blk.new (w2.alloc (.map #[] 0)) #[.map (some w2.heap.size)] 130
                rwa [World.size_alloc] at h
              · exact (MC.made w2).alloc _
            rw [← hw3, ← hbM]
            have HBM := Lib.hid hbM
            clear hw3 hbM
            go_wp2_with fail
            refine wp_loop_ghost_k (fun r act W => ∃ (i : Nat) (Ds : List Nat) (u : Nat → Value), r = n - i ∧ i ≤ n ∧ act = { tmps := #[.slice a n c, .func (.func pf) #[] #[.pointer (some ⟨PB, 0, none⟩)], undef, undef, .slice none 0 0, .int .i64 0, .slice (some ⟨bX, oX, none⟩) n c', .int .i64 0, .int .i64 0, .pointer (some ⟨bM + 1, 0, none⟩), undef, u 11, u 12, undef, undef, undef, .bool false, .slice a n c, .int .i64 n, .bool false, .bool false, .slice a n c, .int .i64 n, .bool false, .tuple #[.slice (some ⟨bX, oX, none⟩) n c', .int .i64 0], .slice a n c, .tuple #[.slice (some ⟨bX, oX, none⟩) n c', .int .i64 0], .slice (some ⟨bX, oX, none⟩) n c', .int .i64 0, .int .i64 0, .bool false, undef, .slice (some ⟨bX, oX, none⟩) n c', .pointer (some ⟨bX, oX, none⟩), .pointer (some ⟨bX, oX, none⟩), .slice xa xn xc, .int .i64 xn, .bool false, .slice (some ⟨bX, oX, none⟩) n c', .pointer (some ⟨bX, oX, none⟩), .agg #[.slice xa xn xc, .slice ya yn yc, .map (some xm)], .slice (some ⟨bX, oX, none⟩) n c', .int .i64 0, .int .i64 0, .bool false, undef, .map (some bM), .slice (some ⟨bX, oX, none⟩) n c', .int .i64 n, .int .i64 i, u 50, u 51, u 52, u 53, u 54, u 55, u 56, u 57, u 58, u 59, u 60, u 61, undef, undef, undef, undef, undef, undef, undef, undef, undef, undef, undef, undef, undef, undef, undef, undef, undef, undef, undef, undef, undef], defers := dfs Ds } ∧ Hid (VtI w2 (bM + 1) bM (i * 100) (vtC (fun q => setU (T q)) i) W ∧ Ds.Nodup ∧ ∀ D ∈ Ds, w2.heap.size ≤ D ∧ W.heap[D]? = some (Obj.deferred (some [])))) n ?start ?round
            case start => exact ⟨0, [], fun _ => undef, rfl, by omega, rfl, HV0.out, List.nodup_nil, fun D h => by cases h⟩
            case round =>
              clear HV0
              rintro r act W ⟨i, Ds, u, rfl, hi, rfl, HI⟩ J' K hJ hK
              by_cases hlt : i < n
              · obtain ⟨hvt, hds1, hds2⟩ := HI.out
                have HXW := Lib.hid (HX1.out.bl (bl_trans HB2.out hvt.bl))
                obtain ⟨b', o', e', _, hc⟩ := rdSh (rd_of_owns HXW.out.own) (by rw [HXW.out.len]; omega)
                cases e'
                obtain ⟨c1, c2, c3⟩ := hc i (by rw [HXW.out.len]; exact hlt)
                have HOKI := Lib.hid (HXW.out.ok i hlt)
                clear hc hvt hds1 hds2
                generalize shA xs i = yi at *
                obtain ⟨⟨za, zn, zc⟩, ⟨va, vn, vc⟩, zm⟩ := yi
                simp only [slR] at c1 c2
                simp only [] at c3
                go_upto_region 17 with fail
                obtain ⟨w4, hw4⟩ : ∃ y, y = W.alloc (.cells #[.slice za zn zc, .slice va vn vc, .map (some zm)] 69) := ⟨_, rfl⟩
                have HB4 : Hid (Below W.heap.size W w4) := by
                  show Below _ _ _
                  rw [hw4]; exact bl_alloc (Below.refl _ _) _
                have HR4 : Hid (Blk w4 W.heap.size #[.slice za zn zc, .slice va vn vc, .map (some zm)] 69) := by
                  show Blk _ _ _ _
                  rw [hw4]; exact Blk.new W _ _
                have HM4 : Hid (MU w4 zm 100 (setU (T i))) := HOKI.out.set.bl HB4.out
                have HVT4 := Lib.hid (HI.out.1.below HB4.out)
                have HZ4 : Hid (w2.heap.size ≤ w4.heap.size ∧ bM + 1 < W.heap.size ∧ W.heap.size ≤ w4.heap.size) := ⟨HVT4.out.bl.size, HI.out.1.v.lt, HB4.out.size⟩
                rw [← hw4]
                obtain ⟨R, hR⟩ : ∃ y, y = W.heap.size := ⟨_, rfl⟩
                rw [← hR] at HR4 ⊢
                have HRE := Lib.hid hR
                have HAL := Lib.hid (allU_any zm 100 (setU (T i)) w4 HM4.out (by have := HM4.out.le; omega))
                have x2 : w4.cell? ⟨R, 2, none⟩ = some (.map (some zm)) := HR4.out.cell 2
                clear hw4 hR c1 c2 c3 HOKI HXW
                go_wp2_with (go_at_call 65; refine HAL.out.mono ?_; rintro e w6 ⟨X, a6, c6, rfl, hX6, hBX, hO6, hb6⟩; have HX6 := Lib.hid hX6; have HBX := Lib.hid hBX; have HO6 := Lib.hid hO6; have HB6 := Lib.hid hb6; clear hX6 hBX hO6 hb6 x2)
                have HVT6 := Lib.hid (HVT4.out.below HB6.out)
                have HRX : Hid (∀ B, BsV X a6 B → bM + 1 < B) := fun B h => by
                  have h1 := bsV_ge HX6.out HO6.out (Nat.le_refl _) h
                  have h2 := HZ4.out
                  omega
                have HZ6 := Lib.hid HB6.out.size
                refine wp_vals (a₁ := ?a1) rfl HBX.out HO6.out (sdU_len HM4.out.nd) (by have := HM4.out.le; omega) (fun x hx => HM4.out.lt x ((sdU_mem x _).1 hx)) rfl (fun pre W' => MC W' bM (i * 100 + pre.length) (fun x => vtC (fun q => setU (T q)) i x + (pre.map Fin.val).count x) ∧ w6.grownBy W' (some bM)) (fun pre W W' row h hg hr => ⟨h.1.kept hg (fun e => by have h1 := (hr bM e.symm).1; have h2 := HZ4.out; have h3 := HZ6.out; omega), grownBy_own h.2 hg fun r e => (hr r e).1⟩) ⟨HVT6.out.mc, gb_refl _ _⟩ ?assign ?body ?done
                case assign =>
                  intro r x W K hK
                  gi_wp2
                  repeat (rw [Oper.semAt_some _ _ _ (by intro c h; cases h)]; go_simp; gi_wp2)
                  exact hK
                case body =>
                  rintro r pre ⟨x, hx⟩ W' ⟨h1, h2⟩ hlen
                  have cV : W'.cell? ⟨bM + 1, 0, none⟩ = some (.map (some bM)) := (HVT6.out.v.grown h2 (fun e => by have := Option.some.inj e; omega)).cell 0
                  have hxl := HM4.out.le
                  have hcl : ((pre.map Fin.val).count x) ≤ pre.length := by
                    have h := List.count_le_length (a := x) (l := pre.map Fin.val)
                    rwa [List.length_map] at h
                  have hvl := vtC_le (fun q => setU (T q)) i x
                  have HC : Hid (∃ C : Nat → Nat, C = fun x => vtC (fun q => setU (T q)) i x + (pre.map Fin.val).count x) := ⟨_, rfl⟩
                  obtain ⟨C, hC⟩ := HC.out
                  rw [← hC] at h1
                  have hCx : C x = vtC (fun q => setU (T q)) i x + (pre.map Fin.val).count x := by rw [hC]
                  obtain ⟨q, hq⟩ : ∃ q, C x = q := ⟨_, rfl⟩
                  have hq2 : q ≤ 1000 := by have := HN16.out; omega
                  have hK2 : i * 100 + pre.length < 100000 := by have := HN16.out; omega
                  have H1 := Lib.hid h1
                  have H2 := Lib.hid h2
                  have HCE := Lib.hid hC
                  have HQ := Lib.hid hq
                  clear h1 h2 hC hCx hq hxl hcl hvl HC
                  dsimp only
                  gi_wp2_with (first | (gi_at_lookup; refine wpListIn_lookC rfl _ _ rfl bM _ C rfl H1.out x q rfl hx HQ.out ?_) | (gi_at_mapUpdate; refine wpListIn_incC rfl _ _ _ rfl bM _ C rfl H1.out (by omega) x q rfl rfl hx HQ.out (by omega) ?_; intro w7 hmc7 hg7) | gi_in)
                  have hbl : bM < w6.heap.size := by have h2 := HZ4.out; have h3 := HZ6.out; omega
                  refine ⟨KeepsFrom.of_grownBy hg7 (fun j e => by have := Option.some.inj e; omega), kpV_of hg7.size (fun B hB hlt => hg7.block B hlt (fun e => by have h1 := HRX.out B hB; have := Option.some.inj e; omega)), ?_, gb_trans H2.out hg7⟩
                  have h := hmc7
                  rw [HCE.out, inc_count] at h
                  rw [List.length_append, List.map_append]
                  exact h
                case done =>
                  rintro D xs W' hD hxs ⟨h1, h2⟩ hKD
                  have hml := HM4.out.le
                  have hxl : xs.length = (setU (T i)).length := by rw [← sdU_len HM4.out.nd, ← hxs, List.length_map]
                  have HN : Hid (VtI w2 (bM + 1) bM ((i + 1) * 100) (vtC (fun q => setU (T q)) (i + 1)) W' ∧ (D :: Ds).Nodup ∧ ∀ D' ∈ D :: Ds, w2.heap.size ≤ D' ∧ W'.heap[D']? = some (Obj.deferred (some []))) := by
                    have hz4 := HZ4.out
                    have hz6 := HZ6.out
                    have hre := HRE.out
                    refine ⟨⟨bl_grown HVT6.out.bl h2 fun r e => by have := Option.some.inj e; have := HBM.out; omega, HVT6.out.v.grown h2 fun e => by have := Option.some.inj e; omega, ?_⟩, ?_, ?_⟩
                    · have h := h1.mono (n' := (i + 1) * 100) (by rw [hxl]; omega)
                      rwa [show (fun x => vtC (fun q => setU (T q)) i x + (xs.map Fin.val).count x) = vtC (fun q => setU (T q)) (i + 1) from by
                        funext x
                        rw [hxs, count_sd, vtC_succ]] at h
                    · refine List.nodup_cons.2 ⟨fun hm => ?_, HI.out.2.1⟩
                      have h3 := (Array.getElem?_eq_some_iff.1 (HI.out.2.2 D hm).2).1
                      omega
                    · intro D' hD'
                      rcases List.mem_cons.1 hD' with rfl | hD'
                      · exact ⟨by omega, hKD⟩
                      · obtain ⟨g1, g2⟩ := HI.out.2.2 D' hD'
                        have h3 := (Array.getElem?_eq_some_iff.1 g2).1
                        refine ⟨g1, (h2.block D' (by omega) (fun e => ?_)).trans (((HB6.out.block D' (by omega)).trans (HB4.out.block D' h3)).trans g2)⟩
                        obtain ⟨es, cl, hbk⟩ := HI.out.1.mc.blk
                        have e2 : D' = bM := Option.some.inj e
                        rw [e2, hbk] at g2
                        cases g2
                  clear h1 h2 hKD hD hxs hml hxl
                  simp only [Exit.inBlock, Exit.then]
                  go_wp2_with fail
                  exact Handed.intro (n - (i + 1)) (by omega) (hJ _ _ _ ⟨i + 1, D :: Ds, ex_u rfl (by omega) HN rfl⟩)
              · obtain rfl : i = n := by omega
                have hvm := @run_makeMap Tryz.prog
                go_upto_region 22 with fail
                obtain ⟨w5, hw5⟩ : ∃ y, y = W.alloc (.map #[] 0) := ⟨_, rfl⟩
                have HB5 : Hid (Below W.heap.size W w5) := by
                  show Below _ _ _
                  rw [hw5]; exact bl_alloc (Below.refl _ _) _
                have HM5 : Hid (MU w5 W.heap.size 0 []) := by
                  show MU _ _ _ _
                  rw [hw5]; exact MU.made W
                have HZ5 : Hid (w5.heap.size = W.heap.size + 1) := by
                  show _ = _
                  rw [hw5, World.size_alloc]
                have HVT5 := Lib.hid (HI.out.1.below HB5.out)
                have cV : w5.cell? ⟨bM + 1, 0, none⟩ = some (.map (some bM)) := HVT5.out.v.cell 0
                obtain ⟨D, hown, hhas, hat0⟩ := HVT5.out.mc.ex
                obtain ⟨m2, hm2⟩ : ∃ y, y = W.heap.size := ⟨_, rfl⟩
                rw [← hw5]
                rw [← hm2] at HM5 HZ5 ⊢
                have HM2 := Lib.hid hm2
                have HHAS := Lib.hid hhas
                have HAT0 := Lib.hid hat0
                have HSZD := Lib.hid hown.size_le
                clear hw5 hm2 hhas hat0 hvm
                go_wp2_with (first | (at_range; refine wpList_range_own _ rfl _ 130 rfl 41 3 lawU Tryz.underlying130 _ bM _ D rfl hown ?_; intro w8 hrg8 hg8 hs8) | go_in)
                rw [show w5.heap.size = m2 + 1 from HZ5.out] at hrg8 hs8 ⊢
                have HC0 : Hid (CnI W m2 bM (m2 + 1) (i * 100) D (has D) (Maps.size D) 0 [] (fun x => p (vtC (fun q => setU (T q)) i x) = true) w8) := by
                  have h1 := HM2.out
                  refine ⟨bl_grown HB5.out hg8 fun r e => (by cases e), hrg8, HM5.out.kept hg8 (fun e => by cases e), fun x => ?_, by omega⟩
                  constructor
                  · intro h; cases h
                  · rintro ⟨g1, g2, _⟩; rw [g1] at g2; cases g2
                clear hrg8 hg8 hs8 hown cV
                refine wp_loop_ghost_k (fun r act W' => ∃ (cnt : Nat) (v : Nat → Value), True ∧ True ∧ act = { tmps := #[.slice a i c, .func (.func pf) #[] #[.pointer (some ⟨PB, 0, none⟩)], undef, undef, .slice none 0 0, .int .i64 0, .slice (some ⟨bX, oX, none⟩) i c', .int .i64 0, .int .i64 0, .pointer (some ⟨bM + 1, 0, none⟩), undef, u 11, u 12, .map (some m2), v 14, v 15, .bool false, .slice a i c, .int .i64 i, .bool false, .bool false, .slice a i c, .int .i64 i, .bool false, .tuple #[.slice (some ⟨bX, oX, none⟩) i c', .int .i64 0], .slice a i c, .tuple #[.slice (some ⟨bX, oX, none⟩) i c', .int .i64 0], .slice (some ⟨bX, oX, none⟩) i c', .int .i64 0, .int .i64 0, .bool false, undef, .slice (some ⟨bX, oX, none⟩) i c', .pointer (some ⟨bX, oX, none⟩), .pointer (some ⟨bX, oX, none⟩), .slice xa xn xc, .int .i64 xn, .bool false, .slice (some ⟨bX, oX, none⟩) i c', .pointer (some ⟨bX, oX, none⟩), .agg #[.slice xa xn xc, .slice ya yn yc, .map (some xm)], .slice (some ⟨bX, oX, none⟩) i c', .int .i64 0, .int .i64 0, .bool false, undef, .map (some bM), .slice (some ⟨bX, oX, none⟩) i c', .int .i64 i, .int .i64 i, .bool false, u 51, u 52, u 53, u 54, u 55, u 56, u 57, u 58, u 59, u 60, u 61, .map (some m2), .map (some bM), .pointer (some ⟨m2 + 1, 0, none⟩), v 65, v 66, v 67, v 68, v 69, v 70, v 71, v 72, v 73, v 74, v 75, v 76, undef, undef, undef, undef, undef, undef], defers := dfs Ds } ∧ ∃ (left : Lit → Bool) (K : Nat) (S : List Nat), r = cnt ∧ Hid (CnI W m2 bM (m2 + 1) (i * 100) D left cnt K S (fun x => p (vtC (fun q => setU (T q)) i x) = true) W')) (Maps.size D) ?start2 ?round2
                case start2 => exact ⟨_, fun _ => undef, trivial, trivial, rfl, _, _, _, rfl, HC0⟩
                case round2 =>
                  clear HC0
                  rintro r act W' ⟨cnt, v, -, -, rfl, left, K, S, rfl, HC⟩ J2 K2 hJ2 hK2
                  have hrg := HC.out.rg
                  go_wp2_with (first | (at_next; refine wpList_next_ranges_ii _ rfl _ rfl 41 3 .u64 .i64 lawU Tryz.underlying41 Tryz.underlying3 bM (m2 + 1) (i * 100) D left _ rfl hrg ?_ ?_) | go_in)
                  · intro hc0 hl0
                    have HBW := Lib.hid (bl_trans (bl_trans HB2.out HI.out.1.bl) HC.out.bl)
                    have HXW := Lib.hid (HX1.out.bl HBW.out)
                    have HY0W := Lib.hid (HY0.out.bl HBW.out)
                    obtain ⟨b', o', e', _, hc⟩ := rdSh (rd_of_owns HXW.out.own) (by rw [HXW.out.len]; exact h0)
                    cases e'
                    obtain ⟨c1, _, _⟩ := hc 0 (by rw [HXW.out.len]; exact h0)
                    rw [← HYE.out] at c1
                    simp only [slR, Nat.zero_mul, Nat.add_zero] at c1
                    have HOK0 := Lib.hid (HOKS.out 0 h0)
                    obtain ⟨hFh, hFm⟩ := HFF.out HE3.out
                    rw [← HLE.out] at hFh hFm
                    have HBT : Hid (Below w.heap.size w W') := bl_trans HB1.out HBW.out
                    have HTB := Lib.hid (tbuild_any xa xn xc (nmsL (T 0)) m2 K S F W' ((nmsL_len _).trans HLE.out.symm) (by rw [HLE.out]; exact lvT_pos HOK0.out) HL32.out HY0W.out.rdn (fun s hs => (nms_in HOK0.out hs).1) (fun s hs => by have := (nms_in HOK0.out hs).2; unfold maxLen; omega) ((nms_pw rfl HOK0.out).imp fun h e => by rw [e] at h; exact LtB.irr _ h)
                        HC.out.mu (by have h1 := HC.out.le; have h2 := HSZD.out; have h3 := HN16.out; omega) hFh (fun x => by
                          rw [hFm]
                          unfold famP
                          rw [HC.out.mem, HHAS.out, hl0]
                          simp) (HTZ.out.bl HBT.out))
                    have HCB := Lib.hid HC.out.bl
                    clear hrg hc HXW HY0W HFF hFh hFm hl0 HC hc0
                    go_wp2_with fail
                    refine HTB.out.mono ?_
                    rintro e wz ⟨v9, rfl, ho9, hb9⟩
                    have HO9 := Lib.hid ho9
                    have HB9 := Lib.hid hb9
                    clear ho9 hb9 HTB c1
                    go_wp2_with fail
                    have hds : ∀ D' ∈ Ds, wz.heap[D']? = some (.deferred (some [])) := fun D' hD' => by
                      have h1 := (HI.out.2.2 D' hD').2
                      have hlt := (Array.getElem?_eq_some_iff.1 h1).1
                      exact ((bl_trans HCB.out HB9.out).block D' hlt).trans h1
                    refine leaves_all Ds _ HI.out.2.1 hds fun W9 ht => ⟨_, results_tmp2 rfl _ _ _, ?_⟩
                    refine ⟨ht.below (bl_trans HBT.out HB9.out) (fun D' hD' => Nat.le_trans HB12.out.size (HI.out.2.2 D' hD').1), .inr ⟨HE3.out, v9, rfl, ?_⟩⟩
                    unfold cnT
                    rw [← HLE.out]
                    exact owns_base4 (ht.owns hds HO9.out) HBT.out.size
                  · intro x cc w9 cnt9 hwx hwc hlx hat hrg9 hlt9 hg9 hs9 hent
                    obtain ⟨y, rfl⟩ : ∃ y : Nat, x = (y : Int) := ⟨x.toNat, by simp [Lit.wf, IntKind.min, IntKind.max, IntKind.bits, IntKind.signed] at hwx; omega⟩
                    have hy : y < 18446744073709551616 := by simp [Lit.wf, IntKind.min, IntKind.max, IntKind.bits, IntKind.signed] at hwx; omega
                    obtain ⟨q, hq⟩ : ∃ q, q = vtC (fun q => setU (T q)) i y := ⟨_, rfl⟩
                    have hcc : cc = (q : Int) := by
                      have h1 := hat (.lit (.int .i64 0))
                      have h2 := HAT0.out y
                      unfold kU at h2
                      rw [h1] at h2
                      injection h2 with h2
                      injection h2 with _ h2
                      rw [h2, hq]
                    subst hcc
                    have HPC := Lib.hid (HPP.out q w9 (by have h1 := vtC_le (fun q => setU (T q)) i y; have h2 := HN16.out; omega) (bl_trans (bl_trans HB12.out HI.out.1.bl) (bl_grown HC.out.bl hg9 fun r e => by have h1 := Option.some.inj e; have h2 := HM2.out; omega)))
                    have HY : Hid (has D (kU y) = true) := has_true_of_atKey hat
                    have HLX := Lib.hid hlx
                    have HRG9 := Lib.hid hrg9
                    have HG9 := Lib.hid hg9
                    have HQE := Lib.hid hq
                    have HLT9 := Lib.hid hlt9
                    clear hrg hat hwc hwx hlx hrg9 hg9 hq hlt9
                    have hcall := fun args W => hen args W
                    go_wp2_with fail
                    refine HPC.out.mono ?_
                    rintro e w9b ⟨rfl, hw9b⟩
                    subst w9b
                    clear hcall HPC hent
                    have hW0 : W.heap.size = m2 := HM2.out.symm
                    cases hpq : p q
                    · have HNX := Lib.hid (HC.out.skip HG9.out HRG9.out HLT9.out (by omega) (by omega) (fun h => by rw [← HQE.out, hpq] at h; cases h))
                      clear hs9
                      go_wp2_with fail
                      exact Handed.intro cnt9 HLT9.out (hJ2 _ _ _ ⟨cnt9, ex_u trivial trivial ⟨_, _, _, rfl, HNX⟩ rfl⟩)
                    · have HNX := Lib.hid (HC.out.step (B := W'.heap.size) HG9.out HRG9.out HLT9.out (by omega) (by omega) (by rw [← HQE.out]; exact hpq) (by have h1 := HI.out.1.v.lt; omega) hy HY.out hs9.symm (by omega) (by have h1 := HC.out.le; have h2 := HSZD.out; have h3 := HN16.out; omega))
                      go_wp2_with fail
                      refine HNX.out.mono ?_
                      rintro e w11 ⟨rfl, hnx⟩
                      have HNX2 := Lib.hid hnx
                      clear hnx HNX hs9
                      go_wp2_with fail
                      exact Handed.intro cnt9 HLT9.out (hJ2 _ _ _ ⟨cnt9, ex_u trivial trivial ⟨_, _, _, rfl, HNX2⟩ rfl⟩)
          · have hE : cnE n T = 2 := by
              rw [HE2.out]
              unfold alE at q4 ⊢
              split at q4
              · exact absurd rfl q4
              · rename_i h; rw [if_neg h]
            have h4 : alE (T 0) n T = 2 := by rw [← HE2.out, hE]
            have HE4 := Lib.hid hE
            rw [h4]
            clear q4 HE2 HE1 h4 hE
            go_wp2_with fail
            have hE := HE4.out
            refine leaves_all [] _ List.nodup_nil (fun D h => by cases h) fun W' ht => ⟨_, results_tmp2 rfl _ _ _, ?_⟩
            refine ⟨ht.below HB12.out (fun D h => by cases h), .inl ⟨by rw [hE]; decide, by rw [hE]; rfl⟩⟩
end Go.Proofs.YtfgkjofdgohacaaGreatDoor
namespace Go.Proofs.YtfgkjofdgohacaaGreatDoor
open Go Go.RowKit Go.Shelf Go.Maps
theorem encR_one4 : ∀ x : Rw, ∀ u ∈ encR x, u.oneCell' = true := by
  intro x u hu
  simp only [encR, List.mem_cons, List.not_mem_nil, or_false] at hu
  subst hu; rfl
theorem info_RNd : (Tryz.prog.info? 22).map (fun i => (i.zero, i.size, i.bytes)) = some (some (.slice none 0 0), 1, 24) := by kernel_rfl
theorem owns_empty5 (W : World) {B : Nat} (hB : B ≤ W.heap.size) (e k : Nat) : (W.alloc (.cells #[] e)).ownsRow B e k (.slice (some ⟨W.heap.size, 0, none⟩) 0 0) 0 [] := by
  have := owns_made (w := W) (base := B) (e := e) (k := k) (n := 0) (cs := #[]) hB (by simp) (by omega)
  exact this
set_option maxHeartbeats 1000000 in
theorem cloneR_any (a : Option Addr) (n c : Nat) (l : List Rw) (w : World) (hn : l.length = n) (hN : n < 1048576) (hA : Rd w a (fl encR l)) (h0 : a = none → n = 0) :
    Calls Tryz.prog 53 #[.slice a n c] w fun e w' => ∃ v, e = .returned v ∧ w'.ownsRow w.heap.size 22 1 v n (fl encR l) ∧ Below w.heap.size w w' := by
  cases a with
  | none =>
    obtain rfl : n = 0 := h0 rfl
    have e : l = [] := List.eq_nil_of_length_eq_zero hn
    subst e
    have q29 : ∀ (w : World), (binOp .eql 28 (.slice none 0 c) (.slice none 0 0)).run Tryz.prog w = .ok (.bool true) w := fun w => Lib.run_eql_slice_nil w _ _ none 0 c 0 0 Tryz.underlying28
    go_enter Tryz.func53, Tryz.ntmps53
    go_wp2_with fail
    go_ret
    exact ⟨.slice none 0 0, rfl, World.ownsRow_nil _ _ _ _, Below.refl _ _⟩
  | some ad =>
    have HN := Lib.hid hn
    clear hn h0
    have q29 : ∀ (w : World) (n c : Nat), (binOp .eql 28 (.slice (some ad) n c) (.slice none 0 0)).run Tryz.prog w = .ok (.bool false) w := fun w n c => Lib.run_eql_slice_nil w _ _ (some ad) n c 0 0 Tryz.underlying28
    have HO := Lib.hid (owns_empty5 w (Nat.le_refl _) 22 1)
    have HA1 := Lib.hid (hA.bl (bl_alloc (Below.refl _ w) (.cells #[] 22)))
    have HB1 := Lib.hid (bl_alloc (Below.refl w.heap.size w) (.cells #[] 22))
    clear hA
    go_enter Tryz.func53, Tryz.ntmps53
    go_wp2_with (at_builtin; refine wpList_pushs (enc := encR) (k := 1) (bytes := 24) rfl encR_len (by decide) encR_one4 (base := w.heap.size) Tryz.underlying28 info_RNd rfl (.tmp 5) (.tmp 6) rfl (.slice (some ⟨w.heap.size, 0, none⟩) 0 0) ([] : List Rw) 0 rfl rfl HO.out (some ad) n c l HN.out.symm rfl HA1.out (fun e => by cases e) (by omega) (by decide) HB1.out.size ?_; intro v1 w2 hw1 hw2 hw3; rw [Nat.zero_add, List.nil_append] at hw1; have H1 := Lib.hid hw1; have HB2 := Lib.hid (HB1.out.grown hw2 HB1.out.size (fun r e => (HO.out.lt r e).1)); clear hw1 hw2 hw3)
    go_ret
    exact ⟨v1, rfl, H1.out, HB2.out⟩
end Go.Proofs.YtfgkjofdgohacaaGreatDoor
namespace Go.Proofs.YtfgkjofdgohacaaGreatDoor
open Go Go.RowKit Go.Shelf Go.Maps
theorem ints_made4 (n : Nat) : madeCells #[Value.int .i64 0] n = ofF n (fun _ => .int .i64 0) := by
  apply Array.ext
  · simp [madeCells, ofF]
  · intro i h1 h2
    simp [madeCells, ofF, Nat.mod_one]
/-- The trees and one more. -/
def snT (n : Nat) (T : Nat → List Nd) (t : List Nd) (i : Nat) : List Nd := if i < n then T i else t
theorem TrsIn.snoc {w : World} {a a' : Option Addr} {n d : Nat} {T : Nat → List Nd} {rs : List Rw} {b : Option Addr} {t : List Nd} (h : TrsIn w a n T rs) (hA : Rd w a' (fl encR (rs ++ [(b, t.length, d)]))) (ht : t.length ≤ 1152921504606846976) (hB : Rd w b (fl encNd t)) (hS : ∀ v, v < t.length → (nS t v).size ≤ 9223372036854775807) : TrsIn w a' (n + 1) (snT n T t) (rs ++ [(b, t.length, d)]) := by
  have hlt : ∀ {i}, i < n → (rs ++ [(b, t.length, d)]).getD i (none, 0, 0) = rs.getD i (none, 0, 0) := fun {i} hi => by
    rw [List.getD_eq_getElem?_getD, List.getD_eq_getElem?_getD, List.getElem?_append_left (by rw [h.len]; exact hi)]
  have heq : (rs ++ [(b, t.length, d)]).getD n (none, 0, 0) = (b, t.length, d) := by
    rw [List.getD_eq_getElem?_getD, List.getElem?_append_right (by rw [h.len]; omega), h.len]; simp
  refine ⟨by rw [List.length_append, h.len]; rfl, hA, fun i hi => ?_, fun i hi => ?_, fun i hi => ?_⟩
  · by_cases q : i < n
    · unfold rN snT
      rw [hlt q, if_pos q]
      exact h.tl i q
    · obtain rfl : i = n := by omega
      unfold rN snT
      rw [heq, if_neg q]
      exact ⟨rfl, ht⟩
  · by_cases q : i < n
    · unfold rA snT
      rw [hlt q, if_pos q]
      exact h.tr i q
    · obtain rfl : i = n := by omega
      unfold rA snT
      rw [heq, if_neg q]
      exact hB
  · unfold snT
    by_cases q : i < n
    · rw [if_pos q]; exact h.sz i q
    · rw [if_neg q]; exact hS
theorem owns_cap4 {w : World} {base e k n cap : Nat} {a : Option Addr} {cs : List Value} (h : w.ownsRow base e k (.slice a n cap) n cs) : n ≤ cap ∧ cap ≤ 9223372036854775807 := by
  rcases h.2 with ⟨hv, hn⟩ | ⟨g, cap', cur, hv, hg, hh, hn, hm, _⟩
  · cases hv; exact ⟨by omega, by omega⟩
  · cases hv; exact ⟨hn, by unfold maxLen at hm; omega⟩
/-- The numbers so far. -/
structure SuI (w5 : World) (R m : Nat) (f : Nat → Nat) (W : World) : Prop where
  bl : Below w5.heap.size w5 W
  row : Blk W R (ofF m fun q => .int .i64 ((f q : Nat) : Int)) 3
theorem SuI.below {w5 W W' : World} {R m : Nat} {f : Nat → Nat} (h : SuI w5 R m f W) (hb : Below W.heap.size W W') : SuI w5 R m f W' := ⟨bl_trans h.bl hb, h.row.below hb⟩
theorem SuI.put {w5 W : World} {R m k q : Nat} {f g : Nat → Nat} (h : SuI w5 R m f W) (hR : w5.heap.size ≤ R) (hg : ∀ i, i < m → g i = if i = k then q else f i) : SuI w5 R m g (W.setCell ⟨R, k, none⟩ (.int .i64 ((q : Nat) : Int))) := by
  refine ⟨bl_grown h.bl (gb_set (gb_refl W _) k _) (fun r e => by rw [← Option.some.inj e]; exact hR), ?_⟩
  have h1 := h.row.setF k (.int .i64 ((q : Nat) : Int))
  rwa [show (ofF m fun j => if j = k then Value.int .i64 ((q : Nat) : Int) else .int .i64 ((f j : Nat) : Int)) = ofF m fun j => .int .i64 ((g j : Nat) : Int) from ofF_congr fun j hj => by
    rw [hg j hj]
    by_cases e : j = k
    · rw [if_pos e, if_pos e]
    · rw [if_neg e, if_neg e]] at h1
/-- Support's error. -/
def suE (n : Nat) (T : Nat → List Nd) (t : List Nd) : Int := if 16 < n then 12 else if shE (n + 1) (snT n T t) ≠ 0 then shE (n + 1) (snT n T t) else alE t (n + 1) (snT n T t)
/-- Support's numbers. -/
def suV (n : Nat) (T : Nat → List Nd) (t : List Nd) (v : Nat) : Nat := vtC (fun i => setU (T i)) n (vA (ndsU t) v)
set_option maxRecDepth 100000 in
set_option maxHeartbeats 4000000 in
theorem support_any (a : Option Addr) (n c : Nat) (T : Nat → List Nd) (rs : List Rw) (b : Option Addr) (m d : Nat) (t : List Nd) (w : World) (hn : n < 1048575) (h : TrsIn w a n T rs) (ha : a = none → n = 0) (hm : t.length = m) (hm2 : m ≤ 1152921504606846976) (hB : Rd w b (fl encNd t)) (hS : ∀ v, v < m → (nS t v).size ≤ 9223372036854775807) :
    Calls Tryz.prog 18 #[.slice a n c, .slice b m d] w fun e w' => Below w.heap.size w w' ∧ (suE n T t ≠ 0 ∧ e = .returned (.tuple #[.slice none 0 0, .int .i64 (suE n T t)]) ∨ suE n T t = 0 ∧ ∃ R, e = .returned (.tuple #[.slice (some ⟨R, 0, none⟩) m m, .int .i64 0]) ∧ w.heap.size ≤ R ∧ Blk w' R (ofF m fun v => .int .i64 ((suV n T t v : Nat) : Int)) 3) := by
  subst hm
  have HTR := Lib.hid h
  have HBT := Lib.hid hB
  have HS := Lib.hid hS
  have HCL := Lib.hid (cloneR_any a n c rs w h.len (by omega) h.rd ha)
  clear h hB hS
  go_enter Tryz.func18, Tryz.ntmps18
  by_cases q1 : 16 < n
  · have hE : suE n T t = 12 := by unfold suE; rw [if_pos q1]
    have d1 : decide (16 < (n : Int)) = true := decide_eq_true (by omega)
    clear q1
    go_wp2_with fail
    go_ret2
    exact ⟨Below.refl _ _, .inl ⟨by rw [hE]; decide, by rw [hE]; rfl⟩⟩
  · have d1 : decide (16 < (n : Int)) = false := decide_eq_false (by omega)
    have HN16 : Hid (n ≤ 16) := by show _ ≤ _; omega
    have HE0 : Hid (suE n T t = if shE (n + 1) (snT n T t) ≠ 0 then shE (n + 1) (snT n T t) else alE t (n + 1) (snT n T t)) := by show _ = _; unfold suE; rw [if_neg q1]
    clear q1
    go_wp2_with fail
    refine HCL.out.mono ?_
    rintro e w1 ⟨v1, rfl, ho1, hb1⟩
    have HO1 := Lib.hid ho1
    have HB1 := Lib.hid hb1
    have HO1b := Lib.hid (ho1.alloc (.cells #[.slice b t.length d] 22))
    have HL1 : Hid (n = rs.length) := HTR.out.len.symm
    have HR1 : Hid (Rd (w1.alloc (.cells #[.slice b t.length d] 22)) (some ⟨w1.heap.size, 0, none⟩) (fl encR [((b, t.length, d) : Rw)])) := rd_of_blk4 (Blk.new w1 #[.slice b t.length d] 22)
    have HBA := Lib.hid (bl_trans hb1 (bl_alloc (Below.refl _ w1) (.cells #[.slice b t.length d] 22)))
    clear ho1 hb1 HCL
    go_wp2_with (at_builtin; refine wpList_pushs (enc := encR) (k := 1) (bytes := 24) rfl encR_len (by decide) encR_one4 (base := w.heap.size) Tryz.underlying28 info_RNd rfl (.tmp 20) (.tmp 22) rfl v1 rs n HL1.out rfl HO1b.out (some ⟨w1.heap.size, 0, none⟩) 1 1 [((b, t.length, d) : Rw)] rfl rfl HR1.out (fun e => by cases e) (by omega) (by decide) HBA.out.size ?_; intro v2 w2 hw1 hw2 hw3; have HO2 := Lib.hid hw1; have HB2 := Lib.hid (HBA.out.grown hw2 HBA.out.size (fun r e => (HO1b.out.lt r e).1)); clear hw1 hw2 hw3)
    obtain ⟨A2, c2, rfl⟩ := owns_sl HO2.out
    have HSH := Lib.hid (shapes_any A2 (n + 1) c2 (snT n T t) (rs ++ [(b, t.length, d)]) w2 (by omega) ((HTR.out.bl HB2.out).snoc (rd_of_owns HO2.out) hm2 (HBT.out.bl HB2.out) HS.out))
    refine HSH.out.mono ?_
    rintro e w3 ⟨hb3, ⟨hz, rfl⟩ | ⟨hz, A, c', xs, rfl, hxs⟩⟩
    · have d3 : (shE (n + 1) (snT n T t) == 0) = false := by rw [beq_eq_false_iff_ne]; exact hz
      have hE : suE n T t = shE (n + 1) (snT n T t) := by rw [HE0.out, if_pos hz]
      have HZ := Lib.hid hz
      have HB3 := Lib.hid hb3
      clear hz hb3 HSH
      go_wp2_with fail
      go_ret2
      exact ⟨bl_trans HB2.out HB3.out, .inl ⟨by rw [hE]; exact HZ.out, by rw [hE]; rfl⟩⟩
    · have HX3 := Lib.hid hxs
      have HB3 := Lib.hid (bl_trans HB2.out hb3)
      have HE1 : Hid (suE n T t = alE t (n + 1) (snT n T t)) := by show _ = _; rw [HE0.out, if_neg (by rw [hz]; decide)]
      have HOKS : Hid (∀ i, i < n + 1 → TreeOk (snT n T t i)) := fun i hi => by
        by_cases q : TreeOk (snT n T t i)
        · exact q
        · rw [shE_bad hi q] at hz; omega
      rw [hz]
      clear hz hb3 hxs HSH HE0
      have HTN : Hid (snT n T t n = t) := by show _ = _; unfold snT; rw [if_neg (by omega)]
      have HOKT : Hid (TreeOk t) := by have h := HOKS.out n (by omega); rw [HTN.out] at h; exact h
      have HY := Lib.hid (HX3.out.ok n (by omega))
      rw [HTN.out] at HY
      obtain ⟨bX, oX, rfl, _, hc⟩ := rdSh (rd_of_owns HX3.out.own) (by rw [HX3.out.len]; omega)
      obtain ⟨k1, k2, k3⟩ := hc n (by rw [HX3.out.len]; omega)
      clear hc
      generalize shA xs n = y at *
      obtain ⟨⟨xa, xn, xc⟩, ⟨ya, yn, yc⟩, xm⟩ := y
      obtain rfl : yn = _ := HY.out.n2
      have hl63 := lvT_le63 HOKT.out
      have hxn : xn ≤ 63 := by have h := HY.out.n1; dsimp only at h; omega
      simp only [slR] at k1 k2 k3
      go_upto_region 7 with fail
      obtain ⟨w4, hw4⟩ : ∃ y, y = w3.alloc (.cells #[.slice xa xn xc, .slice ya t.length yc, .map (some xm)] 69) := ⟨_, rfl⟩
      have HB4 : Hid (Below w3.heap.size w3 w4) := by
        show Below _ _ _
        rw [hw4]; exact bl_alloc (Below.refl _ _) _
      have HP4 : Hid (Blk w4 w3.heap.size #[.slice xa xn xc, .slice ya t.length yc, .map (some xm)] 69) := by
        show Blk _ _ _ _
        rw [hw4]; exact Blk.new w3 _ _
      rw [← hw4]
      obtain ⟨P8, hP8⟩ : ∃ y, y = w3.heap.size := ⟨_, rfl⟩
      rw [← hP8] at HP4 ⊢
      have HPE := Lib.hid hP8
      have HX4 := Lib.hid (HX3.out.bl HB4.out)
      have HY4 := Lib.hid (HY.out.bl HB4.out)
      have HAK := Lib.hid (alike_any ((xa, xn, xc), (ya, t.length, yc), xm) t (some ⟨bX, oX, none⟩) (n + 1) c' (snT n T t) xs w4 HOKT.out HOKS.out HY4.out.n1 HY4.out.rdn HX4.out.len (by omega) (rd_of_owns HX4.out.own) fun i hi => ⟨(HX4.out.ok i hi).n1, (HX4.out.ok i hi).rdn⟩)
      have p0 : w4.cell? ⟨P8, 0, none⟩ = some (.slice xa xn xc) := HP4.out.cell 0
      have p1 : w4.cell? ⟨P8, 1, none⟩ = some (.slice ya t.length yc) := HP4.out.cell 1
      have p2 : w4.cell? ⟨P8, 2, none⟩ = some (.map (some xm)) := HP4.out.cell 2
      clear hw4 hP8 k1 k2 k3 HY HX3
      go_wp2_with fail
      refine HAK.out.mono ?_
      rintro e w5 ⟨rfl, hb5⟩
      have HB5 := Lib.hid (bl_trans HB4.out hb5)
      have HB45 := Lib.hid hb5
      have HP5 := Lib.hid (HP4.out.below hb5)
      clear hb5 HAK p0 p1 p2
      by_cases q4 : alE t (n + 1) (snT n T t) = 0
      · have HE3 : Hid (suE n T t = 0) := HE1.out.trans q4
        rw [q4]
        clear q4 HE1
        obtain ⟨i0, hi0, hz0, hz1, hz2⟩ := info_parts info_I
        have hm63 : t.length ≤ 63 := HOKT.out.2.1
        have hmk := run_make (P := Tryz.prog) w5 30 3 i0 _ Tryz.underlying30 hi0 hz0 .i64 .i64 (t.length : Int) (t.length : Int) (by omega) (by omega) (by rw [hz2]; omega) (by omega)
        simp only [hz1, Int.toNat_natCast, Nat.mul_one] at hmk
        clear hi0 hz0 hz1 hz2
        go_upto_region 11 with fail
        obtain ⟨w6, hw6⟩ : ∃ y, y = w5.alloc (.cells (madeCells #[.int .i64 0] t.length) 3) := ⟨_, rfl⟩
        obtain ⟨R, hR⟩ : ∃ y, y = w5.heap.size := ⟨_, rfl⟩
        have HI6 : Hid (SuI w5 R t.length (fun _ => 0) w6) := by
          rw [hw6, hR]
          refine ⟨bl_alloc (Below.refl _ _) _, ?_⟩
          have h := Blk.new w5 (madeCells #[.int .i64 0] t.length) 3
          rw [ints_made4] at h
          rw [ints_made4]
          exact h
        have hmc : (Value.int .i64 0).cells = #[.int .i64 0] := rfl
        rw [← hw6, ← hR]
        have HRE := Lib.hid hR
        have HP6 := Lib.hid (HP5.out.below HI6.out.bl)
        have p1 : w6.cell? ⟨P8, 1, none⟩ = some (.slice ya t.length yc) := HP6.out.cell 1
        have hyn := HY4.out.nodes
        obtain ⟨bY, oY, hya, _, _⟩ := rdV (rd_of_owns hyn) (by show 0 < (ndsU t).length; unfold ndsU; rw [List.length_map, List.length_range]; exact HOKT.out.1)
        dsimp only at hya
        subst hya
        clear hw6 hR hmk hyn hmc
        go_wp2_with fail
        obtain ⟨m, hm⟩ : ∃ m, m = t.length := ⟨_, rfl⟩
        rw [← hm] at HI6 HP6 hm63 ⊢
        have HM := Lib.hid hm
        clear hm p1
        go_loopw [47] (fun x wr => ∃ k : Nat, k ≤ m ∧ x = .int .i64 k ∧ Hid (SuI w5 R m (fun q => if q < k then suV n T t q else 0) wr)) (fun x _ => m - (intOf x).toNat)
        case atStart => exact ⟨0, by omega, rfl, by have h := HI6.out; show SuI _ _ _ _ _; simpa using h⟩
        case round =>
          clear HI6
          obtain ⟨k, hk, rfl, HI⟩ := hrel
          by_cases hlt : k < m
          · have HB4W := Lib.hid (bl_trans HB45.out HI.out.bl)
            obtain ⟨bY', oY', e', _, hcv⟩ := rdV (rd_of_owns (HY4.out.bl HB4W.out).nodes) (by show 0 < (ndsU t).length; unfold ndsU; rw [List.length_map, List.length_range, ← HM.out]; omega)
            dsimp only at e'
            cases e'
            have v1' := hcv k (by show _ < (ndsU t).length; unfold ndsU; rw [List.length_map, List.length_range, ← HM.out]; omega)
            obtain ⟨x, hx⟩ : ∃ x, x = vA (ndsU t) k := ⟨_, rfl⟩
            rw [← hx] at v1'
            have HXE := Lib.hid hx
            have HI0 : Hid (SuI w5 R m (fun q => if q < k then suV n T t q else if q = k then vtC (fun i => setU (T i)) 0 x else 0) wr) := by
              refine ⟨HI.out.bl, ?_⟩
              have h := HI.out.row
              rwa [show (ofF m fun q => Value.int .i64 (((if q < k then suV n T t q else 0) : Nat) : Int)) = ofF m fun q => .int .i64 (((if q < k then suV n T t q else if q = k then vtC (fun i => setU (T i)) 0 x else 0) : Nat) : Int) from ofF_congr fun q hq => by
                by_cases e1 : q < k
                · rw [if_pos e1, if_pos e1]
                · rw [if_neg e1, if_neg e1, vtC_zero]
                  by_cases e2 : q = k
                  · rw [if_pos e2]
                  · rw [if_neg e2]] at h
            have hx64 : x < 18446744073709551616 := by
              have hk2 : k < (ndsU t).length := by unfold ndsU; rw [List.length_map, List.length_range, ← HM.out]; exact hlt
              have hme : x ∈ ndsU t := by
                rw [HXE.out]
                unfold vA
                rw [List.getD_eq_getElem?_getD, List.getElem?_eq_getElem hk2]
                exact List.getElem_mem hk2
              exact HY4.out.set.lt x (by unfold setU; rw [addL_mem]; exact .inr hme)
            obtain ⟨hcap1, hcap2⟩ := owns_cap4 (HX4.out.own)
            clear hcv hx HI
            go_wp2_with fail
            go_loopw [57] (fun y W => ∃ j : Nat, j ≤ n ∧ y = .int .i64 j ∧ Hid (SuI w5 R m (fun q => if q < k then suV n T t q else if q = k then vtC (fun i => setU (T i)) j x else 0) W)) (fun y _ => n - (intOf y).toNat)
            case atStart => exact ⟨0, by omega, rfl, HI0⟩
            case round =>
              clear HI0
              obtain ⟨j, hj, rfl, HJ⟩ := hrel
              by_cases hjn : j < n
              · have HXW := Lib.hid (HX4.out.bl (bl_trans HB45.out HJ.out.bl))
                obtain ⟨bX', oX', e', _, hc⟩ := rdSh (rd_of_owns HXW.out.own) (by rw [HXW.out.len]; omega)
                cases e'
                obtain ⟨k1, k2, k3⟩ := hc j (by rw [HXW.out.len]; omega)
                have HOKJ := Lib.hid (HXW.out.ok j (by omega))
                rw [show snT n T t j = T j from by unfold snT; rw [if_pos hjn]] at HOKJ
                clear hc
                generalize shA xs j = yj at *
                obtain ⟨⟨za, zn, zc⟩, ⟨va, vn, vc⟩, zm⟩ := yj
                simp only [slR] at k1 k2 k3
                have HB7 := Lib.hid (bl_alloc (Below.refl _ wr) (.cells #[.slice za zn zc, .slice va vn vc, .map (some zm)] 69))
                have HMU := Lib.hid (HOKJ.out.set.bl HB7.out)
                have HHS := Lib.hid (hasU_any zm 100 x (setU (T j)) (wr.alloc (.cells #[.slice za zn zc, .slice va vn vc, .map (some zm)] 69)) HMU.out hx64)
                have r2 : (wr.alloc (.cells #[.slice za zn zc, .slice va vn vc, .map (some zm)] 69)).cell? ⟨wr.heap.size, 2, none⟩ = some (.map (some zm)) := (Blk.new wr #[.slice za zn zc, .slice va vn vc, .map (some zm)] 69).cell 2
                have HJ8 := Lib.hid ((HJ.out.below HB7.out).below (bl_alloc (Below.refl _ _) (.cells #[] 128)))
                clear HXW HOKJ
                go_wp2_with fail
                refine HHS.out.mono ?_
                rintro e w8 ⟨rfl, hw8⟩
                rw [← hw8] at HJ8
                clear r2 HHS HMU HB7 k1 k2 k3 hw8
                have hrow := HJ8.out.row.getF k hlt
                rw [if_neg (by omega), if_pos rfl] at hrow
                have hfree := HJ8.out.row.free k
                have hvl := vtC_le (fun i => setU (T i)) j x
                have hvs := vtC_succ (fun i => setU (T i)) j x
                obtain ⟨q, hq⟩ : ∃ q, q = vtC (fun i => setU (T i)) j x := ⟨_, rfl⟩
                rw [← hq] at hrow hvl hvs
                have HQ := Lib.hid hq
                have HVS := Lib.hid hvs
                have hq16 : q ≤ 16 := by have := HN16.out; omega
                clear hq hvs
                by_cases hin : x ∈ setU (T j)
                · rw [decide_eq_true hin]
                  have HVS : Hid (vtC (fun i => setU (T i)) (j + 1) x = q + 1) := by
                    have h := HVS.out
                    rwa [if_pos hin] at h
                  clear hin
                  go_wp2_with fail
                  refine ⟨⟨j + 1, by omega, by go_num, ?_⟩, by simp [intOf]; omega⟩
                  have h := HJ8.out.put (k := k) (q := q + 1) (g := fun q => if q < k then suV n T t q else if q = k then vtC (fun i => setU (T i)) (j + 1) x else 0) (Nat.le_of_eq HRE.out.symm) (fun i hi => by
                    by_cases e : i = k
                    · subst e; rw [if_neg (by omega), if_pos rfl, if_pos rfl, HVS.out]
                    · rw [if_neg e, if_neg e, if_neg e])
                  rw [show ((q + 1 : Nat) : Int) = (q : Int) + 1 from by push_cast; rfl] at h
                  exact h
                · rw [decide_eq_false hin]
                  have HVS : Hid (vtC (fun i => setU (T i)) (j + 1) x = q) := by
                    have h := HVS.out
                    rwa [if_neg hin] at h
                  clear hin
                  go_wp2_with fail
                  refine ⟨⟨j + 1, by omega, by go_num, ?_⟩, by simp [intOf]; omega⟩
                  rw [HVS.out.trans HQ.out]
                  exact HJ8.out
              · obtain rfl : j = n := by omega
                go_wp2_with fail
                refine ⟨⟨k + 1, by omega, by go_num, ?_⟩, by simp [intOf]; omega⟩
                refine ⟨HJ.out.bl, ?_⟩
                have h := HJ.out.row
                rwa [show (ofF m fun q => Value.int .i64 (((if q < k then suV j T t q else if q = k then vtC (fun i => setU (T i)) j x else 0) : Nat) : Int)) = ofF m fun q => .int .i64 (((if q < k + 1 then suV j T t q else 0) : Nat) : Int) from ofF_congr fun q hq => by
                  by_cases e1 : q < k
                  · rw [if_pos e1, if_pos (by omega)]
                  · rw [if_neg e1]
                    by_cases e2 : q = k
                    · rw [if_pos e2, if_pos (by omega), e2, HXE.out]; rfl
                    · rw [if_neg e2, if_neg (by omega)]] at h
          · obtain rfl : k = m := by omega
            go_wp2_with fail
            go_ret2
            refine ⟨bl_trans (bl_trans HB3.out HB5.out) HI.out.bl, .inr ⟨HE3.out, R, (by first | rfl | (rw [← HM.out]; rfl)), ?_, ?_⟩⟩
            · have h1 := HRE.out
              have h2 := (bl_trans HB3.out HB5.out).size
              omega
            · have h := HI.out.row
              rw [show (ofF k fun q => Value.int .i64 (((if q < k then suV n T t q else 0) : Nat) : Int)) = ofF k fun v => .int .i64 ((suV n T t v : Nat) : Int) from ofF_congr fun q hq => by rw [if_pos hq]] at h
              first | exact h | (rw [← HM.out]; exact h)
      · have hE : suE n T t = 2 := by
          rw [HE1.out]
          unfold alE at q4 ⊢
          split at q4
          · exact absurd rfl q4
          · rename_i h; rw [if_neg h]
        have h4 : alE t (n + 1) (snT n T t) = 2 := by rw [← HE1.out, hE]
        have HE4 := Lib.hid hE
        rw [h4]
        clear q4 HE1 h4 hE
        go_wp2_with fail
        go_ret2
        have hE := HE4.out
        exact ⟨bl_trans HB3.out HB5.out, .inl ⟨by rw [hE]; decide, by rw [hE]; rfl⟩⟩
end Go.Proofs.YtfgkjofdgohacaaGreatDoor
namespace Go.Proofs.YtfgkjofdgohacaaGreatDoor
open Go Go.RowKit Go.Shelf Go.Maps
theorem smN_lt {f : Nat → Nat} {b : Nat} : ∀ n, (∀ i, i < n → f i ≤ b) → smN f n ≤ n * b
  | 0, _ => by simp [smN]
  | n + 1, h => by
    have h1 := smN_lt n fun i hi => h i (by omega)
    have h2 := h n (by omega)
    show smN f n + f n ≤ _
    rw [Nat.add_mul]; omega
def tf2 (A B : List Nat) (q r : Nat) : Nat := smN (tri1 A B r q) r
def tf1 (A B : List Nat) (q : Nat) : Nat := smN (tf2 A B q) q
theorem tri1_le (A B : List Nat) (r q s : Nat) : tri1 A B r q s ≤ 1 := by unfold tri1; split <;> omega
theorem tf2_le (A B : List Nat) (q : Nat) {r : Nat} (hr : r ≤ 63) : tf2 A B q r ≤ 63 := by
  have h := smN_lt (f := tri1 A B r q) r fun i _ => tri1_le A B r q i
  unfold tf2; omega
theorem tf1_le (A B : List Nat) {q : Nat} (hq : q ≤ 63) : tf1 A B q ≤ 3969 := by
  have h := smN_lt (f := tf2 A B q) q fun i hi => tf2_le A B q (by omega)
  have h2 : q * 63 ≤ 63 * 63 := Nat.mul_le_mul_right _ hq
  unfold tf1; omega
theorem tf_bd (A B : List Nat) {q r s : Nat} (hq : q ≤ 63) (hr : r ≤ 63) (hs : s ≤ 63) : smN (tf1 A B) q ≤ 250047 ∧ smN (tf2 A B q) r ≤ 3969 ∧ smN (tri1 A B r q) s ≤ 63 := by
  have h1 := smN_lt (f := tf1 A B) q fun i hi => tf1_le A B (by omega)
  have h2 := smN_lt (f := tf2 A B q) r fun i hi => tf2_le A B q (by omega)
  have h3 := smN_lt (f := tri1 A B r q) s fun i _ => tri1_le A B r q i
  have h4 : q * 3969 ≤ 63 * 3969 := Nat.mul_le_mul_right _ hq
  have h5 : r * 63 ≤ 63 * 63 := Nat.mul_le_mul_right _ hr
  omega
theorem tri_tf (A B : List Nat) (L : Nat) : triN A B L = smN (tf1 A B) L := rfl
/-- What Triples returns. -/
def triV (s t : List Nd) : Int := if twoE s t = 0 then (triN (clsL s) (clsL t) (lvT s).length : Nat) else 0
theorem triV_bad {s t : List Nd} (h : twoE s t ≠ 0) : triV s t = 0 := if_neg h
theorem triV_ok {s t : List Nd} (h : twoE s t = 0) : triV s t = (triN (clsL s) (clsL t) (lvT s).length : Nat) := if_pos h
set_option maxRecDepth 100000 in
set_option maxHeartbeats 4000000 in
theorem triples_any (a b : Option Addr) (n c m d : Nat) (s t : List Nd) (w : World) (hn : s.length = n) (hm : t.length = m) (hN : n ≤ 1152921504606846976) (hM : m ≤ 1152921504606846976) (hA : Rd w a (fl encNd s)) (hB : Rd w b (fl encNd t)) (hS : ∀ v, v < n → (nS s v).size ≤ 9223372036854775807) (hT : ∀ v, v < m → (nS t v).size ≤ 9223372036854775807) :
    Calls Tryz.prog 15 #[.slice a n c, .slice b m d] w fun e w' => e = .returned (.tuple #[.int .i64 (triV s t), .int .i64 (twoE s t)]) ∧ Below w.heap.size w w' := by
  have HC := Lib.hid (both_any a b n c m d s t w hn hm hN hM hA hB hS hT)
  clear hn hm hN hM hA hB hS hT
  by_cases hE : twoE s t = 0
  · have HV := Lib.hid (triV_ok hE)
    have HE := Lib.hid hE
    clear hE
    go_enter Tryz.func15, Tryz.ntmps15
    go_upto_region 4 with first | fail | (go_at_call 45; refine HC.out.mono ?_; rintro e w2 ⟨hb2, ⟨h, _⟩ | ⟨hk1, hk2, hnm, he0, ⟨⟨xa, xn, xc⟩, ⟨ya, yn, yc⟩, xm⟩, ⟨⟨za, zn, zc⟩, ⟨va, vn, vc⟩, zm⟩, rfl, hx, hy⟩⟩; exact absurd HE.out h; have HB2 := Lib.hid hb2; have HX := Lib.hid hx; have HY := Lib.hid hy; have HK1 := Lib.hid hk1; have HK2 := Lib.hid hk2; have HNM := Lib.hid hnm; rw [show (encSh ((xa, xn, xc), (ya, yn, yc), xm)).toArray = #[.slice xa xn xc, .slice ya yn yc, .map (some xm)] from rfl, show (encSh ((za, zn, zc), (va, vn, vc), zm)).toArray = #[.slice za zn zc, .slice va vn vc, .map (some zm)] from rfl]; rw [HE.out]; clear hb2 hx hy hk1 hk2 hnm he0)
    obtain ⟨w4, hw4⟩ : ∃ x, x = ((w2.alloc (.cells #[.slice xa xn xc, .slice ya yn yc, .map (some xm)] 69)).alloc (.cells #[.slice za zn zc, .slice va vn vc, .map (some zm)] 69)) := ⟨_, rfl⟩
    have HB4 : Hid (Below w2.heap.size w2 w4) := by
      show Below _ _ _
      rw [hw4]; exact bl_alloc (bl_alloc (Below.refl _ _) _) _
    have HX4 : Hid (Blk w4 w2.heap.size #[.slice xa xn xc, .slice ya yn yc, .map (some xm)] 69) := by
      show Blk _ _ _ _
      rw [hw4]; exact (Blk.new w2 _ _).alloc _
    have HY4 : Hid (Blk w4 (w2.heap.size + 1) #[.slice za zn zc, .slice va vn vc, .map (some zm)] 69) := by
      show Blk _ _ _ _
      rw [hw4]; exact Blk.new2 w2 _ _ _
    rw [← hw4]
    clear hw4
    obtain ⟨P1, hP1⟩ : ∃ x, x = w2.heap.size := ⟨_, rfl⟩
    rw [← hP1] at HX4 HY4 ⊢
    have HPE := Lib.hid hP1
    clear hP1
    have HSX := Lib.hid (HX.out.bl HB4.out)
    have HSY := Lib.hid (HY.out.bl HB4.out)
    have HJX := Lib.hid (fun W (hb : Below w4.heap.size w4 W) => joined_any _ s _ W HK1.out (HSX.out.bl hb))
    have HJY := Lib.hid (fun W (hb : Below w4.heap.size w4 W) => joined_any _ t _ W HK2.out (HSY.out.bl hb))
    have x0 : w4.cell? ⟨P1, 0, none⟩ = some (.slice xa xn xc) := HX4.out.cell 0
    have x1 : w4.cell? ⟨P1, 1, none⟩ = some (.slice ya yn yc) := HX4.out.cell 1
    have x2 : w4.cell? ⟨P1, 2, none⟩ = some (.map (some xm)) := HX4.out.cell 2
    have y0 : w4.cell? ⟨P1 + 1, 0, none⟩ = some (.slice za zn zc) := HY4.out.cell 0
    have y1 : w4.cell? ⟨P1 + 1, 1, none⟩ = some (.slice va vn vc) := HY4.out.cell 1
    have y2 : w4.cell? ⟨P1 + 1, 2, none⟩ = some (.map (some zm)) := HY4.out.cell 2
    have HALL : Hid (∀ W, Below w4.heap.size w4 W → W.cell? ⟨P1, 0, none⟩ = some (.slice xa xn xc) ∧ W.cell? ⟨P1, 1, none⟩ = some (.slice ya yn yc) ∧ W.cell? ⟨P1, 2, none⟩ = some (.map (some xm)) ∧ W.cell? ⟨P1 + 1, 0, none⟩ = some (.slice za zn zc) ∧ W.cell? ⟨P1 + 1, 1, none⟩ = some (.slice va vn vc) ∧ W.cell? ⟨P1 + 1, 2, none⟩ = some (.map (some zm))) := fun W hb =>
      ⟨(HX4.out.below hb).cell 0, (HX4.out.below hb).cell 1, (HX4.out.below hb).cell 2, (HY4.out.below hb).cell 0, (HY4.out.below hb).cell 1, (HY4.out.below hb).cell 2⟩
    refine wp_region_order (S := fun W => W.cell? ⟨P1, 0, none⟩ = some (.slice xa xn xc) ∧ W.cell? ⟨P1, 1, none⟩ = some (.slice ya yn yc) ∧ W.cell? ⟨P1, 2, none⟩ = some (.map (some xm)) ∧ W.cell? ⟨P1 + 1, 0, none⟩ = some (.slice za zn zc) ∧ W.cell? ⟨P1 + 1, 1, none⟩ = some (.slice va vn vc) ∧ W.cell? ⟨P1 + 1, 2, none⟩ = some (.map (some zm))) 4 [0,2] [1,3] (by kernel_rfl) (by kernel_rfl) ⟨x0, x1, x2, y0, y1, y2⟩ ?_
    clear x0 x1 x2 y0 y1 y2
    iterate 2 (refine headT_cons (by rfl) (by rfl) (by intro w hSw; obtain ⟨s0, s1, s2, s3, s4, s5⟩ := hSw; go_simp; try rfl) ?_; simp only [Act.put, List.setIfInBounds_toArray, List.set_cons_zero, List.set_cons_succ])
    refine headT_nil ?_
    refine midT_cons (by rfl) (fun K hK => ?_)
    rw [if_pos (by rfl)]
    go_simp
    refine (HJX.out _ (bl_drewN (Below.refl _ _) 1)).mono ?_
    rintro e w5 ⟨A1, c1, rs1, rfl, hj1, hb5⟩
    have HB5 : Hid (Below w4.heap.size w4 w5) := bl_trans (bl_drewN (Below.refl _ _) 1) hb5
    have HJ1 := Lib.hid hj1
    refine hK.out _ _ (HALL.out _ HB5.out) (fun _ => ?_)
    clear hK K hj1 hb5
    try simp only [Act.put, List.setIfInBounds_toArray, List.set_cons_zero, List.set_cons_succ]
    refine midT_cons (by rfl) (fun K hK => ?_)
    rw [if_pos (by rfl)]
    go_simp
    refine (HJY.out _ HB5.out).mono ?_
    rintro e w6 ⟨A2, c2, rs2, rfl, hj2, hb6⟩
    have HB6 : Hid (Below w4.heap.size w4 w6) := bl_trans HB5.out hb6
    have HJ1 := Lib.hid (HJ1.out.bl hb6)
    have HJ2 := Lib.hid hj2
    refine hK.out _ _ (HALL.out _ HB6.out) (fun _ => ?_)
    clear hK K hj2 hb6
    try simp only [Act.put, List.setIfInBounds_toArray, List.set_cons_zero, List.set_cons_succ]
    refine midT_nil ?_
    simp only [List.drop_succ_cons, List.drop_zero]
    go_wp2_with fail
    refine NoPanic.normal ?_
    have hxl : xn = (lvT s).length := HX.out.n1
    have hzl : zn = (lvT t).length := HY.out.n1
    have hlz : (lvT t).length = (lvT s).length := by
      have h1 := congrArg List.length HNM.out
      rw [nmsL_len, nmsL_len] at h1
      exact h1.symm
    have hl63 := lvT_le63 HK1.out
    rw [hlz] at HJ2
    have HH1 := Lib.hid (cls_hier rfl HK1.out)
    have HH2 : Hid (Hier (lvT s).length (clsL t)) := by
      have h := cls_hier rfl HK2.out
      rw [hlz] at h
      exact h
    rw [hlz]
    obtain ⟨L, hL⟩ : ∃ L, L = (lvT s).length := ⟨_, rfl⟩
    have hxn : L = xn := hL.trans hxl.symm
    rw [← hL] at hl63 HJ1 HJ2 HH1 HH2 HV
    rw [← hL]
    clear hxl hzl hlz hL
    subst hxn
    have x0 : w6.cell? ⟨P1, 0, none⟩ = some (.slice xa L xc) := (HALL.out _ HB6.out).1
    obtain ⟨A, hAe⟩ : ∃ A, A = clsL s := ⟨_, rfl⟩
    obtain ⟨B, hBe⟩ : ∃ B, B = clsL t := ⟨_, rfl⟩
    rw [← hAe] at HJ1 HH1 HV
    rw [← hBe] at HJ2 HH2 HV
    have HLT1 : Hid (∀ i k, jnS i k A < 18446744073709551616) := fun i k => jnS_lt i k (by omega) _ fun x hx => HH1.out.b64 (by omega) hx
    have HLT2 : Hid (∀ i k, jnS i k B < 18446744073709551616) := fun i k => jnS_lt i k (by omega) _ fun x hx => HH2.out.b64 (by omega) hx
    clear hAe hBe
    have HBB := Lib.hid (bl_trans (bl_trans HB2.out HB4.out) HB6.out)
    have HC6 := Lib.hid (Below.refl w6.heap.size w6)
    clear HB2 HB4 HX4 HY4 HPE HSX HSY HJX HJY HALL HB5 HB6 HX HY HC HNM
    go_wp2_with fail
    go_loopw [33, 11] (fun x y wr => ∃ q : Nat, q ≤ L ∧ x = .int .i64 q ∧ y = .int .i64 (smN (tf1 A B) q : Nat) ∧ Hid (Below w6.heap.size w6 wr)) (fun x _ _ => L - (intOf x).toNat)
    case atStart => exact ⟨0, by omega, rfl, rfl, HC6⟩
    case round =>
      clear HC6 x0
      obtain ⟨q, hq, rfl, rfl, HB⟩ := hrel
      by_cases hlt : q < L
      · have BD := Lib.hid (fun r s (hr : r ≤ 63) (hs : s ≤ 63) => tf_bd A B (q := q) (r := r) (s := s) (by omega) hr hs)
        have HNQ : Hid (smN (tf1 A B) (q + 1) = smN (tf1 A B) q + smN (tf2 A B q) q) := rfl
        obtain ⟨T, hT⟩ : ∃ T, T = smN (tf1 A B) q := ⟨_, rfl⟩
        rw [← hT] at BD HNQ ⊢
        clear hT
        have hTb := (BD.out 0 0 (by omega) (by omega)).1
        go_wp2_with fail
        go_loopw [37, 11] (fun x y wr => ∃ r : Nat, r ≤ q ∧ x = .int .i64 r ∧ y = .int .i64 (T + smN (tf2 A B q) r : Nat) ∧ Hid (Below w6.heap.size w6 wr)) (fun x _ _ => q - (intOf x).toNat)
        case atStart => exact ⟨0, by omega, rfl, rfl, HB⟩
        case round =>
          clear HB
          obtain ⟨r, hr, rfl, rfl, HB⟩ := hrel
          by_cases hlr : r < q
          · have HNR : Hid (smN (tf2 A B q) (r + 1) = smN (tf2 A B q) r + smN (tri1 A B r q) r) := rfl
            have BD2 := Lib.hid (fun s (hs : s ≤ 63) => (BD.out r s (by omega) hs).2.2)
            have hVb := (BD.out r 0 (by omega) (by omega)).2.1
            obtain ⟨V, hV⟩ : ∃ V, V = smN (tf2 A B q) r := ⟨_, rfl⟩
            rw [← hV] at HNR hVb ⊢
            clear hV
            go_wp2_with fail
            go_loopw [41, 11] (fun x y wr => ∃ s : Nat, s ≤ r ∧ x = .int .i64 s ∧ y = .int .i64 (T + V + smN (tri1 A B r q) s : Nat) ∧ Hid (Below w6.heap.size w6 wr)) (fun x _ _ => r - (intOf x).toNat)
            case atStart => exact ⟨0, by omega, rfl, rfl, HB⟩
            case round =>
              clear HB
              obtain ⟨p, hp, rfl, rfl, HB⟩ := hrel
              by_cases hlp : p < r
              · have HNP : Hid (smN (tri1 A B r q) (p + 1) = smN (tri1 A B r q) p + tri1 A B r q p) := rfl
                have hUb := BD2.out p (by omega)
                obtain ⟨U, hU⟩ : ∃ U, U = smN (tri1 A B r q) p := ⟨_, rfl⟩
                rw [← hU] at HNP hUb ⊢
                clear hU
                have e1 := HH1.out.apJ (by omega) hlt (show r < L by omega) (show p < L by omega)
                have e2 := HH2.out.apJ (by omega) hlt (show r < L by omega) (show p < L by omega)
                have HAP1 := Lib.hid (fun W (hb : Below w6.heap.size w6 W) => apart_any A1 L c1 q r p (fun i k => jnS i k A) rs1 W hlt (by omega) (by omega) hl63 (HLT1.out) (HJ1.out.bl hb))
                have HAP2 := Lib.hid (fun W (hb : Below w6.heap.size w6 W) => apart_any A2 L c2 q r p (fun i k => jnS i k B) rs2 W hlt (by omega) (by omega) hl63 (HLT2.out) (HJ2.out.bl hb))
                rw [e1] at HAP1
                rw [e2] at HAP2
                have hd := difT_ap HH1.out HH2.out q r p
                have HT1 : Hid (tri1 A B r q p = if decide (apN A q r p = apN B q r p) = true then 0 else 1) := by
                  show _ = _
                  unfold tri1
                  rw [hd]
                  cases difT A B p r q <;> rfl
                clear hd e1 e2
                go_upto_region 16 with fail
                obtain ⟨w7, hw7⟩ : ∃ y, y = wr.alloc (.cells #[.int .i64 q, .int .i64 r, .int .i64 p] 74) := ⟨_, rfl⟩
                have HB7 : Hid (Below w6.heap.size w6 w7) := by
                  show Below _ _ _
                  rw [hw7]; exact bl_alloc HB.out _
                have HL7 : Hid (Blk w7 wr.heap.size #[.int .i64 q, .int .i64 r, .int .i64 p] 74) := by
                  show Blk _ _ _ _
                  rw [hw7]; exact Blk.new wr _ _
                rw [← hw7]
                clear hw7
                obtain ⟨Z, hZ⟩ : ∃ y, y = wr.heap.size := ⟨_, rfl⟩
                rw [← hZ] at HL7 ⊢
                clear hZ
                have l0 : w7.cell? ⟨Z, 0, none⟩ = some (.int .i64 q) := HL7.out.cell 0
                have l1 : w7.cell? ⟨Z, 1, none⟩ = some (.int .i64 r) := HL7.out.cell 1
                have l2 : w7.cell? ⟨Z, 2, none⟩ = some (.int .i64 p) := HL7.out.cell 2
                refine wp_region_order (S := fun W => W.cell? ⟨Z, 0, none⟩ = some (.int .i64 q) ∧ W.cell? ⟨Z, 1, none⟩ = some (.int .i64 r) ∧ W.cell? ⟨Z, 2, none⟩ = some (.int .i64 p)) 6 [0,1,3,4] [2,5] (by kernel_rfl) (by kernel_rfl) ⟨l0, l1, l2⟩ ?_
                clear l0 l1 l2
                iterate 4 (refine headT_cons (by rfl) (by rfl) (by intro w hSw; obtain ⟨s0, s1, s2⟩ := hSw; go_simp; try rfl) ?_; simp only [Act.put, List.setIfInBounds_toArray, List.set_cons_zero, List.set_cons_succ])
                refine headT_nil ?_
                refine midT_cons (by rfl) (fun K hK => ?_)
                rw [if_pos (by rfl)]
                go_simp
                refine (HAP1.out _ (bl_drewN HB7.out 1)).mono ?_
                rintro e w8 ⟨rfl, hb8⟩
                have HB8 : Hid (Below w7.heap.size w7 w8) := bl_trans (bl_drewN (Below.refl _ _) 1) hb8
                refine hK.out _ _ ⟨(HL7.out.below HB8.out).cell 0, (HL7.out.below HB8.out).cell 1, (HL7.out.below HB8.out).cell 2⟩ (fun _ => ?_)
                clear hK K hb8
                try simp only [Act.put, List.setIfInBounds_toArray, List.set_cons_zero, List.set_cons_succ]
                refine midT_cons (by rfl) (fun K hK => ?_)
                rw [if_pos (by rfl)]
                go_simp
                refine (HAP2.out _ (bl_trans HB7.out HB8.out)).mono ?_
                rintro e w9 ⟨rfl, hb9⟩
                have HB9 : Hid (Below w7.heap.size w7 w9) := bl_trans HB8.out hb9
                refine hK.out _ _ ⟨(HL7.out.below HB9.out).cell 0, (HL7.out.below HB9.out).cell 1, (HL7.out.below HB9.out).cell 2⟩ (fun _ => ?_)
                clear hK K hb9
                try simp only [Act.put, List.setIfInBounds_toArray, List.set_cons_zero, List.set_cons_succ]
                refine midT_nil ?_
                simp only [List.drop_succ_cons, List.drop_zero]
                have HBZ := Lib.hid (bl_trans HB7.out HB9.out)
                generalize apN A q r p = g1 at *
                generalize apN B q r p = g2 at *
                by_cases hg : g1 = g2
                · have t1 : (g1 == g2) = true := by simp [hg]
                  have t2 : (g1 != g2) = false := by simp [hg]
                  rw [if_pos (decide_eq_true hg)] at HT1
                  clear hg
                  go_wp2_with fail
                  refine NoPanic.normal ?_
                  go_wp2_with fail
                  exact ⟨⟨p + 1, by omega, by go_num, by rw [HNP.out, HT1.out, Nat.add_zero]; simp, HBZ⟩, by simp [intOf]; omega⟩
                · have t1 : (g1 == g2) = false := by simp [hg]
                  have t2 : (g1 != g2) = true := by simp [hg]
                  rw [if_neg (by simpa using hg)] at HT1
                  clear hg
                  go_wp2_with fail
                  refine NoPanic.normal ?_
                  go_wp2_with fail
                  exact ⟨⟨p + 1, by omega, by go_num, by rw [HNP.out, HT1.out]; congr 1, HBZ⟩, by simp [intOf]; omega⟩
              · obtain rfl : p = r := by omega
                go_wp2_with fail
                exact ⟨⟨p + 1, by omega, by go_num, by rw [HNR.out, Nat.add_assoc], HB⟩, by simp [intOf]; omega⟩
          · obtain rfl : r = q := by omega
            go_wp2_with fail
            exact ⟨⟨r + 1, by omega, by go_num, by rw [HNQ.out], HB⟩, by simp [intOf]; omega⟩
      · obtain rfl : q = L := by omega
        go_wp2_with fail
        go_ret2
        exact ⟨by rw [HV.out, HE.out]; rfl, bl_trans HBB.out HB.out⟩
  · have HV := Lib.hid (triV_bad hE)
    have HE := Lib.hid hE
    go_enter Tryz.func15, Tryz.ntmps15
    go_wp2_with (go_at_call 45; refine HC.out.mono ?_; rintro e w2 ⟨hb2, ⟨h, rfl⟩ | ⟨_, _, _, h, _⟩⟩; rotate_left; exact absurd h HE.out; have HB2 := Lib.hid hb2; clear hb2 hE; rw [show shV none = .agg #[.slice none 0 0, .slice none 0 0, .map none] from rfl]; obtain ⟨ee, hee⟩ : ∃ x, x = twoE s t := ⟨_, rfl⟩; rw [← hee] at HE h ⊢; have HEE := Lib.hid hee; clear hee)
    go_ret2
    exact ⟨by rw [HV.out, ← HEE.out]; rfl, bl_alloc (bl_alloc HB2.out _) _⟩
end Go.Proofs.YtfgkjofdgohacaaGreatDoor
namespace Go.Proofs.YtfgkjofdgohacaaGreatDoor
open Go Go.RowKit Go.Shelf Go.Maps
/-- What a consensus answers. -/
def CnPost (n : Nat) (T : Nat → List Nd) (F : List Nat) (w : World) (e : Ending) (w' : World) : Prop :=
  Below w.heap.size w w' ∧ (cnE n T ≠ 0 ∧ e = .returned (.tuple #[.slice none 0 0, .int .i64 (cnE n T)]) ∨ cnE n T = 0 ∧ ∃ v, e = .returned (.tuple #[v, .int .i64 0]) ∧ w'.ownsRow w.heap.size 56 2 v (cnT F (T 0)).length (fl encNd (cnT F (T 0))))
/-- The family that has won. -/
def cnH (n : Nat) (T : Nat → List Nd) (p : Nat → Bool) (F : List Nat) : Prop :=
  cnE n T = 0 → Hier (lvT (T 0)).length F ∧ ∀ x, x ∈ F ↔ (x = 2 ^ (lvT (T 0)).length - 1 ∨ (∃ k, k < (lvT (T 0)).length ∧ x = 2 ^ k) ∨ (vtC (fun i => setU (T i)) n x ≠ 0 ∧ p (vtC (fun i => setU (T i)) n x) = true))
set_option maxRecDepth 100000 in
set_option maxHeartbeats 2000000 in
theorem strict_any (a : Option Addr) (n c : Nat) (T : Nat → List Nd) (rs : List Rw) (F : List Nat) (w : World) (hn : n ≤ 1048575) (h : TrsIn w a n T rs) (hF : cnH n T (fun k => decide (k = n)) F) (hT : TzG w) :
    Calls Tryz.prog 21 #[.slice a n c] w (CnPost n T F w) := by
  obtain ⟨w1, hw1⟩ : ∃ y, y = w.alloc (.cells #[.slice a n c] 28) := ⟨_, rfl⟩
  have HB1 : Hid (Below w.heap.size w w1) := by
    show Below _ _ _
    rw [hw1]; exact bl_alloc (Below.refl _ _) _
  have HX1 : Hid (Blk w1 w.heap.size #[.slice a n c] 28) := by
    show Blk _ _ _ _
    rw [hw1]; exact Blk.new _ _ _
  have c0 : w1.cell? ⟨w.heap.size, 0, none⟩ = some (.slice a n c) := HX1.out.cell 0
  have HC := Lib.hid (consensus_any a n c T rs 61 w.heap.size (fun k => decide (k = n)) F w1 hn (h.bl HB1.out) (enters_of Tryz.func61 (by kernel_rfl) rfl) (fun k W hk hW => strict1_any w.heap.size a n c k W ((hW.cell (p := ⟨w.heap.size, 0, none⟩) HX1.out.lt).trans c0)) hF (hT.bl HB1.out))
  clear h hF hT
  go_enter Tryz.func21, Tryz.ntmps21
  go_upto_region 1 with fail
  rw [← hw1]
  clear hw1
  go_wp2_with fail
  refine HC.out.mono ?_
  rintro e w2 ⟨hb, ⟨hz, rfl⟩ | ⟨hz, v, rfl, ho⟩⟩
  · have HZ := Lib.hid hz
    have HB := Lib.hid hb
    clear hz hb c0
    go_wp2_with fail
    go_ret2
    exact ⟨bl_trans HB1.out HB.out, .inl ⟨HZ.out, rfl⟩⟩
  · have HZ := Lib.hid hz
    have HB := Lib.hid hb
    have HO := Lib.hid ho
    clear hz hb ho c0
    go_wp2_with fail
    go_ret2
    exact ⟨bl_trans HB1.out HB.out, .inr ⟨HZ.out, v, rfl, owns_base4 HO.out HB1.out.size⟩⟩
set_option maxRecDepth 100000 in
set_option maxHeartbeats 2000000 in
theorem majority_any (a : Option Addr) (n c : Nat) (T : Nat → List Nd) (rs : List Rw) (F : List Nat) (w : World) (hn : n ≤ 1048575) (h : TrsIn w a n T rs) (hF : cnH n T (fun k => decide (n < 2 * k)) F) (hT : TzG w) :
    Calls Tryz.prog 23 #[.slice a n c] w (CnPost n T F w) := by
  obtain ⟨w1, hw1⟩ : ∃ y, y = w.alloc (.cells #[.slice a n c] 28) := ⟨_, rfl⟩
  have HB1 : Hid (Below w.heap.size w w1) := by
    show Below _ _ _
    rw [hw1]; exact bl_alloc (Below.refl _ _) _
  have HX1 : Hid (Blk w1 w.heap.size #[.slice a n c] 28) := by
    show Blk _ _ _ _
    rw [hw1]; exact Blk.new _ _ _
  have c0 : w1.cell? ⟨w.heap.size, 0, none⟩ = some (.slice a n c) := HX1.out.cell 0
  have HC := Lib.hid (consensus_any a n c T rs 63 w.heap.size (fun k => decide (n < 2 * k)) F w1 hn (h.bl HB1.out) (enters_of Tryz.func63 (by kernel_rfl) rfl) (fun k W hk hW => majority1_any w.heap.size a n c k W (by omega) ((hW.cell (p := ⟨w.heap.size, 0, none⟩) HX1.out.lt).trans c0)) hF (hT.bl HB1.out))
  clear h hF hT
  go_enter Tryz.func23, Tryz.ntmps23
  go_upto_region 1 with fail
  rw [← hw1]
  clear hw1
  go_wp2_with fail
  refine HC.out.mono ?_
  rintro e w2 ⟨hb, ⟨hz, rfl⟩ | ⟨hz, v, rfl, ho⟩⟩
  · have HZ := Lib.hid hz
    have HB := Lib.hid hb
    clear hz hb c0
    go_wp2_with fail
    go_ret2
    exact ⟨bl_trans HB1.out HB.out, .inl ⟨HZ.out, rfl⟩⟩
  · have HZ := Lib.hid hz
    have HB := Lib.hid hb
    have HO := Lib.hid ho
    clear hz hb ho c0
    go_wp2_with fail
    go_ret2
    exact ⟨bl_trans HB1.out HB.out, .inr ⟨HZ.out, v, rfl, owns_base4 HO.out HB1.out.size⟩⟩
end Go.Proofs.YtfgkjofdgohacaaGreatDoor
namespace Go.Proofs.YtfgkjofdgohacaaGreatDoor
open Go Go.RowKit Go.Shelf Go.Maps
theorem two_filters {α : Type} (p q : α → Bool) : ∀ l : List α, l.length < (l.filter p).length + (l.filter q).length → ∃ x, x ∈ l ∧ p x = true ∧ q x = true
  | [], h => by simp at h
  | a :: l, h => by
    by_cases h1 : p a = true ∧ q a = true
    · exact ⟨a, List.mem_cons_self, h1.1, h1.2⟩
    · have h2 : l.length < (l.filter p).length + (l.filter q).length := by
        rw [List.filter_cons, List.filter_cons, List.length_cons] at h
        cases e1 : p a <;> cases e2 : q a <;> simp [e1, e2] at h h1 <;> omega
      obtain ⟨x, hx, h3⟩ := two_filters p q l h2
      exact ⟨x, List.mem_cons_of_mem _ hx, h3⟩
theorem vtC_both {S : Nat → List Nat} {n x y : Nat} (h : n < vtC S n x + vtC S n y) : ∃ i, i < n ∧ x ∈ S i ∧ y ∈ S i := by
  unfold vtC at h
  obtain ⟨i, hi, h1, h2⟩ := two_filters (fun i => decide (x ∈ S i)) (fun i => decide (y ∈ S i)) (List.range n) (by rw [List.length_range]; exact h)
  exact ⟨i, List.mem_range.1 hi, by simpa using h1, by simpa using h2⟩
theorem vtC_pos {S : Nat → List Nat} {n x : Nat} : vtC S n x ≠ 0 ↔ ∃ i, i < n ∧ x ∈ S i := by
  unfold vtC
  rw [Ne, List.length_eq_zero_iff, List.filter_eq_nil_iff]
  constructor
  · intro h
    exact Classical.byContradiction fun h2 => h fun i hi h3 => h2 ⟨i, List.mem_range.1 hi, by simpa using h3⟩
  · rintro ⟨i, hi, hx⟩ h
    exact h i (List.mem_range.2 hi) (by simpa using hx)
/-- The family that wins. -/
def cnF (n : Nat) (T : Nat → List Nd) (p : Nat → Bool) : List Nat :=
  sdU ((2 ^ (lvT (T 0)).length - 1) :: ((List.range (lvT (T 0)).length).map (fun k => 2 ^ k) ++ ((List.range n).flatMap fun i => setU (T i)).filter fun x => p (vtC (fun i => setU (T i)) n x)))
theorem cnF_mem (n : Nat) (T : Nat → List Nd) (p : Nat → Bool) (x : Nat) : x ∈ cnF n T p ↔ (x = 2 ^ (lvT (T 0)).length - 1 ∨ (∃ k, k < (lvT (T 0)).length ∧ x = 2 ^ k) ∨ (vtC (fun i => setU (T i)) n x ≠ 0 ∧ p (vtC (fun i => setU (T i)) n x) = true)) := by
  unfold cnF
  rw [sdU_mem, List.mem_cons, List.mem_append, List.mem_map, List.mem_filter, List.mem_flatMap, vtC_pos]
  have e1 : (∃ a, a ∈ List.range (lvT (T 0)).length ∧ 2 ^ a = x) ↔ ∃ k, k < (lvT (T 0)).length ∧ x = 2 ^ k := by
    constructor
    · rintro ⟨k, hk, rfl⟩; exact ⟨k, List.mem_range.1 hk, rfl⟩
    · rintro ⟨k, hk, rfl⟩; exact ⟨k, List.mem_range.2 hk, rfl⟩
  have e2 : (∃ a, a ∈ List.range n ∧ x ∈ setU (T a)) ↔ ∃ i, i < n ∧ x ∈ setU (T i) := by
    constructor
    · rintro ⟨i, hi, h⟩; exact ⟨i, List.mem_range.1 hi, h⟩
    · rintro ⟨i, hi, h⟩; exact ⟨i, List.mem_range.2 hi, h⟩
  rw [e1, e2]
theorem cnE_zero {n : Nat} {T : Nat → List Nd} (h : cnE n T = 0) : n ≤ 16 ∧ n ≠ 0 ∧ (∀ i, i < n → TreeOk (T i)) ∧ (lvT (T 0)).length ≤ 32 ∧ ∀ i, i < n → nmsL (T 0) = nmsL (T i) := by
  unfold cnE at h
  split at h
  · omega
  · split at h
    · omega
    · split at h
      · rename_i h3; exact absurd h h3
      · rename_i h1 h2 h3
        split at h
        · omega
        · refine ⟨by omega, h2, fun i hi => ?_, by omega, ?_⟩
          · by_cases q : TreeOk (T i)
            · exact q
            · exact absurd (shE_bad hi q) (by omega)
          · unfold alE at h
            split at h
            · assumption
            · omega
theorem setU_mem (t : List Nd) (x : Nat) : x ∈ setU t ↔ x ∈ clsL t := by
  rw [← setU_sd, sdU_mem]
/-- The family of the winners is a hierarchy. -/
theorem cnH_of {n : Nat} {T : Nat → List Nd} {p : Nat → Bool} (hp : ∀ a b, a ≤ n → b ≤ n → a ≠ 0 → b ≠ 0 → p a = true → p b = true → n < a + b) : cnH n T p (cnF n T p) := by
  intro hE
  obtain ⟨_, hn0, hok, h32, hnm⟩ := cnE_zero hE
  refine ⟨?_, fun x => cnF_mem n T p x⟩
  have hL : ∀ i, i < n → (lvT (T i)).length = (lvT (T 0)).length := fun i hi => by rw [← nmsL_len, ← nmsL_len, hnm i hi]
  have hH : ∀ i, i < n → Hier (lvT (T 0)).length (clsL (T i)) := fun i hi => by
    have h := cls_hier (t := T i) rfl (hok i hi)
    rwa [hL i hi] at h
  have hone : ∀ {x}, x ∈ cnF n T p → ∃ i, i < n ∧ x ∈ clsL (T i) := fun {x} hx => by
    rcases (cnF_mem n T p x).1 hx with rfl | ⟨k, hk, rfl⟩ | ⟨h1, _⟩
    · exact ⟨0, by omega, (hH 0 (by omega)).all⟩
    · exact ⟨0, by omega, (hH 0 (by omega)).one k hk⟩
    · obtain ⟨i, hi, hx⟩ := vtC_pos.1 h1
      exact ⟨i, hi, (setU_mem _ _).1 hx⟩
  have htwo : ∀ {x y}, x ∈ cnF n T p → y ∈ cnF n T p → ∃ i, i < n ∧ x ∈ clsL (T i) ∧ y ∈ clsL (T i) := fun {x y} hx hy => by
    obtain ⟨i, hi, hxi⟩ := hone hx
    obtain ⟨j, hj, hyj⟩ := hone hy
    rcases (cnF_mem n T p x).1 hx with rfl | ⟨k, hk, rfl⟩ | ⟨h1, h2⟩
    · exact ⟨j, hj, (hH j hj).all, hyj⟩
    · exact ⟨j, hj, (hH j hj).one k hk, hyj⟩
    · rcases (cnF_mem n T p y).1 hy with rfl | ⟨k, hk, rfl⟩ | ⟨h3, h4⟩
      · exact ⟨i, hi, hxi, (hH i hi).all⟩
      · exact ⟨i, hi, hxi, (hH i hi).one k hk⟩
      · obtain ⟨q, hq, g1, g2⟩ := vtC_both (hp _ _ (vtC_le _ _ _) (vtC_le _ _ _) h1 h3 h2 h4)
        exact ⟨q, hq, (setU_mem _ _).1 g1, (setU_mem _ _).1 g2⟩
  refine ⟨sdU_pw _, fun x hx => ?_, fun x hx => ?_, fun x y hx hy => ?_, ?_, fun k hk => ?_⟩
  · obtain ⟨i, hi, h⟩ := hone hx
    exact (hH i hi).lt x h
  · obtain ⟨i, hi, h⟩ := hone hx
    exact (hH i hi).ne x h
  · obtain ⟨i, hi, h1, h2⟩ := htwo hx hy
    exact (hH i hi).fit x y h1 h2
  · exact (cnF_mem n T p _).2 (.inl rfl)
  · exact (cnF_mem n T p _).2 (.inr (.inl ⟨k, hk, rfl⟩))
theorem cnH_strict (n : Nat) (T : Nat → List Nd) : cnH n T (fun k => decide (k = n)) (cnF n T fun k => decide (k = n)) :=
  cnH_of fun a b _ _ h1 _ h3 h4 => by
    have h3 := of_decide_eq_true h3
    have h4 := of_decide_eq_true h4
    omega
theorem cnH_major (n : Nat) (T : Nat → List Nd) : cnH n T (fun k => decide (n < 2 * k)) (cnF n T fun k => decide (n < 2 * k)) :=
  cnH_of fun a b _ _ _ _ h3 h4 => by
    have h3 := of_decide_eq_true h3
    have h4 := of_decide_eq_true h4
    omega
end Go.Proofs.YtfgkjofdgohacaaGreatDoor
namespace Go.Proofs.YtfgkjofdgohacaaGreatDoor
open Go Go.RowKit Go.Shelf Go.Maps
def exA : List Nd := [(-1, ⟨#[114]⟩), (0, ⟨#[109]⟩), (1, ⟨#[107]⟩), (1, ⟨#[108]⟩), (0, ⟨#[110]⟩)]
def exB : List Nd := [(-1, ⟨#[114]⟩), (0, ⟨#[109]⟩), (1, ⟨#[107]⟩), (1, ⟨#[110]⟩), (0, ⟨#[108]⟩)]
def exN : List ByteArray := [⟨#[107]⟩, ⟨#[108]⟩, ⟨#[110]⟩]
theorem exN_pw : exN.Pairwise LtB := by
  unfold exN
  refine List.pairwise_cons.2 ⟨fun y hy => ?_, List.pairwise_cons.2 ⟨fun y hy => ?_, List.pairwise_singleton _ _⟩⟩
  · simp only [List.mem_cons, List.not_mem_nil, or_false] at hy
    rcases hy with rfl | rfl <;> (show _ < _; decide)
  · simp only [List.mem_cons, List.not_mem_nil, or_false] at hy
    subst hy
    show _ < _; decide
theorem exA_nms : nmsL exA = exN := by
  have h : (lvT exA).map (nS exA) = [⟨#[107]⟩, ⟨#[108]⟩, ⟨#[110]⟩] := by decide +kernel
  unfold nmsL
  rw [h]
  exact srtB_ext (srtB_pw (by decide)) exN_pw fun x => srtB_mem x _
theorem exB_nms : nmsL exB = exN := by
  have h : (lvT exB).map (nS exB) = [⟨#[107]⟩, ⟨#[110]⟩, ⟨#[108]⟩] := by decide +kernel
  unfold nmsL
  rw [h]
  exact srtB_ext (srtB_pw (by decide)) exN_pw fun x => by
    rw [srtB_mem]
    unfold exN
    simp
    constructor
    · rintro (h | h | h) <;> simp [h]
    · rintro (h | h | h) <;> simp [h]
def botC4 (nm : List ByteArray) (t : List Nd) (v : Nat) : Nat := if leafB t v then 2 ^ plN nm (nS t v) else 0
def clsC4 (nm : List ByteArray) (t : List Nd) : List Nat := sdU ((List.range t.length).map fun v => upX t (botC4 nm t) (t.length - 1) v)
theorem clsC4_eq {nm : List ByteArray} {t : List Nd} (h : nmsL t = nm) : clsL t = clsC4 nm t := by
  subst h; rfl
theorem exA_cls : clsL exA = [1, 2, 3, 4, 7] := by
  rw [clsC4_eq exA_nms]
  decide +kernel
theorem exB_cls : clsL exB = [1, 2, 4, 5, 7] := by
  rw [clsC4_eq exB_nms]
  decide +kernel
theorem ex_ok : TreeOk exA ∧ TreeOk exB := by decide +kernel
theorem ex_lv : lvT exA = [2, 3, 4] ∧ lvT exB = [2, 3, 4] := by decide +kernel
theorem ex_two : twoE exA exB = 0 := by
  unfold twoE
  rw [if_pos ex_ok, exA_nms, exB_nms, if_pos rfl]
theorem ex_dst : dstV exA exB = 2 := by
  rw [dstV_ok ex_two, exA_cls, exB_cls]
  decide +kernel
theorem ex_tri : triV exA exB = 1 := by
  unfold triV
  rw [if_pos ex_two, exA_cls, exB_cls, ex_lv.1]
  decide +kernel
/-- The three trees of the example. -/
def exT (i : Nat) : List Nd := if i = 2 then exB else exA
theorem ex_vtC (x : Nat) : vtC (fun i => setU (exT i)) 3 x = (if x ∈ [1, 2, 3, 4, 7] then 1 else 0) + (if x ∈ [1, 2, 3, 4, 7] then 1 else 0) + (if x ∈ [1, 2, 4, 5, 7] then 1 else 0) := by
  rw [vtC_succ, vtC_succ, vtC_succ, vtC_zero]
  have ha : (x ∈ setU exA) ↔ x ∈ [1, 2, 3, 4, 7] := by rw [setU_mem, exA_cls]
  have hb : (x ∈ setU exB) ↔ x ∈ [1, 2, 4, 5, 7] := by rw [setU_mem, exB_cls]
  show 0 + (if x ∈ setU exA then 1 else 0) + (if x ∈ setU exA then 1 else 0) + (if x ∈ setU exB then 1 else 0) = _
  simp only [ha, hb, Nat.zero_add]
end Go.Proofs.YtfgkjofdgohacaaGreatDoor
namespace Go.Proofs.YtfgkjofdgohacaaGreatDoor
open Go Go.RowKit Go.Shelf Go.Maps
theorem exT_cases (i : Nat) : exT i = exA ∨ exT i = exB := by
  unfold exT
  split
  · exact .inr rfl
  · exact .inl rfl
theorem exT_ok (i : Nat) : TreeOk (exT i) := by
  rcases exT_cases i with h | h <;> rw [h]
  · exact ex_ok.1
  · exact ex_ok.2
theorem exT_nms (i : Nat) : nmsL (exT i) = exN := by
  rcases exT_cases i with h | h <;> rw [h]
  · exact exA_nms
  · exact exB_nms
theorem ex_cnE : cnE 3 exT = 0 := by
  unfold cnE
  rw [if_neg (by omega), if_neg (by omega), shE_ok fun i _ => exT_ok i, if_neg (by decide), show exT 0 = exA from rfl, ex_lv.1, if_neg (by decide)]
  exact alE_ok fun i _ => by rw [exA_nms, exT_nms]
theorem ex_cnH : cnH 3 exT (fun k => decide (3 < 2 * k)) [1, 2, 3, 4, 7] := by
  intro _
  have hlen : (lvT (exT 0)).length = 3 := by rw [show exT 0 = exA from rfl, ex_lv.1]; rfl
  rw [hlen]
  refine ⟨?_, fun x => ?_⟩
  · have h := cls_hier (t := exA) rfl ex_ok.1
    rw [exA_cls, ex_lv.1] at h
    exact h
  · rw [ex_vtC]
    constructor
    · intro h
      simp only [List.mem_cons, List.not_mem_nil, or_false] at h
      rcases h with rfl | rfl | rfl | rfl | rfl
      · exact .inr (.inl ⟨0, by omega, rfl⟩)
      · exact .inr (.inl ⟨1, by omega, rfl⟩)
      · exact .inr (.inr (by decide))
      · exact .inr (.inl ⟨2, by omega, rfl⟩)
      · exact .inl rfl
    · rintro (rfl | ⟨k, hk, rfl⟩ | ⟨_, h2⟩)
      · decide
      · have : k = 0 ∨ k = 1 ∨ k = 2 := by omega
        rcases this with rfl | rfl | rfl <;> decide
      · by_cases q : x ∈ [1, 2, 3, 4, 7]
        · exact q
        · have h2 := of_decide_eq_true h2
          rw [if_neg q] at h2
          split at h2 <;> omega
def exM : List Nd := [(-1, ⟨#[45, 48]⟩), (0, ⟨#[45, 49]⟩), (1, ⟨#[107]⟩), (1, ⟨#[108]⟩), (0, ⟨#[110]⟩)]
theorem ex_cnT : cnT [1, 2, 3, 4, 7] exA = exM := by
  unfold cnT
  rw [exA_nms, ex_lv.1]
  decide +kernel
theorem ex_suE : suE 3 exT exA = 0 := by
  have h : ∀ i, snT 3 exT exA i = exA ∨ snT 3 exT exA i = exB := fun i => by
    unfold snT
    split
    · exact exT_cases i
    · exact .inl rfl
  have hok : shE 4 (snT 3 exT exA) = 0 := shE_ok fun i _ => by
    rcases h i with e | e <;> rw [e]
    · exact ex_ok.1
    · exact ex_ok.2
  unfold suE
  rw [if_neg (by omega), hok, if_neg (by decide)]
  exact alE_ok fun i _ => by
    rcases h i with e | e <;> rw [e]
    rw [exA_nms, exB_nms]
end Go.Proofs.YtfgkjofdgohacaaGreatDoor
