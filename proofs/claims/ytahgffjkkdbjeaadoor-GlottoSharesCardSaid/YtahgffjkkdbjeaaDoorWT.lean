/- glotto.Tree at every input. -/
import Derived.Test.YtahgffjkkdbjeaaDoorP9
import Derived.Test.YtahgffjkkdbjeaaDoorWN
import Derived.Test.YtahgffjkkdbjeaaDoorWP
namespace Go.Proofs.YtahgffjkkdbjeaaDoor
open Go.RowKit
theorem owns_but {g : Nat} {w w' : World} {base e k : Nat} {v : Value} {n : Nat} {cs : List Value} (h : w.ownsRow base e k v n cs) (hb : But g w w') (hne : v.ownBlock ≠ some g) : w'.ownsRow base e k v n cs := by
  refine ⟨h.1, ?_⟩
  rcases h.2 with h2 | ⟨g', cap, cur, hv, hg, hh, r⟩
  · exact .inl h2
  · refine .inr ⟨g', cap, cur, hv, hg, (hb.block g' (Array.getElem?_eq_some_iff.1 hh).1 (fun e => hne ?_)).trans hh, r⟩
    rw [hv]; simp [Value.ownBlock, e]
theorem TrJ.but {w0 : World} {Bc PB Pb NB LB : Nat} {a : Option Addr} {N c : Nat} {na : Value} {l : List Mg} {k : Nat} {W W' : World} (h : TrJ w0 Bc PB Pb NB LB a N c na l k W) (hb : But Bc W W') : TrJ w0 Bc PB Pb NB LB a N c na l k W' := by
  obtain ⟨pbox, lbox, ⟨tn, now, tn1, tn2⟩, ⟨vb, prow, own, o1, o2, o3, o4, o5⟩, rd, bl, ne⟩ := h
  obtain ⟨n1, n2, n3, n4, n5, n6, n7, n8, n9, n10, n11, n12, n13, n14, n15⟩ := ne
  exact ⟨hb.blk pbox n2.symm, hb.blk lbox n4.symm, ⟨tn, hb.blk now n3.symm, tn1, tn2⟩, ⟨vb, hb.blk prow n1.symm, owns_but own hb o1, o1, o2, o3, o4, o5⟩, rd, bl.trans (hb.below bl.size n13), ⟨n1, n2, n3, n4, n5, n6, n7, n8, n9, n10, n11, n12, n13, n14, n15⟩⟩
theorem TrJ.below {w0 : World} {Bc PB Pb NB LB : Nat} {a : Option Addr} {N c : Nat} {na : Value} {l : List Mg} {k : Nat} {W W' : World} (h : TrJ w0 Bc PB Pb NB LB a N c na l k W) (hb : Below W.heap.size W W') : TrJ w0 Bc PB Pb NB LB a N c na l k W' :=
  h.but (But.of_below hb)
/-- What is asked of Tree's arguments. -/
def TrPost (w : World) (n : Int) (names : List ByteArray) (l : List Mg) (e : Ending) (w' : World) : Prop :=
  ∃ v, e = .returned (.tuple #[v, .int .i64 (treeE n names l)]) ∧ w'.ownsRow w.heap.size 66 2 v (treeL n names l).length (fl encNd (treeL n names l)) ∧ Below w.heap.size w w'
theorem TrPost.err {w w' : World} {n x : Int} {names : List ByteArray} {l : List Mg} (hx : treeE n names l = x) (h0 : x ≠ 0) (hb : Below w.heap.size w w') : TrPost w n names l (.returned (.tuple #[.slice none 0 0, .int .i64 x])) w' := by
  refine ⟨.slice none 0 0, by rw [hx], ?_, hb⟩
  rw [treeL, if_neg (by rw [hx]; exact h0)]
  exact World.ownsRow_nil _ _ _ _
theorem RdN.of_below {w w6 : World} {g : Nat} {a : Option Addr} {cs : List Value} (h : Rd w a cs) (hb : Below w.heap.size w w6) (hg : w.heap.size ≤ g) : RdN g w6 a cs := by
  intro h0
  obtain ⟨b, off, rfl, hlt, hc⟩ := h h0
  exact ⟨b, off, rfl, by omega, Rd.below (fun _ => ⟨b, off, rfl, hlt, hc⟩) hb (Nat.le_refl _)⟩
theorem RdN.of_owns {w : World} {g base e k n cap : Nat} {a : Option Addr} {cs : List Value} (h : w.ownsRow base e k (.slice a n cap) n cs) (hne : (Value.slice a n cap).ownBlock ≠ some g) : RdN g w a cs := by
  intro h0
  obtain ⟨b, off, rfl, hlt, hc⟩ := rd_of_owns h h0
  exact ⟨b, off, rfl, fun e => hne (by simp [Value.ownBlock, e]), fun _ => ⟨b, off, rfl, hlt, hc⟩⟩
theorem wf64 {x : Int} (h1 : -9223372036854775808 ≤ x) (h2 : x ≤ 9223372036854775807) : (Lit.int .i64 x).wf = true := by
  simp only [Lit.wf, Bool.and_eq_true, decide_eq_true_eq]
  exact ⟨h1, h2⟩
theorem check_one (B : Nat) (s : ByteArray) (w : World) (hs : s.size ≤ 9223372036854775807) (h : Blk w B #[.int .i64 (-1), .string s] 66) : Calls Tryd.prog 32 #[.slice (some ⟨B, 0, none⟩) 1 1] w fun e w' => e = .returned (.int .i64 (if nmB s then 0 else 16)) ∧ Below w.heap.size w w' := by
  rw [← chkE_one]
  refine check_any _ 1 1 [(-1, s)] w rfl (by omega) (fun _ => ⟨B, 0, rfl, h.lt, fun i hi => ?_⟩) (fun v hv => ?_)
  · have h2 := h.cell i
    rw [Nat.zero_add]
    refine h2.trans ?_
    have : i = 0 ∨ i = 1 := by have : i < 2 := hi; omega
    rcases this with rfl | rfl <;> rfl
  · obtain rfl : v = 0 := by omega
    exact hs
/-- What is made before the steps; the first i numbers of 'now' are laid. -/
def TrS0 (w : World) (m c1 N c2 : Nat) (na la : Option Addr) (i : Nat) (wr : World) : Prop :=
  Blk wr w.heap.size #[.slice la N c2] 36 ∧ Blk wr (w.heap.size + 1) #[.slice na m c1, .slice none 0 0, .slice none 0 0] 118 ∧ Blk wr (w.heap.size + 1 + 1) #[.pointer (some ⟨w.heap.size + 1, 0, none⟩)] 115 ∧
    Blk wr (w.heap.size + 1 + 1 + 1) (ofF 24 (nowC fun a => if a < i then -1 - (a : Int) else 0)) 98 ∧ Below w.heap.size w wr ∧ wr.heap.size = w.heap.size + 1 + 1 + 1 + 1
theorem TrS0.start (w : World) (m c1 N c2 : Nat) (na la : Option Addr) : TrS0 w m c1 N c2 na la 0 ((((w.alloc (.cells #[.slice la N c2] 36)).alloc (.cells #[.slice na m c1, .slice none 0 0, .slice none 0 0] 118)).alloc (.cells #[.pointer (some ⟨w.heap.size + 1, 0, none⟩)] 115)).alloc (.cells #[.int .i64 0, .int .i64 0, .int .i64 0, .int .i64 0, .int .i64 0, .int .i64 0, .int .i64 0, .int .i64 0, .int .i64 0, .int .i64 0, .int .i64 0, .int .i64 0, .int .i64 0, .int .i64 0, .int .i64 0, .int .i64 0, .int .i64 0, .int .i64 0, .int .i64 0, .int .i64 0, .int .i64 0, .int .i64 0, .int .i64 0, .int .i64 0] 98)) := by
  refine ⟨((Blk.new w _ _).alloc _).alloc _ |>.alloc _, ((Blk.new2 w _ _ _).alloc _).alloc _, ?_, ?_, ((((Below.refl w.heap.size w).alloc (by simp) _).alloc (by simp) _).alloc (by simp; omega) _).alloc (by simp; omega) _, by simp⟩
  · have := (Blk.new2 (w.alloc (.cells #[.slice la N c2] 36)) (.cells #[.slice na m c1, .slice none 0 0, .slice none 0 0] 118) #[.pointer (some ⟨w.heap.size + 1, 0, none⟩)] 115).alloc (.cells #[.int .i64 0, .int .i64 0, .int .i64 0, .int .i64 0, .int .i64 0, .int .i64 0, .int .i64 0, .int .i64 0, .int .i64 0, .int .i64 0, .int .i64 0, .int .i64 0, .int .i64 0, .int .i64 0, .int .i64 0, .int .i64 0, .int .i64 0, .int .i64 0, .int .i64 0, .int .i64 0, .int .i64 0, .int .i64 0, .int .i64 0, .int .i64 0] 98)
    simpa using this
  · have e : (#[.int .i64 0, .int .i64 0, .int .i64 0, .int .i64 0, .int .i64 0, .int .i64 0, .int .i64 0, .int .i64 0, .int .i64 0, .int .i64 0, .int .i64 0, .int .i64 0, .int .i64 0, .int .i64 0, .int .i64 0, .int .i64 0, .int .i64 0, .int .i64 0, .int .i64 0, .int .i64 0, .int .i64 0, .int .i64 0, .int .i64 0, .int .i64 0] : Array Value) = ofF 24 (nowC fun a => if a < 0 then -1 - (a : Int) else 0) := by rfl
    rw [e]
    have := Blk.new2 ((w.alloc (.cells #[.slice la N c2] 36)).alloc (.cells #[.slice na m c1, .slice none 0 0, .slice none 0 0] 118)) (.cells #[.pointer (some ⟨w.heap.size + 1, 0, none⟩)] 115) (ofF 24 (nowC fun a => if a < 0 then -1 - (a : Int) else 0)) 98
    simpa using this
theorem TrS0.next {w wr : World} {m c1 N c2 : Nat} {na la : Option Addr} {i : Nat} (h : TrS0 w m c1 N c2 na la i wr) (hi : i < 24) : TrS0 w m c1 N c2 na la (i + 1) (wr.setCell ⟨w.heap.size + 1 + 1 + 1, i, none⟩ (.int .i64 (-1 - (i : Int)))) := by
  obtain ⟨h1, h2, h3, h4, h5, h6⟩ := h
  refine ⟨h1.other (by omega) _ _, h2.other (by omega) _ _, h3.other (by omega) _ _, ?_, h5.setCell (p := ⟨w.heap.size + 1 + 1 + 1, i, none⟩) (by simp only; omega) _, by simpa [World.setCell] using h6⟩
  have := h4.setF i (.int .i64 (-1 - (i : Int)))
  rw [ofF_congr (g' := nowC fun a => if a < i + 1 then -1 - (a : Int) else 0)] at this
  · exact this
  · intro j _
    simp only [nowC]
    by_cases e : j = i
    · subst e; rw [if_pos rfl, if_pos (by omega)]
    · rw [if_neg e]
      by_cases e2 : j < i
      · rw [if_pos e2, if_pos (by omega)]
      · rw [if_neg e2, if_neg (by omega)]
theorem TrS0.trj {w wr : World} {m c1 N c2 : Nat} {na la : Option Addr} (h : TrS0 w m c1 N c2 na la 24 wr) (l : List Mg) (hl : Rd w la (fl encMg l)) : TrJ w wr.heap.size (w.heap.size + 1) (w.heap.size + 1 + 1) (w.heap.size + 1 + 1 + 1) w.heap.size la N c2 (.slice na m c1) l 0 wr := by
  obtain ⟨h1, h2, h3, h4, h5, h6⟩ := h
  refine ⟨h3, h1, ⟨98, ?_, by decide, by decide⟩, ⟨.slice none 0 0, h2, World.ownsRow_nil _ _ _ _, by simp [Value.ownBlock], by simp [Value.ownBlock], by simp [Value.ownBlock], by simp [Value.ownBlock], by simp [Value.ownBlock]⟩, hl, h5, by omega⟩
  rw [ofF_congr (g' := nowC fun a => if a < 24 then -1 - (a : Int) else 0)]
  · exact h4
  · intro j hj
    simp only [nowC, nowK]
    rw [if_pos hj]
set_option maxRecDepth 100000 in
set_option maxHeartbeats 4000000 in
theorem tree_any (n : Int) (m c1 N c2 : Nat) (na la : Option Addr) (names : List ByteArray) (l : List Mg) (w : World) (hm : names.length = m) (hN : l.length = N) (hn : Rd w na (fl encS names)) (hl : Rd w la (fl encMg l)) (hmx : m ≤ 1152921504606846976) (hNx : N ≤ 1152921504606846976) (hsz : ∀ i, i < m → (sA names i).size ≤ 9223372036854775807) :
    Calls Tryd.prog 31 #[.int .i64 n, .slice na m c1, .slice la N c2] w (TrPost w n names l) := by
  have HH := Lib.hid (And.intro hm (And.intro hN (And.intro hn (And.intro hl hsz))))
  clear hm hN hn hl hsz
  have hb0 := bl_alloc (Below.refl _ w) (.cells #[.slice la N c2] 36)
  by_cases h1 : n < 1
  · have he := Lib.hid (show treeE n names l = 3 from if_pos (.inl h1))
    have d1 : decide (n < 1) = true := by simpa using h1
    go_enter Tryd.func31, Tryd.ntmps31
    go_wp2_with fail
    go_ret2
    exact TrPost.err he.out (by decide) hb0
  · have d1 : decide (n < 1) = false := by simpa using h1
    by_cases h2 : 24 < n
    · have he := Lib.hid (show treeE n names l = 3 from if_pos (.inr h2))
      have d2 : decide (24 < n) = true := by simpa using h2
      go_enter Tryd.func31, Tryd.ntmps31
      go_wp2_with fail
      go_ret2
      exact TrPost.err he.out (by decide) hb0
    · have d2 : decide (24 < n) = false := by simpa using h2
      obtain ⟨n, rfl⟩ : ∃ k : Nat, n = k := ⟨n.toNat, by omega⟩
      go_enter Tryd.func31, Tryd.ntmps31
      go_wp2_with fail
      have hs0 := TrS0.start w m c1 N c2 na la
      go_loopw [26, 10] (fun x _ wr => ∃ i : Nat, i ≤ 24 ∧ x = .int .i64 i ∧ TrS0 w m c1 N c2 na la i wr) (fun x _ _ => 24 - (intOf x).toNat)
      case atStart => exact ⟨0, by omega, rfl, hs0⟩
      case round =>
        obtain ⟨i, hi, rfl, hs⟩ := hrel
        clear hs0 hb0
        by_cases hlt : i < 24
        · have hnx := Lib.hid (hs.next hlt)
          obtain ⟨v, hv⟩ : ∃ v, wr.cell? ⟨w.heap.size + 1 + 1 + 1, i, none⟩ = some v := ⟨_, hs.2.2.2.1.getF i hlt⟩
          have hf := hs.2.2.2.1.free i
          clear hs
          go_wp2_with fail
          go_roundw
          case rel => exact ⟨i + 1, by omega, by go_num, hnx.out⟩
          case measure => simp [intOf]; omega
        · obtain rfl : i = 24 := by omega
          obtain ⟨wo, rfl⟩ : ∃ wo : World, wo = wr := ⟨_, rfl⟩
          have hj := Lib.hid (hs.trj l HH.out.2.2.2.1)
          have hb1 := hs.2.2.2.2.1
          have l0 : wo.cell? ⟨w.heap.size, 0, none⟩ = some (.slice la N c2) := hs.1.cell 0
          clear hs
          by_cases hmn : m = n
          · have hq : ((m : Int) != (n : Int)) = false := by simp; omega
            have HMN := Lib.hid hmn
            clear hmn
            go_wp2_with fail
            refine (steps_any 68 (enters_of Tryd.func68 (by kernel_rfl) rfl) la n N c2 l #[.pointer (some ⟨w.heap.size + 1 + 1, 0, none⟩), .pointer (some ⟨w.heap.size + 1 + 1 + 1, 0, none⟩), .pointer (some ⟨w.heap.size, 0, none⟩)] wo (TrJ w wo.heap.size (w.heap.size + 1) (w.heap.size + 1 + 1) (w.heap.size + 1 + 1 + 1) w.heap.size la N c2 (.slice na m c1) l) (by omega) (by omega) HH.out.2.1 hNx (fun k W h => h.rd.below h.bl (Nat.le_refl _)) (fun k W W' h hb => h.but hb) hj.out ?_).mono ?_
            · intro k W hk hok hJ hsz2 hNn
              exact tree1_any w wo.heap.size (w.heap.size + 1) (w.heap.size + 1 + 1) (w.heap.size + 1 + 1 + 1) w.heap.size la n N c2 (.slice na m c1) l k W HH.out.2.1 hk (by omega) (by omega) (hok k (by omega)) hsz2 hJ
            · rintro e w3 (⟨hok, rfl, hJ⟩ | ⟨hok, rfl, k, hJ⟩)
              · have HOK := Lib.hid hok
                clear hok hq hj hb1 l0
                have HT := Lib.hid (show TrJ w wo.heap.size (w.heap.size + 1) (w.heap.size + 1 + 1) (w.heap.size + 1 + 1 + 1) w.heap.size la N c2 (.slice na m c1) l N w3 from hJ)
                have HE3 : Hid (∀ i, i < m → nmB (sA names i) = false → treeE (n : Int) names l = 15) := fun i hi h => by
                  rw [treeE, if_neg (by omega), if_neg (fun h => h ⟨by rw [HH.out.1, HMN.out], by simpa using HOK.out⟩), if_pos (fun h2 => by have := h2 i (by rw [HH.out.1]; exact hi); rw [h] at this; cases this)]
                clear hJ
                go_wp2_with fail
                go_loopw [47, 12] (fun x _ wr => ∃ i : Nat, i ≤ m ∧ x = .int .i64 i ∧ Hid (∀ j, j < i → nmB (sA names j) = true) ∧ TrJ w wo.heap.size (w.heap.size + 1) (w.heap.size + 1 + 1) (w.heap.size + 1 + 1 + 1) w.heap.size la N c2 (.slice na m c1) l N wr) (fun x _ _ => m - (intOf x).toNat)
                case atStart => exact ⟨0, by omega, rfl, fun j h => absurd h (by omega), HT.out⟩
                case round =>
                  obtain ⟨i, hi, rfl, hal, hJ⟩ := hrel
                  by_cases hlt : i < m
                  · obtain ⟨b, o, rfl, _, hc⟩ := rdS (HH.out.2.2.1.below hJ.bl (Nat.le_refl _)) (by rw [HH.out.1]; omega)
                    have g0 := hc i (by rw [HH.out.1]; omega)
                    have hsz := HH.out.2.2.2.2 i hlt
                    have hno := Lib.hid (HE3.out i hlt)
                    have hJa := Lib.hid (hJ.below (bl_alloc (Below.refl _ wr) (.cells #[.int .i64 (-1), .string (sA names i)] 66)))
                    have HB := Lib.hid hJ.bl
                    have HJ := Lib.hid hJ
                    clear hc hJ
                    by_cases hbig : 24 < (sA names i).size
                    · have hd : decide (24 < (sA names i).size) = true := by simpa using hbig
                      have hx := Lib.hid (hno.out (nmB_size hbig))
                      go_wp2_with fail
                      go_ret2
                      exact TrPost.err hx.out (by decide) HB.out
                    · have hd : decide (24 < (sA names i).size) = false := by simpa using hbig
                      have HC := Lib.hid (check_one wr.heap.size (sA names i) _ hsz (Blk.new wr _ _))
                      go_wp2_with fail
                      refine HC.out.mono ?_
                      rintro e w7 ⟨rfl, hb7⟩
                      have HJ7 := Lib.hid (hJa.out.below hb7)
                      rcases Bool.eq_false_or_eq_true (nmB (sA names i)) with hp | hp
                      · have hal2 : Hid (∀ j, j < i + 1 → nmB (sA names j) = true) := fun j hj => by
                          by_cases e : j = i
                          · rw [e]; exact hp
                          · exact hal.out j (by omega)
                        rw [if_pos hp]
                        clear hp hb7 HC hJa
                        go_wp2_with fail
                        go_roundw
                        case rel => exact ⟨i + 1, by omega, by go_num, hal2, HJ7.out⟩
                        case measure => simp [intOf]; omega
                      · have hx := Lib.hid (hno.out hp)
                        have hb8 := HJ7.out.bl
                        rw [if_neg (by rw [hp]; simp)]
                        clear hp hb7 HC hJa
                        go_wp2_with fail
                        go_ret2
                        exact TrPost.err hx.out (by decide) hb8
                  · have e : i = m := by omega
                    have HAL : Hid (∀ j, j < m → nmB (sA names j) = true) := fun j hj => hal.out j (by omega)
                    have HJ := Lib.hid hJ
                    have l0 : (wr.alloc (.map #[] 0)).cell? ⟨w.heap.size, 0, none⟩ = some (.slice la N c2) := (hJ.lbox.alloc _).cell 0
                    obtain ⟨w5, rfl⟩ : ∃ w5 : World, w5 = wr := ⟨_, rfl⟩
                    have hm0 : MI (w5.alloc (.map #[] 0)) w5.heap.size 0 (hvI 0) := MI.made w5
                    have hb0 := bl_alloc (Below.refl _ w5) (.map #[] 0)
                    have hlw := hJ.lbox.lt
                    have HN1 : Hid (N + 1 = n) := by
                      have h1 := HOK.out.1
                      rw [HH.out.2.1] at h1
                      exact h1
                    clear e hal hJ HT
                    have hmm := @run_makeMap Tryd.prog
                    go_wp2_with fail
                    clear hmm
                    go_loopw [65, 14] (fun x _ wr => ∃ k : Nat, k ≤ N ∧ x = .int .i64 k ∧ MI wr w5.heap.size k (hvI k) ∧ Below w5.heap.size w5 wr) (fun x _ _ => N - (intOf x).toNat)
                    case atStart => exact ⟨0, by omega, rfl, hm0, hb0⟩
                    case round =>
                      obtain ⟨k, hk, rfl, hmi, hbl⟩ := hrel
                      clear hm0 hb0 l0
                      have hN24 := HN1.out
                      by_cases hlt : k < N
                      · have hnx : Hid (updS (hvI k) (innS k) (hvI k (innS k) + 1) = hvI (k + 1)) := rfl
                        have hin := Lib.hid (fun w' => inner_any k w' (by omega))
                        obtain ⟨hbd1, hbd2⟩ := hvI_bd k (innS k)
                        have hsi : (innS k).size ≤ 9223372036854775807 := by have := decDigits_len k (by omega); simp [innS, ByteArray.size]; omega
                        have HLK : Hid (∀ w', MI w' w5.heap.size k (hvI k) → (Instr.lookup 64 (.map (some w5.heap.size)) (.string (innS k)) false).run Tryd.prog w' = .ok (.int .i64 (hvI k (innS k))) w') := fun w' h => h.look Tryd.underlying64 _ (by unfold maxLen; omega)
                        generalize hvI k (innS k) = v at *
                        generalize innS k = s at *
                        have hlk := HLK.out _ hmi
                        go_wp2_with (first | (go_at_call 69; refine (hin.out _).mono ?_; rintro e w' ⟨rfl, rfl⟩) | (refine wpList_putI rfl (.tmp 68) (.tmp 70) (.tmp 72) 64 rfl Tryd.underlying64 rfl hmi (by omega) s rfl (v + 1) rfl (by unfold maxLen; omega) (wf64 (by omega) (by omega)) ?_; intro w8 hm8 hg8))
                        rw [hnx.out] at hm8
                        have hbl8 := Below.grown hbl hg8 (by have := hbl.size; omega) (fun r hr => by rw [← Option.some.inj hr]; exact Nat.le_refl _)
                        clear hg8 hmi hbl hlk HLK
                        go_wp2_with fail
                        go_roundw
                        case rel => exact ⟨k + 1, by omega, by go_num, hm8, hbl8⟩
                        case measure => simp [intOf]; omega
                      · have e : k = N := by omega
                        have hmi2 : MI wr w5.heap.size (N + 0) (hvN names N 0) := by rw [e] at hmi; exact hmi
                        clear e hmi
                        have hal0 : Hid (∀ j, j < 0 → hvN names N (j + 1) (sA names j) ≤ 1) := fun j h => absurd h (by omega)
                        have HE4 : Hid (∀ i, i < m → 1 < hvN names N (i + 1) (sA names i) → treeE (n : Int) names l = 6) := fun i hi h => by
                          rw [treeE, if_neg (by omega), if_neg (fun h => h ⟨by rw [HH.out.1, HMN.out], by simpa using HOK.out⟩), if_neg (fun h => h fun j hj => HAL.out j (by rw [← HH.out.1]; exact hj)), if_pos (fun h2 => by have := h2 i (by rw [HH.out.1]; exact hi); rw [HH.out.2.1] at this; omega)]
                        go_wp2_with fail
                        go_loopw [76, 16] (fun x _ wr => ∃ i : Nat, i ≤ m ∧ x = .int .i64 i ∧ Hid (∀ j, j < i → hvN names N (j + 1) (sA names j) ≤ 1) ∧ MI wr w5.heap.size (N + i) (hvN names N i) ∧ Below w5.heap.size w5 wr) (fun x _ _ => m - (intOf x).toNat)
                        case atStart => exact ⟨0, by omega, rfl, hal0, hmi2, hbl⟩
                        case round =>
                          obtain ⟨i, hi, rfl, hal, hmi, hbl⟩ := hrel
                          clear hmi2 hal0
                          have hJ2 := Lib.hid (HJ.out.below hbl)
                          have hm24 : m ≤ 24 := by have := HMN.out; omega
                          by_cases hlt : i < m
                          · obtain ⟨b, o, rfl, _, hc⟩ := rdS (HH.out.2.2.1.below hJ2.out.bl (Nat.le_refl _)) (by rw [HH.out.1]; omega)
                            have g0 := hc i (by rw [HH.out.1]; omega)
                            have hsi := HH.out.2.2.2.2 i hlt
                            have hno := Lib.hid (HE4.out i hlt)
                            have hnx : Hid (updS (hvN names N i) (sA names i) (hvN names N i (sA names i) + 1) = hvN names N (i + 1)) := rfl
                            have hnv : Hid (hvN names N (i + 1) (sA names i) = hvN names N i (sA names i) + 1) := by show _ = _; simp [hvN, updS]
                            obtain ⟨hbd1, hbd2⟩ := hvN_bd names N i (sA names i)
                            have HLK : Hid (∀ w', MI w' w5.heap.size (N + i) (hvN names N i) → (Instr.lookup 64 (.map (some w5.heap.size)) (.string (sA names i)) false).run Tryd.prog w' = .ok (.int .i64 (hvN names N i (sA names i))) w') := fun w' h => h.look Tryd.underlying64 _ (by unfold maxLen; omega)
                            have HLK2 : Hid (∀ w', MI w' w5.heap.size (N + i + 1) (updS (hvN names N i) (sA names i) (hvN names N i (sA names i) + 1)) → (Instr.lookup 64 (.map (some w5.heap.size)) (.string (sA names i)) false).run Tryd.prog w' = .ok (.int .i64 (hvN names N i (sA names i) + 1)) w') := fun w' h => by
                              have := h.look Tryd.underlying64 (sA names i) (by unfold maxLen; omega)
                              simpa [updS] using this
                            clear hc
                            generalize hvN names N i (sA names i) = v at *
                            obtain ⟨s, hs⟩ : ∃ s, s = sA names i := ⟨_, rfl⟩
                            rw [← hs] at g0 hsi hno hnx hnv HLK HLK2
                            have HS := Lib.hid hs
                            clear hs
                            have hlk := HLK.out _ hmi
                            by_cases hv : 0 < v
                            · have hx := Lib.hid (hno.out (by rw [hnv.out]; omega))
                              go_wp2_with (refine wpList_putI rfl (.tmp 80) (.tmp 81) (.tmp 83) 64 rfl Tryd.underlying64 rfl hmi (by omega) s rfl (v + 1) rfl (by unfold maxLen; omega) (wf64 (by omega) (by omega)) ?_; intro w8 hm8 hg8; have hlk8 := HLK2.out _ hm8)
                              have hbl8 := Below.grown hbl hg8 (by have := hbl.size; omega) (fun r hr => by rw [← Option.some.inj hr]; exact Nat.le_refl _)
                              have hb9 := (HJ.out.below hbl8).bl
                              go_ret2
                              exact TrPost.err hx.out (by decide) hb9
                            · have hv2 : v ≤ 0 := by omega
                              have hal2 : Hid (∀ j, j < i + 1 → hvN names N (j + 1) (sA names j) ≤ 1) := fun j hj => by
                                by_cases e : j = i
                                · rw [e, ← HS.out, hnv.out]; omega
                                · exact hal.out j (by omega)
                              clear hv
                              go_wp2_with (refine wpList_putI rfl (.tmp 80) (.tmp 81) (.tmp 83) 64 rfl Tryd.underlying64 rfl hmi (by omega) s rfl (v + 1) rfl (by unfold maxLen; omega) (wf64 (by omega) (by omega)) ?_; intro w8 hm8 hg8; have hlk8 := HLK2.out _ hm8)
                              have hbl8 := Below.grown hbl hg8 (by have := hbl.size; omega) (fun r hr => by rw [← Option.some.inj hr]; exact Nat.le_refl _)
                              rw [hnx.out] at hm8
                              clear hg8 hlk8 hmi hbl hlk HLK HLK2
                              go_wp2_with fail
                              go_roundw
                              case rel => exact ⟨i + 1, by omega, by go_num, hal2, by rw [← Nat.add_assoc]; exact hm8, hbl8⟩
                              case measure => simp [intOf]; omega
                          · have e : i = m := by omega
                            have hHV : Hid (HaveOk names N) := fun j hj => hal.out j (by rw [HH.out.1] at hj; omega)
                            have he := Lib.hid (show treeE (n : Int) names l = 0 by
                              rw [treeE, if_neg (by omega), if_neg (fun h => h ⟨by rw [HH.out.1, HMN.out], by simpa using HOK.out⟩), if_neg (fun h => h fun j hj => HAL.out j (by rw [← HH.out.1]; exact hj)), if_neg (fun h => h (by rw [HH.out.2.1]; exact hHV.out))])
                            clear e hal hmi hbl
                            obtain ⟨w6, rfl⟩ : ∃ w6 : World, w6 = wr := ⟨_, rfl⟩
                            obtain ⟨pbox, lbox, ⟨tn, now, tn1, tn2⟩, ⟨vb, prow, own, o1, o2, o3, o4, o5⟩, rd, bl, ne⟩ := hJ2.out
                            have p0 : w6.cell? ⟨w.heap.size + 1 + 1, 0, none⟩ = some (.pointer (some ⟨w.heap.size + 1, 0, none⟩)) := pbox.cell 0
                            have z0 : w6.cell? ⟨w.heap.size + 1 + 1 + 1, 0, none⟩ = some (.int .i64 (nowK l N 0)) := now.getF 0 (by omega)
                            obtain ⟨va, vcap, rfl, hva⟩ := owns_slice own
                            obtain ⟨hnb1, hnb2⟩ := nowK_bd (n := n) (l := l) N 0 (by omega)
                            have hmn3 : (n : Int) ≤ m := by have := HMN.out; omega
                            have hTL : treeL n names l = plantL (nmOf names) (belK l N) 25 (-1) (nowK l N 0) 0 := by rw [treeL, if_pos he.out, HH.out.2.1]
                            have hpl := Lib.hid (plant_root w6 (w.heap.size + 1) m c1 N vcap na va names (belK l N) HH.out.1 (belK_len l N) (RdN.of_below HH.out.2.2.1 bl (by omega)) (RdN.of_owns own o2) (by rw [HMN.out]; exact belK_ok N (fun i hi => HOK.out.2 i (by rw [HH.out.2.1]; exact hi))) (by omega) (by omega) (nowK l N 0) (treeL n names l) (by omega) (by omega) hTL prow)
                            clear hTL
                            have HX := Lib.hid (And.intro pbox bl)
                            clear pbox lbox now prow own rd bl ne hnb1 hnb2 hmn3
                            go_wp2_with fail
                            refine hpl.out.mono ?_
                            rintro e w7 ⟨rfl, hP7⟩
                            obtain ⟨ov, hbut, r7, own⟩ := hP7
                            have p7 : w7.cell? ⟨w.heap.size + 1 + 1, 0, none⟩ = some (.pointer (some ⟨w.heap.size + 1, 0, none⟩)) := (hbut.blk HX.out.1 (by omega)).cell 0
                            have HF := Lib.hid (And.intro hbut own)
                            clear hbut own p0 z0 hpl
                            go_wp2_with fail
                            go_ret2
                            obtain ⟨hbut, own⟩ := HF.out
                            exact ⟨ov, by rw [he.out]; rfl, owns_mono own HX.out.2.size, HX.out.2.trans (hbut.below HX.out.2.size (by omega))⟩
              · have he := Lib.hid (show treeE (n : Int) names l = 2 by rw [treeE, if_neg (by omega), if_pos (fun h => hok (by have := h.2; simpa using this))])
                have hb3 := hJ.bl
                clear hok hJ
                go_wp2_with fail
                go_ret2
                exact TrPost.err he.out (by decide) hb3
          · have hq : ((m : Int) != (n : Int)) = true := by simp; omega
            have he := Lib.hid (show treeE (n : Int) names l = 2 by rw [treeE, if_neg (by omega), if_pos (fun h => hmn (by have := h.1; rw [HH.out.1] at this; omega))])
            clear hmn
            go_wp2_with fail
            go_ret2
            exact TrPost.err he.out (by decide) hb1
end Go.Proofs.YtahgffjkkdbjeaaDoor
