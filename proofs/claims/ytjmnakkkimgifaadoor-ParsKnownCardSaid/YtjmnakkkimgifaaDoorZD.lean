/- pars.numbered: the nodes as they are met. pars.numbered. All binary trees of one to five leaves (plain). pars.check. pars.Lengths, pars.Length. The numbered tree is a tree, and binary; its leaves are the last nodes (plain). The neighbours of a binary tree (plain). A numbered tree is a neighbour of its neighbours; how many neighbours there are (plain). pars.children: the children of all nodes. pars.Binary. A range over an iterator whose elements stand in memory (no program in sight). pars.neighbours: an exchange of two children; plain laws, and the test of the sibling. -/
import Derived.Test.YtjmnakkkimgifaaDoorZC
import Derived.Test.YtjmnakkkimgifaaDoorZB
import Derived.Test.YtjmnakkkimgifaaDoorZA
namespace Go.Proofs.YtjmnakkkimgifaaDoor
open Go Go.RowKit Go.Shelf
/-- What lies before numbering begins. -/
structure MtG (W1 : World) (XN XS XL g n ca c cl m : Nat) (a AL : Option Addr) (t : List Nd) (K : Nat → List Nat) (rs : Nat → Rw) (L : List Nat) : Prop where
  bn : Blk W1 XN #[.slice a n ca] 33
  bs : Blk W1 XS #[.slice (some ⟨g, 0, none⟩) n c] 79
  bl : Blk W1 XL #[.slice AL m cl] 27
  rn : Rd W1 a (fl encNd t)
  sub : SubR W1 g n K rs
  rl : Rd W1 AL (fl encI (iN L))
  tn : t.length = n
  lm : L.length = m
  pw : L.Pairwise (· < ·)
  n65 : n ≤ 65
  mn : m ≤ n
/-- What lies while nodes are met: k inner ones are numbered, the row holds o. -/
structure MtW (W1 : World) (XN XS XL n : Nat) (w : World) (k : Nat) (o : Nat → Nd) : Prop where
  bel : Below W1.heap.size W1 w
  be : Blk w W1.heap.size #[.func (.func 72) #[] #[.pointer (some ⟨XS, 0, none⟩), .pointer (some ⟨W1.heap.size, 0, none⟩)]] 112
  bg : Blk w (W1.heap.size + 1) (ofF (n * 2) (outC o)) 41
  bo : Blk w (W1.heap.size + 2) #[.slice (some ⟨W1.heap.size + 1, 0, none⟩) n n] 33
  bx : Blk w (W1.heap.size + 3) #[.int .i64 k] 3
  bm : Blk w (W1.heap.size + 4) #[.func (.func 73) #[] #[.pointer (some ⟨XN, 0, none⟩), .pointer (some ⟨XS, 0, none⟩), .pointer (some ⟨XL, 0, none⟩), .pointer (some ⟨W1.heap.size + 2, 0, none⟩), .pointer (some ⟨W1.heap.size + 3, 0, none⟩), .pointer (some ⟨W1.heap.size, 0, none⟩), .pointer (some ⟨W1.heap.size + 4, 0, none⟩)]] 113
theorem MtW.bl {W1 : World} {XN XS XL n : Nat} {w w' : World} {k : Nat} {o : Nat → Nd} (h : MtW W1 XN XS XL n w k o) (hb : Below w.heap.size w w') : MtW W1 XN XS XL n w' k o :=
  ⟨bl_trans h.bel hb, h.be.below hb, h.bg.below hb, h.bo.below hb, h.bx.below hb, h.bm.below hb⟩
/-- A node is written. -/
theorem MtW.put {W1 : World} {XN XS XL n : Nat} {w : World} {k : Nat} {o : Nat → Nd} (h : MtW W1 XN XS XL n w k o) (i : Nat) (x : Nd) :
    MtW W1 XN XS XL n ((w.setCell ⟨W1.heap.size + 1, i * 2, none⟩ (.int .i64 x.1)).setCell ⟨W1.heap.size + 1, i * 2 + 1, none⟩ (.string x.2)) k (fun j => if j = i then x else o j) := by
  have hg := (h.bg.setF (i * 2) (.int .i64 x.1)).setF (i * 2 + 1) (.string x.2)
  refine ⟨bl_set (bl_set h.bel _ _ _ _ (by omega)) _ _ _ _ (by omega), (h.be.other (by omega) _ _).other (by omega) _ _, ?_, (h.bo.other (by omega) _ _).other (by omega) _ _, (h.bx.other (by omega) _ _).other (by omega) _ _, (h.bm.other (by omega) _ _).other (by omega) _ _⟩
  rw [← outC_put o i x]
  exact hg
theorem MtW.next {W1 : World} {XN XS XL n : Nat} {w : World} {k : Nat} {o : Nat → Nd} (h : MtW W1 XN XS XL n w k o) (j : Nat) : MtW W1 XN XS XL n (w.setCell ⟨W1.heap.size + 3, 0, none⟩ (.int .i64 j)) j o :=
  ⟨bl_set h.bel _ _ _ _ (by omega), h.be.other (by omega) _ _, h.bg.other (by omega) _ _, h.bo.other (by omega) _ _, h.bx.set 0 _, h.bm.other (by omega) _ _⟩
set_option maxRecDepth 100000 in
set_option maxHeartbeats 4000000 in
theorem meet_any (W1 : World) (XN XS XL g n ca c cl m : Nat) (a AL : Option Addr) (t : List Nd) (K : Nat → List Nat) (rs : Nat → Rw) (L : List Nat) (hG : MtG W1 XN XS XL g n ca c cl m a AL t K rs L) :
    ∀ (z : Sh), Sub K z → (∀ u, u ∈ z.all → u < n) → (∀ u, u ∈ z.lvs → u ∈ L) → ∀ (w : World) (p : Int) (k : Nat) (o : Nat → Nd), MtW W1 XN XS XL n w k o → k + z.inn ≤ n - m →
    Calls Tryd.prog 73 #[.int .i64 (z.top : Nat), .int .i64 p, .pointer (some ⟨XN, 0, none⟩), .pointer (some ⟨XS, 0, none⟩), .pointer (some ⟨XL, 0, none⟩), .pointer (some ⟨W1.heap.size + 2, 0, none⟩), .pointer (some ⟨W1.heap.size + 3, 0, none⟩), .pointer (some ⟨W1.heap.size, 0, none⟩), .pointer (some ⟨W1.heap.size + 4, 0, none⟩)] w
      fun e w' => e = .returned (.tuple #[]) ∧ MtW W1 XN XS XL n w' (k + z.inn) (mtF t L (n - m) z.srt p k o) := by
  have n65 := hG.n65
  have mn := hG.mn
  intro z
  induction z with
  | lf v =>
    intro hK hlt hlv w p k o hM hk
    have hv : v < n := hlt v (by simp [Sh.all])
    have hvL : v ∈ L := hlv v (by simp [Sh.lvs])
    have hKv : K v = [] := hK
    obtain ⟨bA, oA, hA, hbA, hc⟩ := rdNd (hG.rn.bl hM.bel) (by rw [hG.tn]; omega)
    obtain ⟨_, e5⟩ := hc v (by rw [hG.tn]; exact hv)
    have e6 : w.cell? ⟨XN, 0, none⟩ = some (.slice a n ca) := (hG.bn.below hM.bel).cell 0
    rw [hA] at e6
    have hm0 : 0 < m := by rw [← hG.lm]; exact List.length_pos_of_mem hvL
    have hidx := List.idxOf_lt_length_of_mem hvL
    rw [hG.lm] at hidx
    have hkx : (iN L).take m = iN L := List.take_of_length_le (by rw [iN_len, hG.lm]; exact Nat.le_refl _)
    have hpw : ((iN L).take m).Pairwise (· ≤ ·) := by
      rw [hkx]
      exact List.Pairwise.map _ (fun x y (h : x < y) => by omega) hG.pw
    have hcnt := count_idx hG.pw hvL
    obtain ⟨w1, hw1⟩ : ∃ x, x = w.alloc (.cells #[.int .i64 p, .string (nS t v)] 41) := ⟨_, rfl⟩
    have hb1 : Below w.heap.size w w1 := by rw [hw1]; exact bl_alloc (Below.refl _ _) _
    have hX := Blk.new w #[.int .i64 p, .string (nS t v)] 41
    rw [← hw1] at hX
    have hM1 := hM.bl hb1
    have HX := Lib.hid hX
    have HM1 := Lib.hid hM1
    have HW1 := Lib.hid hw1
    obtain ⟨X, hXe⟩ : ∃ x, x = w.heap.size := ⟨_, rfl⟩
    rw [← hXe] at HX
    have HXE := Lib.hid hXe
    have hXb : Hid (W1.heap.size + 5 ≤ X) := by show _ ≤ _; rw [hXe]; exact hM.bm.lt
    -- what is read behind it
    have hS := hG.sub.bl hM1.bel
    have f1 : w1.cell? ⟨XS, 0, none⟩ = some (.slice (some ⟨g, 0, none⟩) n c) := (hG.bs.below hM1.bel).cell 0
    have f2 := hS.cell v hv
    have f3 := hS.len v hv
    rw [hKv] at f3
    obtain ⟨⟨A, m', cp⟩, hx⟩ : ∃ x, x = rs v := ⟨_, rfl⟩
    rw [← hx] at f2 f3
    have f4 : w1.cell? ⟨g, v, none⟩ = some (.slice A 0 cp) := by rw [f2]; show some (Value.slice A m' cp) = _; rw [show m' = 0 from f3]
    have f6 : w1.cell? ⟨XN, 0, none⟩ = some (.slice (some ⟨bA, oA, none⟩) n ca) := by rw [← hA]; exact (hG.bn.below hM1.bel).cell 0
    obtain ⟨bL, oL, hAL, hbL, hcL⟩ := rdI (hG.rl.bl hM1.bel) (by rw [iN_len, hG.lm]; exact hm0)
    have f7 : w1.cell? ⟨XL, 0, none⟩ = some (.slice (some ⟨bL, oL, none⟩) m cl) := by rw [← hAL]; exact (hG.bl.below hM1.bel).cell 0
    have HBS : Hid (Calls Tryd.prog 74 #[.slice (some ⟨bL, oL, none⟩) m cl, .int .i64 (v : Int)] w1 fun e w' => (∃ β, e = .returned (.tuple #[.int .i64 (L.idxOf v : Nat), .bool β])) ∧ ∃ q, w' = w1.drewN q) := by
      refine (Tryd.slices_BinarySearch_int bL oL m cl (iN L) (v : Int) w1 (by rw [iN_len, hG.lm]; exact Nat.le_refl _) (by omega) (fun j hj => by have h := hcL j hj; rw [h]; rfl) hpw).mono ?_
      rintro e w' ⟨h1, h2⟩
      rw [hkx, hcnt] at h1
      exact ⟨⟨(iN L).contains (v : Int), h1⟩, h2⟩
    have HG := Lib.hid hG
    have HM := Lib.hid hM
    clear hG hlt hlv hM hM1 hS f2 f3 hx hcL hc hpw hkx hcnt hw1 hb1 hX hKv hXe hK
    show Calls Tryd.prog 73 #[.int .i64 (v : Nat), _, _, _, _, _, _, _, _] w fun e w' => e = .returned (.tuple #[]) ∧ MtW W1 XN XS XL n w' (k + 0) (mtF t L (n - m) (.lf v) p k o)
    go_enter Tryd.func73, Tryd.ntmps73
    go_upto_region 1 with fail
    rw [← HW1.out, ← HXE.out]
    obtain ⟨s, hs⟩ : ∃ s, s = nS t v := ⟨_, rfl⟩
    rw [← hs] at HX ⊢
    obtain ⟨ix, hix⟩ : ∃ i, i = L.idxOf v := ⟨_, rfl⟩
    rw [← hix] at HBS hidx
    have HS := Lib.hid hs
    have HIX := Lib.hid hix
    clear e5 e6 hs hix
    go_wp2_with fail
    refine HBS.out.mono ?_
    rintro e w2 ⟨⟨β, rfl⟩, q, rfl⟩
    obtain ⟨w2, hw2⟩ : ∃ x, x = w1.drewN q := ⟨_, rfl⟩
    rw [← hw2]
    have hb2 : Below w1.heap.size w1 w2 := by rw [hw2]; exact bl_drewN (Below.refl _ _) q
    have hM2 := HM1.out.bl hb2
    have HX2 := Lib.hid (HX.out.below hb2)
    have HM2 := Lib.hid hM2
    have g6 : w2.cell? ⟨XN, 0, none⟩ = some (.slice (some ⟨bA, oA, none⟩) n ca) := (HG.out.bn.below hM2.bel).cell 0 |>.trans (by rw [hA]; rfl)
    have g7 : w2.cell? ⟨XL, 0, none⟩ = some (.slice (some ⟨bL, oL, none⟩) m cl) := (HG.out.bl.below hM2.bel).cell 0 |>.trans (by rw [hAL]; rfl)
    have g8 : w2.cell? ⟨W1.heap.size + 2, 0, none⟩ = some (.slice (some ⟨W1.heap.size + 1, 0, none⟩) n n) := hM2.bo.cell 0
    have g9 : w2.cell? ⟨X, 0, none⟩ = some (.int .i64 p) := HX2.out.cell 0
    have g10 : w2.cell? ⟨X, 1, none⟩ = some (.string s) := HX2.out.cell 1
    obtain ⟨y0, c0⟩ : ∃ y, w2.cell? ⟨W1.heap.size + 1, (n - m + ix) * 2, none⟩ = some y := ⟨_, hM2.bg.getF _ (by omega)⟩
    obtain ⟨y1, c1⟩ : ∃ y, w2.cell? ⟨W1.heap.size + 1, (n - m + ix) * 2 + 1, none⟩ = some y := ⟨_, hM2.bg.getF _ (by omega)⟩
    have z0 : w2.frozen? ⟨W1.heap.size + 1, (n - m + ix) * 2, none⟩ = false := hM2.bg.free _
    have z1 : w2.frozen? ⟨W1.heap.size + 1, (n - m + ix) * 2 + 1, none⟩ = false := hM2.bg.free _
    have a1 : IntKind.i64.wrap ((n : Int) - (m : Int)) = ((n - m : Nat) : Int) := wrap_nat _ _ (by omega) (by omega)
    have a2 : IntKind.i64.wrap (((n - m : Nat) : Int) + (ix : Int)) = ((n - m + ix : Nat) : Int) := wrap_nat _ _ (by omega) (by omega)
    have a3 : n - m + ix < n := by omega
    obtain ⟨at_, hat⟩ : ∃ x, x = n - m + ix := ⟨_, rfl⟩
    rw [← hat] at c0 c1 z0 z1 a2 a3
    have HAT := Lib.hid hat
    clear hM2 hb2 hw2 f1 f4 f6 f7 hat
    go_wp2_with fail
    refine bodyPost_ret (v := .tuple #[]) (by simp [results, Tryd.results73, go_sem]) rfl ⟨rfl, ?_⟩
    show MtW W1 XN XS XL n _ k (fun i => if i = n - m + L.idxOf v then (p, nS t v) else o i)
    rw [← HIX.out, ← HAT.out, ← HS.out]
    exact HM2.out.put at_ (p, s)
  | nd v x y ihx ihy =>
    intro hK hlt hlv w p k o hM hk
    obtain ⟨hKv, hKx, hKy⟩ := hK
    have hv : v < n := hlt v (by simp [Sh.all])
    have hinn : (Sh.nd v x y).inn = x.inn + y.inn + 1 := rfl
    rw [hinn] at hk
    have ltx : ∀ u, u ∈ x.all → u < n := fun u hu => hlt u (by simp [Sh.all, hu])
    have lty : ∀ u, u ∈ y.all → u < n := fun u hu => hlt u (by simp [Sh.all, hu])
    have HIX := Lib.hid (ihx hKx ltx (fun u hu => hlv u (by simp [Sh.lvs, hu])))
    have HIY := Lib.hid (ihy hKy lty (fun u hu => hlv u (by simp [Sh.lvs, hu])))
    have HLX := Lib.hid (least_any XS W1.heap.size g n c K rs n65 x hKx ltx)
    have HLY := Lib.hid (least_any XS W1.heap.size g n c K rs n65 y hKy lty)
    obtain ⟨bA, oA, hA, hbA, hc⟩ := rdNd (hG.rn.bl hM.bel) (by rw [hG.tn]; omega)
    obtain ⟨_, e5⟩ := hc v (by rw [hG.tn]; exact hv)
    have e6 : w.cell? ⟨XN, 0, none⟩ = some (.slice a n ca) := (hG.bn.below hM.bel).cell 0
    rw [hA] at e6
    obtain ⟨w1, hw1⟩ : ∃ x, x = w.alloc (.cells #[.int .i64 p, .string (nS t v)] 41) := ⟨_, rfl⟩
    have hb1 : Below w.heap.size w w1 := by rw [hw1]; exact bl_alloc (Below.refl _ _) _
    have hX := Blk.new w #[.int .i64 p, .string (nS t v)] 41
    rw [← hw1] at hX
    have hM1 := hM.bl hb1
    have HX := Lib.hid hX
    have HM1 := Lib.hid hM1
    have HW1 := Lib.hid hw1
    obtain ⟨X, hXe⟩ : ∃ x, x = w.heap.size := ⟨_, rfl⟩
    rw [← hXe] at HX
    have HXE := Lib.hid hXe
    have hXb : W1.heap.size + 5 ≤ X := by rw [hXe]; exact hM.bm.lt
    have f2 := hG.sub.cell v hv
    have f3 := hG.sub.len v hv
    have frow := hG.sub.row v hv
    rw [hKv] at f3 frow
    obtain ⟨⟨A, m', cp⟩, hx⟩ : ∃ x, x = rs v := ⟨_, rfl⟩
    rw [← hx] at f2 f3 frow
    have f4 : W1.cell? ⟨g, v, none⟩ = some (.slice A 2 cp) := by rw [f2]; show some (Value.slice A m' cp) = _; rw [show m' = 2 from f3]
    obtain ⟨bR, oR, hR, hbR, hcR⟩ := rdI frow (by rw [iN_len]; simp)
    obtain rfl : A = some ⟨bR, oR, none⟩ := hR
    have f5 : W1.cell? ⟨bR, oR, none⟩ = some (.int .i64 (x.top : Nat)) := by have h := hcR 0 (by rw [iN_len]; simp); rw [iN_get] at h; exact h
    have f6 : W1.cell? ⟨bR, oR + 1, none⟩ = some (.int .i64 (y.top : Nat)) := by have h := hcR 1 (by rw [iN_len]; simp); rw [iN_get] at h; exact h
    have hgl := hG.sub.lt
    have HFF : Hid (∀ w', Below W1.heap.size W1 w' → w'.cell? ⟨XS, 0, none⟩ = some (.slice (some ⟨g, 0, none⟩) n c) ∧ w'.cell? ⟨g, v, none⟩ = some (.slice (some ⟨bR, oR, none⟩) 2 cp) ∧ w'.cell? ⟨bR, oR, none⟩ = some (.int .i64 (x.top : Nat)) ∧ w'.cell? ⟨bR, oR + 1, none⟩ = some (.int .i64 (y.top : Nat))) := fun w' hb =>
      ⟨(hG.bs.below hb).cell 0, (hb.cell (p := ⟨g, v, none⟩) hgl).trans f4, (hb.cell (p := ⟨bR, oR, none⟩) hbR).trans f5, (hb.cell (p := ⟨bR, oR + 1, none⟩) hbR).trans f6⟩
    clear f4 f5 f6 hgl
    obtain ⟨f1, f4, f5, f6⟩ := HFF.out w1 hM1.bel
    -- the node is written, the counter goes on
    obtain ⟨s, hs⟩ : ∃ s, s = nS t v := ⟨_, rfl⟩
    obtain ⟨w2, hw2⟩ : ∃ x, x = ((w1.setCell ⟨W1.heap.size + 1, k * 2, none⟩ (.int .i64 p)).setCell ⟨W1.heap.size + 1, k * 2 + 1, none⟩ (.string s)).setCell ⟨W1.heap.size + 3, 0, none⟩ (.int .i64 ((k + 1 : Nat) : Int)) := ⟨_, rfl⟩
    have hM2 := (hM1.put k (p, s)).next (k + 1)
    rw [← hw2] at hM2
    have b0 : w1.cell? ⟨W1.heap.size + 3, 0, none⟩ = some (.int .i64 k) := hM1.bx.cell 0
    have b1 : w1.frozen? ⟨W1.heap.size + 3, 0, none⟩ = false := hM1.bx.free 0
    have g8 : w1.cell? ⟨W1.heap.size + 2, 0, none⟩ = some (.slice (some ⟨W1.heap.size + 1, 0, none⟩) n n) := hM1.bo.cell 0
    have g9 : w1.cell? ⟨X, 0, none⟩ = some (.int .i64 p) := HX.out.cell 0
    have g10 : w1.cell? ⟨X, 1, none⟩ = some (.string s) := by rw [hs]; exact HX.out.cell 1
    obtain ⟨y0, c0⟩ : ∃ y, w1.cell? ⟨W1.heap.size + 1, k * 2, none⟩ = some y := ⟨_, hM1.bg.getF _ (by omega)⟩
    obtain ⟨y1, c1⟩ : ∃ y, w1.cell? ⟨W1.heap.size + 1, k * 2 + 1, none⟩ = some y := ⟨_, hM1.bg.getF _ (by omega)⟩
    have z0 : w1.frozen? ⟨W1.heap.size + 1, k * 2, none⟩ = false := hM1.bg.free _
    have z1 : w1.frozen? ⟨W1.heap.size + 1, k * 2 + 1, none⟩ = false := hM1.bg.free _
    have HG := Lib.hid hG
    have HM2 := Lib.hid hM2
    have HW2 := Lib.hid hw2
    have HS := Lib.hid hs
    have HK := Lib.hid hKv
    rw [← hs] at e5 HX HW1
    clear hG hlt hlv hM hM1 f2 f3 frow hx hcR hc hw1 hb1 hX hKv hXe hKx hKy ltx lty hM2 hw2 hs ihx ihy hinn
    show Calls Tryd.prog 73 #[.int .i64 (v : Nat), _, _, _, _, _, _, _, _] w fun e w' => e = .returned (.tuple #[]) ∧ MtW W1 XN XS XL n w' (k + (x.inn + y.inn + 1)) (mtF t L (n - m) (Sh.nd v x y).srt p k o)
    go_enter Tryd.func73, Tryd.ntmps73
    go_upto_region 1 with fail
    rw [← HW1.out, ← HXE.out]
    clear e5 e6
    go_upto_region 7 with fail
    have e9 : ((k : Int) + 1) = ((k + 1 : Nat) : Int) := by omega
    rw [e9, ← HW2.out]
    obtain ⟨h1, h2, h3, h4⟩ := HFF.out w2 HM2.out.bel
    clear f1 f4 f5 f6 b0 b1 g8 g9 g10 y0 c0 y1 c1 z0 z1 e9
    refine wp_quiet_tail_lit 13 (by kernel_rfl) (by kernel_rfl) ?_
    simp only [List.take_succ_cons, List.take_zero, List.drop_succ_cons, List.drop_zero]
    repeat (go_big_quiet_step (fail))
    refine wpQuiet_nil ?_
    intro _ hw'
    obtain ⟨nq, hw''⟩ := hw'
    subst hw''
    try simp only [Act.put, List.setIfInBounds_toArray, List.set_cons_zero, List.set_cons_succ]
    go_upto_region 8 with fail
    obtain ⟨w3, hw3⟩ : ∃ x, x = w2.drewN nq := ⟨_, rfl⟩
    have hb3 : Below w2.heap.size w2 w3 := by rw [hw3]; exact bl_drewN (Below.refl _ _) nq
    have hM3 := HM2.out.bl hb3
    rw [← hw3]
    clear hw3 hb3 h1 h2 h3 h4
    have h1 : w3.cell? ⟨W1.heap.size, 0, none⟩ = some (.func (.func 72) #[] #[.pointer (some ⟨XS, 0, none⟩), .pointer (some ⟨W1.heap.size, 0, none⟩)]) := hM3.be.cell 0
    have HCX : Hid (∀ j, Calls Tryd.prog 72 #[.int .i64 (x.top : Nat), .pointer (some ⟨XS, 0, none⟩), .pointer (some ⟨W1.heap.size, 0, none⟩)] (w3.drewN j) fun e w' => e = .returned (.int .i64 (x.least : Nat)) ∧ ∃ i, w' = w3.drewN i) := fun j =>
      (HLX.out (w3.drewN j) ((HG.out.bs.below hM3.bel).drewN j) (hM3.be.drewN j) ((HG.out.sub.bl hM3.bel).drewN j)).mono fun e w' h => ⟨h.1, by obtain ⟨i, hi⟩ := h.2; exact ⟨j + i, by rw [hi, drewN_add]⟩⟩
    have HCY : Hid (∀ j, Calls Tryd.prog 72 #[.int .i64 (y.top : Nat), .pointer (some ⟨XS, 0, none⟩), .pointer (some ⟨W1.heap.size, 0, none⟩)] (w3.drewN j) fun e w' => e = .returned (.int .i64 (y.least : Nat)) ∧ ∃ i, w' = w3.drewN i) := fun j =>
      (HLY.out (w3.drewN j) ((HG.out.bs.below hM3.bel).drewN j) (hM3.be.drewN j) ((HG.out.sub.bl hM3.bel).drewN j)).mono fun e w' h => ⟨h.1, by obtain ⟨i, hi⟩ := h.2; exact ⟨j + i, by rw [hi, drewN_add]⟩⟩
    have HM3 := Lib.hid hM3
    clear hM3 HLX HLY HM2
    have HPX : Hid (x.srt.inn = x.inn) := Sh.srt_inn x
    have HPY : Hid (y.srt.inn = y.inn) := Sh.srt_inn y
    by_cases hlt : y.least < x.least
    all_goals
      obtain ⟨lx, hlx⟩ : ∃ l, l = x.least := ⟨_, rfl⟩
      obtain ⟨ly, hly⟩ : ∃ l, l = y.least := ⟨_, rfl⟩
      have HSR := Lib.hid (Sh.srt_nd v x y)
      rw [← hlx] at HCX hlt HSR
      rw [← hly] at HCY hlt HSR
      clear hlx hly
    · have d1 : decide ((ly : Int) < (lx : Int)) = true := by simp; omega
      have d2 : decide (ly < lx) = true := by simp; omega
      have HF : Hid ((Sh.nd v x y).srt = .nd v y.srt x.srt) := by show _ = _; rw [HSR.out, if_pos hlt]
      clear hlt HSR
      refine wp_region_quiet_lit (by kernel_rfl) (by kernel_rfl) ?_
      repeat (go_big_quiet_step (fail))
      go_big_quiet_step ((exact HCX.out _))
      repeat (go_big_quiet_step (fail))
      go_big_quiet_step ((exact HCY.out _))
      repeat (go_big_quiet_step (fail))
      refine wpQuiet_nil ?_
      intro _ hw'
      obtain ⟨nq2, hw''⟩ := hw'
      subst hw''
      try simp only [Act.put, List.setIfInBounds_toArray, List.set_cons_zero, List.set_cons_succ]
      have HM4 := Lib.hid (HM3.out.bl (bl_drewN (Below.refl _ _) nq2))
      obtain ⟨w4, hw4⟩ : ∃ x, x = w3.drewN nq2 := ⟨_, rfl⟩
      rw [← hw4] at HM4 ⊢
      clear hw4 h1
      have k1 : w4.cell? ⟨W1.heap.size + 4, 0, none⟩ = some (.func (.func 73) #[] #[.pointer (some ⟨XN, 0, none⟩), .pointer (some ⟨XS, 0, none⟩), .pointer (some ⟨XL, 0, none⟩), .pointer (some ⟨W1.heap.size + 2, 0, none⟩), .pointer (some ⟨W1.heap.size + 3, 0, none⟩), .pointer (some ⟨W1.heap.size, 0, none⟩), .pointer (some ⟨W1.heap.size + 4, 0, none⟩)]) := HM4.out.bm.cell 0
      have HC := Lib.hid (HIY.out w4 (k : Int) (k + 1) _ HM4.out (by omega))
      go_wp2_with fail
      refine HC.out.mono ?_
      rintro e w5 ⟨rfl, hM5⟩
      have HC2 := Lib.hid (HIX.out w5 (k : Int) (k + 1 + y.inn) _ hM5 (by omega))
      have k2 : w5.cell? ⟨W1.heap.size + 4, 0, none⟩ = some (.func (.func 73) #[] #[.pointer (some ⟨XN, 0, none⟩), .pointer (some ⟨XS, 0, none⟩), .pointer (some ⟨XL, 0, none⟩), .pointer (some ⟨W1.heap.size + 2, 0, none⟩), .pointer (some ⟨W1.heap.size + 3, 0, none⟩), .pointer (some ⟨W1.heap.size, 0, none⟩), .pointer (some ⟨W1.heap.size + 4, 0, none⟩)]) := hM5.bm.cell 0
      clear hM5 k1 HC
      go_wp2_with fail
      refine HC2.out.mono ?_
      rintro e w6 ⟨rfl, hM6⟩
      have HM6 := Lib.hid hM6
      clear hM6 k2 HC2
      go_wp2_with fail
      go_end0
      refine ⟨rfl, ?_⟩
      rw [HF.out]
      show MtW W1 XN XS XL n w6 (k + (x.inn + y.inn + 1)) (mtF t L (n - m) x.srt k (k + 1 + y.srt.inn) (mtF t L (n - m) y.srt k (k + 1) (fun i => if i = k then (p, nS t v) else o i)))
      rw [HPY.out, ← HS.out, show k + (x.inn + y.inn + 1) = k + 1 + y.inn + x.inn by omega]
      exact HM6.out
    · have d1 : decide ((ly : Int) < (lx : Int)) = false := by simp; omega
      have d2 : decide (ly < lx) = false := by simp; omega
      have HF : Hid ((Sh.nd v x y).srt = .nd v x.srt y.srt) := by show _ = _; rw [HSR.out, if_neg hlt]
      clear hlt HSR
      refine wp_region_quiet_lit (by kernel_rfl) (by kernel_rfl) ?_
      repeat (go_big_quiet_step (fail))
      go_big_quiet_step ((exact HCX.out _))
      repeat (go_big_quiet_step (fail))
      go_big_quiet_step ((exact HCY.out _))
      repeat (go_big_quiet_step (fail))
      refine wpQuiet_nil ?_
      intro _ hw'
      obtain ⟨nq2, hw''⟩ := hw'
      subst hw''
      try simp only [Act.put, List.setIfInBounds_toArray, List.set_cons_zero, List.set_cons_succ]
      have HM4 := Lib.hid (HM3.out.bl (bl_drewN (Below.refl _ _) nq2))
      obtain ⟨w4, hw4⟩ : ∃ x, x = w3.drewN nq2 := ⟨_, rfl⟩
      rw [← hw4] at HM4 ⊢
      clear hw4 h1
      have k1 : w4.cell? ⟨W1.heap.size + 4, 0, none⟩ = some (.func (.func 73) #[] #[.pointer (some ⟨XN, 0, none⟩), .pointer (some ⟨XS, 0, none⟩), .pointer (some ⟨XL, 0, none⟩), .pointer (some ⟨W1.heap.size + 2, 0, none⟩), .pointer (some ⟨W1.heap.size + 3, 0, none⟩), .pointer (some ⟨W1.heap.size, 0, none⟩), .pointer (some ⟨W1.heap.size + 4, 0, none⟩)]) := HM4.out.bm.cell 0
      have HC := Lib.hid (HIX.out w4 (k : Int) (k + 1) _ HM4.out (by omega))
      go_wp2_with fail
      refine HC.out.mono ?_
      rintro e w5 ⟨rfl, hM5⟩
      have HC2 := Lib.hid (HIY.out w5 (k : Int) (k + 1 + x.inn) _ hM5 (by omega))
      have k2 : w5.cell? ⟨W1.heap.size + 4, 0, none⟩ = some (.func (.func 73) #[] #[.pointer (some ⟨XN, 0, none⟩), .pointer (some ⟨XS, 0, none⟩), .pointer (some ⟨XL, 0, none⟩), .pointer (some ⟨W1.heap.size + 2, 0, none⟩), .pointer (some ⟨W1.heap.size + 3, 0, none⟩), .pointer (some ⟨W1.heap.size, 0, none⟩), .pointer (some ⟨W1.heap.size + 4, 0, none⟩)]) := hM5.bm.cell 0
      clear hM5 k1 HC
      go_wp2_with fail
      refine HC2.out.mono ?_
      rintro e w6 ⟨rfl, hM6⟩
      have HM6 := Lib.hid hM6
      clear hM6 k2 HC2
      go_wp2_with fail
      go_end0
      refine ⟨rfl, ?_⟩
      rw [HF.out]
      show MtW W1 XN XS XL n w6 (k + (x.inn + y.inn + 1)) (mtF t L (n - m) y.srt k (k + 1 + x.srt.inn) (mtF t L (n - m) x.srt k (k + 1) (fun i => if i = k then (p, nS t v) else o i)))
      rw [HPX.out, ← HS.out, show k + (x.inn + y.inn + 1) = k + 1 + x.inn + y.inn by omega]
      exact HM6.out
end Go.Proofs.YtjmnakkkimgifaaDoor
namespace Go.Proofs.YtjmnakkkimgifaaDoor
open Go Go.RowKit Go.Shelf
/-- The leaves: the nodes without children. -/
def lvK (K : Nat → List Nat) (k : Nat) : List Nat := (List.range k).filter fun v => (K v).isEmpty
theorem lvK_snoc (K : Nat → List Nat) (k : Nat) : lvK K (k + 1) = lvK K k ++ (if (K k).isEmpty then [k] else []) := by
  unfold lvK
  rw [List.range_succ, List.filter_append]
  congr 1
  by_cases q : (K k).isEmpty <;> simp [q]
theorem lvK_le (K : Nat → List Nat) (k : Nat) : (lvK K k).length ≤ k := by
  have := List.length_filter_le (fun v => (K v).isEmpty) (List.range k)
  simpa [lvK] using this
theorem lvK_pw (K : Nat → List Nat) (k : Nat) : (lvK K k).Pairwise (· < ·) := List.Pairwise.filter _ List.pairwise_lt_range
theorem Sh.lvs_sublist : ∀ s : Sh, s.lvs.Sublist s.all
  | .lf _ => List.Sublist.refl _
  | .nd v a b => ((lvs_sublist a).append (lvs_sublist b)).cons v
theorem lvK_perm {K : Nat → List Nat} {n : Nat} {s : Sh} (hK : Sub K s) (hp : s.all.Perm (List.range n)) (hn : s.all.Nodup) : (lvK K n).Perm s.lvs := by
  refine (List.perm_ext_iff_of_nodup ((lvK_pw K n).imp (fun h => Nat.ne_of_lt h)) ?_).2 fun u => ?_
  · exact (Sh.lvs_sublist s).nodup hn
  · unfold lvK
    rw [List.mem_filter, List.isEmpty_iff, sub_lvs hK u, hp.mem_iff]
theorem nds_made (n : Nat) : madeCells #[Value.int .i64 0, Value.string ByteArray.empty] (n * 2) = ofF (n * 2) (outC fun _ => (0, ByteArray.empty)) := by
  apply Array.ext
  · simp [madeCells, ofF]
  · intro i h1 h2
    have : i % 2 = 0 ∨ i % 2 = 1 := by omega
    rcases this with q | q <;> simp [madeCells, ofF, outC, q]
set_option maxRecDepth 100000 in
set_option maxHeartbeats 4000000 in
theorem numbered_any (a : Option Addr) (n ca g c : Nat) (t : List Nd) (K : Nat → List Nat) (rs : Nat → Rw) (s : Sh) (w : World) (tn : t.length = n) (n65 : n ≤ 65) (hA : Rd w a (fl encNd t)) (hS : SubR w g n K rs) (hK : Sub K s) (h0 : s.top = 0) (hp : s.all.Perm (List.range n)) :
    Calls Tryd.prog 55 #[.slice a n ca, .slice (some ⟨g, 0, none⟩) n c] w fun e w' => ∃ g', e = .returned (.slice (some ⟨g', 0, none⟩) n n) ∧ w'.ownsRow w.heap.size 41 2 (.slice (some ⟨g', 0, none⟩) n n) n (fl encNd (numL t (lvK K n) s)) ∧ Below w.heap.size w w' := by
  have HLK := Lib.hid (lvK_snoc K)
  have HLE := Lib.hid (lvK_le K)
  have HT := Lib.hid tn
  have hb3 : Below w.heap.size w (((w.alloc (.cells #[.slice a n ca] 33)).alloc (.cells #[.slice (some ⟨g, 0, none⟩) n c] 79)).alloc (.cells #[.slice none 0 0] 27)) := bl_alloc (bl_alloc (bl_alloc (Below.refl _ _) _) _) _
  have q1 := ((Blk.new w #[.slice a n ca] 33).alloc (.cells #[.slice (some ⟨g, 0, none⟩) n c] 79)).alloc (.cells #[.slice none 0 0] 27)
  have q2 := (Blk.new2 w (.cells #[.slice a n ca] 33) #[.slice (some ⟨g, 0, none⟩) n c] 79).alloc (.cells #[.slice none 0 0] 27)
  have q3 := Blk.new ((w.alloc (.cells #[.slice a n ca] 33)).alloc (.cells #[.slice (some ⟨g, 0, none⟩) n c] 79)) #[.slice none 0 0] 27
  have hz3 : (((w.alloc (.cells #[.slice a n ca] 33)).alloc (.cells #[.slice (some ⟨g, 0, none⟩) n c] 79)).alloc (.cells #[.slice none 0 0] 27)).heap.size = w.heap.size + 3 := by simp
  rw [show ((w.alloc (.cells #[.slice a n ca] 33)).alloc (.cells #[.slice (some ⟨g, 0, none⟩) n c] 79)).heap.size = w.heap.size + 2 by simp] at q3
  have HA := Lib.hid hA
  have HS := Lib.hid hS
  have HK := Lib.hid hK
  have H0 := Lib.hid h0
  have HP := Lib.hid hp
  clear tn hA hS hK h0 hp
  go_enter Tryd.func55, Tryd.ntmps55
  go_upto_region 2 with fail
  obtain ⟨X, hX⟩ : ∃ x, x = w.heap.size := ⟨_, rfl⟩
  obtain ⟨w3, hw3⟩ : ∃ x, x = (((w.alloc (.cells #[.slice a n ca] 33)).alloc (.cells #[.slice (some ⟨g, 0, none⟩) n c] 79)).alloc (.cells #[.slice none 0 0] 27)) := ⟨_, rfl⟩
  rw [← hw3] at hb3 q1 q2 q3 hz3 ⊢
  rw [← hX] at q1 q2 q3 hz3 ⊢
  have HX := Lib.hid hX
  have HB3 : Hid (Below X w w3) := by rw [hX]; exact hb3
  have Q1 := Lib.hid q1
  have Q2 := Lib.hid q2
  have Q3 := Lib.hid q3
  have HZ3 := Lib.hid hz3
  clear hw3 hX hb3 q3 hz3
  have e1 : w3.cell? ⟨X, 0, none⟩ = some (.slice a n ca) := q1.cell 0
  clear q1 q2
  go_wp2_with fail
  clear e1
  have Q3' : Hid (Blk w3 (X + 1 + 1) #[.slice none 0 0] 27) := Q3.out
  go_loopw [13] (fun x wr => ∃ k : Nat, k ≤ n ∧ x = .int .i64 k ∧ Hid (Blk wr X #[.slice a n ca] 33) ∧ Hid (Blk wr (X + 1) #[.slice (some ⟨g, 0, none⟩) n c] 79) ∧ (∃ v, Hid (Blk wr (X + 1 + 1) #[v] 27) ∧ Hid (wr.ownsRow (X + 3) 3 1 v (lvK K k).length (fl encI (iN (lvK K k)))) ∧ X + 3 ≤ wr.heap.size) ∧ Hid (Below X w wr)) (fun x _ => n - (intOf x).toNat)
  case atStart => exact ⟨0, by omega, rfl, Q1, Q2, ⟨_, Q3', World.ownsRow_nil _ _ _ _, by rw [HZ3.out]; exact Nat.le_refl _⟩, HB3⟩
  case round =>
    clear Q1 Q2 Q3 Q3'
    obtain ⟨k, hk, rfl, hq1, hq2, ⟨v, hq3, how, hsz⟩, hbl⟩ := hrel
    have HBL : Hid (Below w.heap.size w wr) := by have h := hbl.out; rw [HX.out] at h; exact h
    by_cases hlt : k < n
    · have hS1 := HS.out.bl HBL.out
      have e1 : wr.cell? ⟨X + 1, 0, none⟩ = some (.slice (some ⟨g, 0, none⟩) n c) := hq2.out.cell 0
      have f2 := hS1.cell k hlt
      have f3 := hS1.len k hlt
      obtain ⟨⟨A, m, cp⟩, hx⟩ : ∃ x, x = rs k := ⟨_, rfl⟩
      rw [← hx] at f2 f3
      have f4 : wr.cell? ⟨g, k, none⟩ = some (.slice A m cp) := f2
      have f5 : m = (K k).length := f3
      have hsn := Lib.hid (HLK.out k)
      have hie : (K k).isEmpty = decide (m = 0) := by rw [f5]; cases K k <;> rfl
      have HIE := Lib.hid hie
      obtain ⟨Av, cv, rfl, hAv⟩ := owns_slice how.out
      have e2 : wr.cell? ⟨X + 1 + 1, 0, none⟩ = some (.slice Av (lvK K k).length cv) := hq3.out.cell 0
      have hl63 := HLE.out k
      obtain ⟨q, hq⟩ : ∃ q, q = (lvK K k).length := ⟨_, rfl⟩
      rw [← hq] at how hl63 e2 hq3
      have HQ := Lib.hid hq
      have hne : (Value.slice Av q cv).ownBlock ≠ some (X + 1 + 1) := fun e => by have := (how.out.lt _ e).1; omega
      have HNE := Lib.hid hne
      clear hS1 f2 f3 f5 hx hie hq hne hAv
      by_cases h0 : m = 0
      · have hs : Hid (lvK K (k + 1) = lvK K k ++ [k]) := by show _ = _; rw [hsn.out, HIE.out, decide_eq_true h0]; rfl
        subst h0
        go_wp2_with (at_builtin; refine push_I rfl (.tmp 22) (.tmp 24) rfl (X + 3) (.slice Av q cv) (iN (lvK K k)) q (by rw [iN_len]; exact HQ.out) rfl (how.out.alloc _) _ _ (k : Int) rfl (Blk.new _ _ _) (by omega) (by rw [World.size_alloc]; omega) ?_; intro g2 cap w8 h81 h82 h83 h84; rw [← iN_snoc, ← hs.out] at h81; have H81 := Lib.hid h81; have H82 := Lib.hid h82; have q8 := Lib.hid ((hq3.out.alloc (.cells #[.int .i64 k] 3)).grown h82 (Ne.symm HNE.out)); have c8 : w8.cell? ⟨X + 1 + 1, 0, none⟩ = some (.slice Av q cv) := q8.out.cell 0; have z8 : w8.frozen? ⟨X + 1 + 1, 0, none⟩ = false := q8.out.free 0; clear h81 h82 h83)
        have hrel : X + 3 ≤ w8.heap.size := by have := H82.out.size; rw [World.size_alloc] at this; omega
        have hr1 := ((hq1.out.alloc (.cells #[.int .i64 k] 3)).grown H82.out (fun e => by have := (how.out.lt X e.symm).1; omega)).other (show X ≠ X + 1 + 1 by omega) 0 (.slice (some ⟨g2, 0, none⟩) (q + 1) cap)
        have hr2 := ((hq2.out.alloc (.cells #[.int .i64 k] 3)).grown H82.out (fun e => by have := (how.out.lt (X + 1) e.symm).1; omega)).other (show X + 1 ≠ X + 1 + 1 by omega) 0 (.slice (some ⟨g2, 0, none⟩) (q + 1) cap)
        have hr3 := q8.out.set 0 (.slice (some ⟨g2, 0, none⟩) (q + 1) cap)
        have hlen : q + 1 = (lvK K (k + 1)).length := by rw [hs.out, List.length_append, ← HQ.out]; rfl
        have hr4 : (w8.setCell ⟨X + 1 + 1, 0, none⟩ (.slice (some ⟨g2, 0, none⟩) (q + 1) cap)).ownsRow (X + 3) 3 1 (.slice (some ⟨g2, 0, none⟩) (q + 1) cap) (lvK K (k + 1)).length (fl encI (iN (lvK K (k + 1)))) := by
          rw [← hlen]
          exact ownsRow_setCell_other (a := ⟨X + 1 + 1, 0, none⟩) H81.out (fun e => by have : X + 3 ≤ X + 1 + 1 := (H81.out.lt _ e).1; omega) _
        have hr5 : Below X w (w8.setCell ⟨X + 1 + 1, 0, none⟩ (.slice (some ⟨g2, 0, none⟩) (q + 1) cap)) := by
          have h := bl_set (bl_grown (bl_alloc HBL.out (.cells #[.int .i64 k] 3)) H82.out (fun r e => by have := (how.out.lt r e).1; have := HX.out; omega)) (X + 1 + 1) 0 none (.slice (some ⟨g2, 0, none⟩) (q + 1) cap) (by have := HX.out; omega)
          rw [← HX.out] at h; exact h
        have HR1 := Lib.hid hr1
        have HR2 := Lib.hid hr2
        have HR3 := Lib.hid hr3
        have HR4 := Lib.hid hr4
        have HR5 := Lib.hid hr5
        have HSZ : X + 3 ≤ (w8.setCell ⟨X + 1 + 1, 0, none⟩ (.slice (some ⟨g2, 0, none⟩) (q + 1) cap)).heap.size := by simp [World.setCell]; exact hrel
        clear hr1 hr2 hr3 hr4 hr5 hlen hrel c8 z8 e1 e2 f4
        go_roundw
        case rel => exact ⟨k + 1, by omega, by go_num, HR1, HR2, ⟨_, HR3, HR4, HSZ⟩, HR5⟩
        case measure => simp [intOf]; omega
      · have hs : Hid (lvK K (k + 1) = lvK K k) := by show _ = _; rw [hsn.out, HIE.out, decide_eq_false h0]; simp
        have t1 : ((m : Int) == 0) = false := by simp; omega
        have t2 : decide ((m : Int) = 0) = false := by simp; omega
        have t3 : decide (m = 0) = false := by simp; omega
        have t4 : (m == 0) = false := by simp; omega
        clear h0 hsn
        go_wp2_with fail
        go_roundw
        case rel => exact ⟨k + 1, by omega, by go_num, hq1, hq2, ⟨_, hq3, by rw [hs.out, ← HQ.out]; exact how, hsz⟩, hbl⟩
        case measure => simp [intOf]; omega
    · obtain rfl : k = n := by omega
      obtain ⟨Av, cv, rfl, hAv⟩ := owns_slice how.out
      go_upto_region 10 with fail
      obtain ⟨b1, hb1⟩ : ∃ x, x = wr.heap.size := ⟨_, rfl⟩
      rw [← hb1]
      have hE := Blk.new wr #[.func (.func 72) #[] #[.pointer (some ⟨X + 1, 0, none⟩), .pointer (some ⟨b1, 0, none⟩)]] 112
      have hl4 := bl_alloc (Below.refl _ wr) (.cells #[.func (.func 72) #[] #[.pointer (some ⟨X + 1, 0, none⟩), .pointer (some ⟨b1, 0, none⟩)]] 112)
      have hz4 : (wr.alloc (.cells #[.func (.func 72) #[] #[.pointer (some ⟨X + 1, 0, none⟩), .pointer (some ⟨b1, 0, none⟩)]] 112)).heap.size = b1 + 1 := by rw [hb1]; simp
      obtain ⟨w4, hw4⟩ : ∃ x, x = wr.alloc (.cells #[.func (.func 72) #[] #[.pointer (some ⟨X + 1, 0, none⟩), .pointer (some ⟨b1, 0, none⟩)]] 112) := ⟨_, rfl⟩
      rw [← hw4] at hE hl4 hz4 ⊢
      rw [← hb1] at hE
      have e1 : w4.cell? ⟨X, 0, none⟩ = some (.slice a k ca) := (hq1.out.below hl4).cell 0
      obtain ⟨i0, hi0, hz0, hz1, hz2⟩ := info_parts info_Nd
      have hmk := run_make (P := Tryd.prog) w4 33 41 i0 _ Tryd.underlying33 hi0 hz0 .i64 .i64 (k : Int) (k : Int) (by omega) (by omega) (by rw [hz2]; omega) (by omega)
      simp only [hz1, Int.toNat_natCast] at hmk
      have HE := Lib.hid hE
      have HL4 := Lib.hid hl4
      have HZ4 := Lib.hid hz4
      have HB1 := Lib.hid hb1
      clear hi0 hz0 hz1 hz2 hw4 hb1 hE hl4
      go_upto_region 14 with fail
      rw [nds_made]
      simp only [show b1 + 1 + 1 = b1 + 2 from rfl, show b1 + 2 + 1 = b1 + 3 from rfl, show b1 + 3 + 1 = b1 + 4 from rfl]
      have z1 : (w4.alloc (.cells (ofF (k * 2) (outC fun _ => (0, ByteArray.empty))) 41)).heap.size = b1 + 2 := by rw [World.size_alloc, HZ4.out]
      have z2 : ((w4.alloc (.cells (ofF (k * 2) (outC fun _ => (0, ByteArray.empty))) 41)).alloc (.cells #[.slice (some ⟨b1 + 1, 0, none⟩) k k] 33)).heap.size = b1 + 3 := by rw [World.size_alloc, z1]
      have z3 : (((w4.alloc (.cells (ofF (k * 2) (outC fun _ => (0, ByteArray.empty))) 41)).alloc (.cells #[.slice (some ⟨b1 + 1, 0, none⟩) k k] 33)).alloc (.cells #[.int .i64 0] 3)).heap.size = b1 + 4 := by rw [World.size_alloc, z2]
      have B1 := (((Blk.new w4 (ofF (k * 2) (outC fun _ => (0, ByteArray.empty))) 41).alloc (.cells #[.slice (some ⟨b1 + 1, 0, none⟩) k k] 33)).alloc (.cells #[.int .i64 0] 3)).alloc (.cells #[.func (.func 73) #[] #[.pointer (some ⟨X, 0, none⟩), .pointer (some ⟨X + 1, 0, none⟩), .pointer (some ⟨X + 1 + 1, 0, none⟩), .pointer (some ⟨b1 + 2, 0, none⟩), .pointer (some ⟨b1 + 3, 0, none⟩), .pointer (some ⟨b1, 0, none⟩), .pointer (some ⟨b1 + 4, 0, none⟩)]] 113)
      have B2 := ((Blk.new (w4.alloc (.cells (ofF (k * 2) (outC fun _ => (0, ByteArray.empty))) 41)) #[.slice (some ⟨b1 + 1, 0, none⟩) k k] 33).alloc (.cells #[.int .i64 0] 3)).alloc (.cells #[.func (.func 73) #[] #[.pointer (some ⟨X, 0, none⟩), .pointer (some ⟨X + 1, 0, none⟩), .pointer (some ⟨X + 1 + 1, 0, none⟩), .pointer (some ⟨b1 + 2, 0, none⟩), .pointer (some ⟨b1 + 3, 0, none⟩), .pointer (some ⟨b1, 0, none⟩), .pointer (some ⟨b1 + 4, 0, none⟩)]] 113)
      have B3 := (Blk.new ((w4.alloc (.cells (ofF (k * 2) (outC fun _ => (0, ByteArray.empty))) 41)).alloc (.cells #[.slice (some ⟨b1 + 1, 0, none⟩) k k] 33)) #[.int .i64 0] 3).alloc (.cells #[.func (.func 73) #[] #[.pointer (some ⟨X, 0, none⟩), .pointer (some ⟨X + 1, 0, none⟩), .pointer (some ⟨X + 1 + 1, 0, none⟩), .pointer (some ⟨b1 + 2, 0, none⟩), .pointer (some ⟨b1 + 3, 0, none⟩), .pointer (some ⟨b1, 0, none⟩), .pointer (some ⟨b1 + 4, 0, none⟩)]] 113)
      have B4 := Blk.new (((w4.alloc (.cells (ofF (k * 2) (outC fun _ => (0, ByteArray.empty))) 41)).alloc (.cells #[.slice (some ⟨b1 + 1, 0, none⟩) k k] 33)).alloc (.cells #[.int .i64 0] 3)) #[.func (.func 73) #[] #[.pointer (some ⟨X, 0, none⟩), .pointer (some ⟨X + 1, 0, none⟩), .pointer (some ⟨X + 1 + 1, 0, none⟩), .pointer (some ⟨b1 + 2, 0, none⟩), .pointer (some ⟨b1 + 3, 0, none⟩), .pointer (some ⟨b1, 0, none⟩), .pointer (some ⟨b1 + 4, 0, none⟩)]] 113
      have B0 := (((HE.out.alloc (.cells (ofF (k * 2) (outC fun _ => (0, ByteArray.empty))) 41)).alloc (.cells #[.slice (some ⟨b1 + 1, 0, none⟩) k k] 33)).alloc (.cells #[.int .i64 0] 3)).alloc (.cells #[.func (.func 73) #[] #[.pointer (some ⟨X, 0, none⟩), .pointer (some ⟨X + 1, 0, none⟩), .pointer (some ⟨X + 1 + 1, 0, none⟩), .pointer (some ⟨b1 + 2, 0, none⟩), .pointer (some ⟨b1 + 3, 0, none⟩), .pointer (some ⟨b1, 0, none⟩), .pointer (some ⟨b1 + 4, 0, none⟩)]] 113)
      have hl5 : Below wr.heap.size wr ((((w4.alloc (.cells (ofF (k * 2) (outC fun _ => (0, ByteArray.empty))) 41)).alloc (.cells #[.slice (some ⟨b1 + 1, 0, none⟩) k k] 33)).alloc (.cells #[.int .i64 0] 3)).alloc (.cells #[.func (.func 73) #[] #[.pointer (some ⟨X, 0, none⟩), .pointer (some ⟨X + 1, 0, none⟩), .pointer (some ⟨X + 1 + 1, 0, none⟩), .pointer (some ⟨b1 + 2, 0, none⟩), .pointer (some ⟨b1 + 3, 0, none⟩), .pointer (some ⟨b1, 0, none⟩), .pointer (some ⟨b1 + 4, 0, none⟩)]] 113)) := bl_alloc (bl_alloc (bl_alloc (bl_alloc HL4.out _) _) _) _
      rw [HZ4.out] at B1
      rw [z1] at B2
      rw [z2] at B3
      rw [z3] at B4
      obtain ⟨w5, hw5⟩ : ∃ x, x = (((w4.alloc (.cells (ofF (k * 2) (outC fun _ => (0, ByteArray.empty))) 41)).alloc (.cells #[.slice (some ⟨b1 + 1, 0, none⟩) k k] 33)).alloc (.cells #[.int .i64 0] 3)).alloc (.cells #[.func (.func 73) #[] #[.pointer (some ⟨X, 0, none⟩), .pointer (some ⟨X + 1, 0, none⟩), .pointer (some ⟨X + 1 + 1, 0, none⟩), .pointer (some ⟨b1 + 2, 0, none⟩), .pointer (some ⟨b1 + 3, 0, none⟩), .pointer (some ⟨b1, 0, none⟩), .pointer (some ⟨b1 + 4, 0, none⟩)]] 113) := ⟨_, rfl⟩
      rw [← hw5] at B0 B1 B2 B3 B4 hl5 ⊢
      clear z1 z2 z3 hw5 e1 hmk
      rw [HB1.out] at B0 B1 B2 B3 B4 ⊢
      have hM : MtW wr X (X + 1) (X + 1 + 1) k w5 0 (fun _ => (0, ByteArray.empty)) := ⟨hl5, B0, B1, B2, B3, B4⟩
      obtain ⟨m, hm⟩ : ∃ m, m = (lvK K k).length := ⟨_, rfl⟩
      rw [← hm] at how hq3
      have hG : MtG wr X (X + 1) (X + 1 + 1) g k ca c cv m a Av t K rs (lvK K k) := ⟨hq1.out, hq2.out, hq3.out, HA.out.bl HBL.out, HS.out.bl HBL.out, rd_of_owns how.out, HT.out, hm.symm, lvK_pw K k, n65, by rw [hm]; exact lvK_le K k⟩
      have hnd : s.all.Nodup := HP.out.nodup_iff.2 List.nodup_range
      have hLp := lvK_perm HK.out HP.out hnd
      have hlen : k = 2 * s.inn + 1 := by rw [← Sh.all_len, HP.out.length_eq, List.length_range]
      have hml : m = s.inn + 1 := by rw [hm, hLp.length_eq, Sh.lvs_inn]
      have hlt9 : ∀ u, u ∈ s.all → u < k := fun u hu => List.mem_range.1 (HP.out.mem_iff.1 hu)
      have h9 := meet_any wr X (X + 1) (X + 1 + 1) g k ca c cv m a Av t K rs (lvK K k) hG s HK.out hlt9 (fun u hu => hLp.mem_iff.2 hu) w5 (-1) 0 _ hM (by omega)
      rw [H0.out] at h9
      have hki : k - m = s.inn := by omega
      rw [hki] at h9
      have HC : Hid (Calls Tryd.prog 73 #[.int .i64 0, .int .i64 (-1), .pointer (some ⟨X, 0, none⟩), .pointer (some ⟨X + 1, 0, none⟩), .pointer (some ⟨X + 1 + 1, 0, none⟩), .pointer (some ⟨wr.heap.size + 2, 0, none⟩), .pointer (some ⟨wr.heap.size + 3, 0, none⟩), .pointer (some ⟨wr.heap.size, 0, none⟩), .pointer (some ⟨wr.heap.size + 4, 0, none⟩)] w5 fun e w' => e = .returned (.tuple #[]) ∧ MtW wr X (X + 1) (X + 1 + 1) k w' (0 + s.inn) (mtF t (lvK K k) s.inn s.srt (-1) 0 (fun _ => (0, ByteArray.empty)))) := h9
      have e4 : w5.cell? ⟨wr.heap.size + 4, 0, none⟩ = some (.func (.func 73) #[] #[.pointer (some ⟨X, 0, none⟩), .pointer (some ⟨X + 1, 0, none⟩), .pointer (some ⟨X + 1 + 1, 0, none⟩), .pointer (some ⟨wr.heap.size + 2, 0, none⟩), .pointer (some ⟨wr.heap.size + 3, 0, none⟩), .pointer (some ⟨wr.heap.size, 0, none⟩), .pointer (some ⟨wr.heap.size + 4, 0, none⟩)]) := B4.cell 0
      have HND := Lib.hid hnd
      have HLP := Lib.hid hLp
      have HML := Lib.hid hml
      have HLEN := Lib.hid hlen
      have HM := Lib.hid hm
      clear h9 hM hG B0 B1 B2 B3 B4 hl5 hnd hLp hlen hml hki hlt9 hm
      go_wp2_with fail
      refine HC.out.mono ?_
      rintro e w6 ⟨rfl, hM6⟩
      have e5 : w6.cell? ⟨wr.heap.size + 2, 0, none⟩ = some (.slice (some ⟨wr.heap.size + 1, 0, none⟩) k k) := hM6.bo.cell 0
      have HM6 := Lib.hid hM6
      clear hM6 HC e4
      go_wp2_with fail
      go_ret
      refine ⟨wr.heap.size + 1, rfl, ?_, bl_trans HBL.out HM6.out.bel⟩
      have hsl : s.srt.lvs.Nodup := (Sh.srt_lvs s).nodup_iff.2 ((Sh.lvs_sublist s).nodup HND.out)
      have hsp : (lvK K k).Perm s.srt.lvs := HLP.out.trans (Sh.srt_lvs s).symm
      have hnl : (numL t (lvK K k) s).length = k := by
        unfold numL
        rw [numS_len, Sh.srt_inn, ← HM.out, HML.out, HLEN.out]; omega
      have hbg := HM6.out.bg
      have e9 : ofF (k * 2) (outC (mtF t (lvK K k) s.inn s.srt (-1) 0 (fun _ => (0, ByteArray.empty)))) = ofF (k * 2) (outC fun j => (numL t (lvK K k) s).getD j (0, ByteArray.empty)) := ofF_congr fun i hi => by
        have h := mtF_all (t := t) (L := lvK K k) (s := s.srt) (o := fun _ => (0, ByteArray.empty)) hsl hsp (i := i / 2) (by rw [Sh.srt_inn, ← HM.out, HML.out]; have := HLEN.out; omega)
        rw [Sh.srt_inn] at h
        unfold outC
        rw [h]; rfl
      rw [e9] at hbg
      refine ⟨by rw [fl_length encNd_len, hnl], .inr ⟨wr.heap.size + 1, k, _, rfl, ?_, hbg, Nat.le_refl _, by unfold maxLen; omega, by rw [ofF_size], ?_⟩⟩
      · have := HBL.out.size; omega
      · have h := outC_fl (numL t (lvK K k) s)
        rw [hnl] at h
        rw [h, List.take_of_length_le (by rw [fl_length encNd_len, hnl]; exact Nat.le_refl _)]
end Go.Proofs.YtjmnakkkimgifaaDoor
namespace Go.Proofs.YtjmnakkkimgifaaDoor
open Go Go.RowKit Go.Shelf
def subB (K : Nat → List Nat) : Sh → Bool
  | .lf v => (K v).isEmpty
  | .nd v a b => decide (K v = [a.top, b.top]) && subB K a && subB K b
theorem subB_iff {K : Nat → List Nat} : ∀ {s : Sh}, subB K s = true → Sub K s := by
  intro s
  induction s with
  | lf v => intro h; exact List.isEmpty_iff.1 h
  | nd v a b iha ihb =>
    intro h
    simp only [subB, Bool.and_eq_true, decide_eq_true_eq] at h
    exact ⟨h.1.1, iha h.1.2, ihb h.2⟩
/-- The children when leaf n + 1 has become the sister of node v of a tree of n nodes. -/
def kG (t : List Nd) (n v : Nat) : Nat → List Nat := fun r =>
  if nP t v < 0 then (if r = 0 then [n, n + 1] else if r = n then famL t n 0 else if r = n + 1 then [] else famL t n r)
  else if r = n then [v, n + 1] else if r = n + 1 then [] else if r = (nP t v).toNat then (famL t n r).set ((famL t n r).idxOf v) n else famL t n r
def sG (t : List Nd) (n v : Nat) : Sh := shF (kG t n v) (n + 2) 0
def nG (t : List Nd) : List Nd := t ++ [(0, ByteArray.empty), (0, ByteArray.empty)]
/-- The tree with one leaf more. -/
def grownL (t : List Nd) (v : Nat) : List Nd := numL (nG t) (lvK (kG t t.length v) (t.length + 2)) (sG t t.length v)
/-- A tree without names. -/
def mkN (ps : List Int) : List Nd := ps.map fun p => (p, ByteArray.empty)
/-- What is needed of a tree that grows. -/
def okG (t : List Nd) (v : Nat) : Bool := subB (kG t t.length v) (sG t t.length v) && decide ((sG t t.length v).top = 0) && (sG t t.length v).all.isPerm (List.range (t.length + 2)) && decide ((sG t t.length v).inn + (lvK (kG t t.length v) (t.length + 2)).length = t.length + 2)
def okP (t : List Nd) : Bool := decide (nP t 0 = -1) && (List.range t.length).all fun v => decide (v = 0) || (decide (0 ≤ nP t v) && decide (nP t v < (v : Int)))
def okS (A B : List (List Int)) (n : Nat) : Bool := (A.all fun ps => decide (ps.length = n) && okP (mkN ps) && (List.range n).all (okG (mkN ps))) && decide ((A.flatMap fun ps => (List.range ps.length).map fun v => (grownL (mkN ps) v).map (·.1)) = B)
def trP1 : List (List Int) := [[-1]]
def trP2 : List (List Int) := [[-1, 0, 0]]
def trP3 : List (List Int) := [[-1, 0, 1, 1, 0], [-1, 0, 1, 0, 1], [-1, 0, 0, 1, 1]]
def trP4 : List (List Int) := [[-1, 0, 1, 2, 2, 1, 0], [-1, 0, 1, 2, 2, 0, 1], [-1, 0, 1, 2, 1, 0, 2], [-1, 0, 1, 1, 2, 0, 2], [-1, 0, 0, 1, 1, 2, 2], [-1, 0, 1, 2, 1, 2, 0], [-1, 0, 1, 2, 0, 2, 1], [-1, 0, 1, 2, 0, 1, 2], [-1, 0, 0, 1, 2, 1, 2], [-1, 0, 1, 1, 0, 2, 2], [-1, 0, 1, 1, 2, 2, 0], [-1, 0, 1, 0, 2, 2, 1], [-1, 0, 0, 1, 2, 2, 1], [-1, 0, 1, 0, 2, 1, 2], [-1, 0, 1, 0, 1, 2, 2]]
def trP5 : List (List Int) := [[-1, 0, 1, 2, 3, 3, 2, 1, 0], [-1, 0, 1, 2, 3, 3, 2, 0, 1], [-1, 0, 1, 2, 3, 3, 1, 0, 2], [-1, 0, 1, 2, 3, 2, 1, 0, 3], [-1, 0, 1, 2, 2, 3, 1, 0, 3], [-1, 0, 1, 1, 2, 2, 3, 0, 3], [-1, 0, 1, 0, 2, 2, 1, 3, 3], [-1, 0, 1, 2, 3, 3, 1, 2, 0], [-1, 0, 1, 2, 3, 3, 0, 2, 1], [-1, 0, 1, 2, 3, 3, 0, 1, 2], [-1, 0, 1, 2, 3, 2, 0, 1, 3], [-1, 0, 1, 2, 2, 3, 0, 1, 3], [-1, 0, 1, 0, 2, 2, 3, 1, 3], [-1, 0, 1, 1, 2, 2, 0, 3, 3], [-1, 0, 1, 2, 3, 2, 1, 3, 0], [-1, 0, 1, 2, 3, 2, 0, 3, 1], [-1, 0, 1, 2, 3, 1, 0, 3, 2], [-1, 0, 1, 2, 3, 1, 0, 2, 3], [-1, 0, 1, 1, 2, 3, 0, 2, 3], [-1, 0, 1, 0, 2, 1, 3, 2, 3], [-1, 0, 1, 2, 2, 1, 0, 3, 3], [-1, 0, 1, 2, 2, 3, 1, 3, 0], [-1, 0, 1, 2, 2, 3, 0, 3, 1], [-1, 0, 1, 2, 1, 3, 0, 3, 2], [-1, 0, 1, 1, 2, 3, 0, 3, 2], [-1, 0, 1, 2, 1, 3, 0, 2, 3], [-1, 0, 1, 0, 1, 2, 3, 2, 3], [-1, 0, 1, 2, 1, 2, 0, 3, 3], [-1, 0, 1, 1, 2, 2, 3, 3, 0], [-1, 0, 1, 0, 2, 2, 3, 3, 1], [-1, 0, 0, 2, 1, 1, 3, 3, 2], [-1, 0, 1, 0, 2, 1, 3, 3, 2], [-1, 0, 1, 0, 1, 2, 3, 3, 2], [-1, 0, 0, 2, 1, 1, 3, 2, 3], [-1, 0, 0, 2, 1, 1, 2, 3, 3], [-1, 0, 1, 2, 3, 2, 3, 1, 0], [-1, 0, 1, 2, 3, 2, 3, 0, 1], [-1, 0, 1, 2, 3, 1, 3, 0, 2], [-1, 0, 1, 2, 3, 1, 2, 0, 3], [-1, 0, 1, 1, 2, 3, 2, 0, 3], [-1, 0, 1, 2, 2, 1, 3, 0, 3], [-1, 0, 1, 0, 2, 1, 2, 3, 3], [-1, 0, 1, 2, 3, 1, 3, 2, 0], [-1, 0, 1, 2, 3, 0, 3, 2, 1], [-1, 0, 1, 2, 3, 0, 3, 1, 2], [-1, 0, 1, 2, 3, 0, 2, 1, 3], [-1, 0, 1, 0, 2, 3, 2, 1, 3], [-1, 0, 1, 2, 2, 0, 3, 1, 3], [-1, 0, 1, 1, 2, 0, 2, 3, 3], [-1, 0, 1, 2, 3, 1, 2, 3, 0], [-1, 0, 1, 2, 3, 0, 2, 3, 1], [-1, 0, 1, 2, 3, 0, 1, 3, 2], [-1, 0, 1, 2, 3, 0, 1, 2, 3], [-1, 0, 1, 0, 2, 3, 1, 2, 3], [-1, 0, 1, 1, 2, 0, 3, 2, 3], [-1, 0, 1, 2, 2, 0, 1, 3, 3], [-1, 0, 1, 1, 2, 3, 2, 3, 0], [-1, 0, 1, 0, 2, 3, 2, 3, 1], [-1, 0, 0, 2, 1, 3, 1, 3, 2], [-1, 0, 1, 0, 2, 3, 1, 3, 2], [-1, 0, 0, 2, 1, 3, 1, 2, 3], [-1, 0, 1, 0, 1, 3, 2, 3, 2], [-1, 0, 0, 2, 1, 2, 1, 3, 3], [-1, 0, 1, 2, 2, 1, 3, 3, 0], [-1, 0, 1, 2, 2, 0, 3, 3, 1], [-1, 0, 1, 2, 1, 0, 3, 3, 2], [-1, 0, 1, 1, 2, 0, 3, 3, 2], [-1, 0, 1, 0, 1, 3, 2, 2, 3], [-1, 0, 1, 2, 1, 0, 3, 2, 3], [-1, 0, 1, 2, 1, 0, 2, 3, 3], [-1, 0, 1, 2, 2, 3, 3, 1, 0], [-1, 0, 1, 2, 2, 3, 3, 0, 1], [-1, 0, 1, 2, 1, 3, 3, 0, 2], [-1, 0, 1, 1, 2, 3, 3, 0, 2], [-1, 0, 1, 2, 1, 3, 2, 0, 3], [-1, 0, 1, 2, 1, 2, 3, 0, 3], [-1, 0, 1, 0, 1, 2, 2, 3, 3], [-1, 0, 1, 2, 1, 3, 3, 2, 0], [-1, 0, 1, 2, 0, 3, 3, 2, 1], [-1, 0, 1, 2, 0, 3, 3, 1, 2], [-1, 0, 0, 2, 1, 3, 3, 2, 1], [-1, 0, 1, 2, 0, 3, 2, 1, 3], [-1, 0, 1, 2, 0, 2, 3, 1, 3], [-1, 0, 1, 1, 0, 2, 2, 3, 3], [-1, 0, 1, 1, 2, 3, 3, 2, 0], [-1, 0, 1, 0, 2, 3, 3, 2, 1], [-1, 0, 0, 2, 1, 3, 3, 1, 2], [-1, 0, 1, 0, 2, 3, 3, 1, 2], [-1, 0, 0, 2, 1, 3, 2, 1, 3], [-1, 0, 0, 2, 1, 2, 3, 1, 3], [-1, 0, 1, 0, 1, 3, 3, 2, 2], [-1, 0, 1, 2, 1, 3, 2, 3, 0], [-1, 0, 1, 2, 0, 3, 2, 3, 1], [-1, 0, 1, 2, 0, 3, 1, 3, 2], [-1, 0, 0, 2, 1, 3, 2, 3, 1], [-1, 0, 1, 2, 0, 3, 1, 2, 3], [-1, 0, 1, 1, 0, 2, 3, 2, 3], [-1, 0, 1, 2, 0, 2, 1, 3, 3], [-1, 0, 1, 2, 1, 2, 3, 3, 0], [-1, 0, 1, 2, 0, 2, 3, 3, 1], [-1, 0, 1, 2, 0, 1, 3, 3, 2], [-1, 0, 0, 2, 1, 2, 3, 3, 1], [-1, 0, 1, 1, 0, 2, 3, 3, 2], [-1, 0, 1, 2, 0, 1, 3, 2, 3], [-1, 0, 1, 2, 0, 1, 2, 3, 3]]
def soP1 : List (List Int) := [[-1]]
def soP2 : List (List Int) := [[-1, 0, 0]]
def soP3 : List (List Int) := [[-1, 0, 0, 1, 1], [-1, 0, 1, 0, 1], [-1, 0, 1, 1, 0]]
def soP4 : List (List Int) := [[-1, 0, 0, 1, 1, 2, 2], [-1, 0, 0, 1, 2, 1, 2], [-1, 0, 0, 1, 2, 2, 1], [-1, 0, 1, 0, 1, 2, 2], [-1, 0, 1, 0, 2, 1, 2], [-1, 0, 1, 0, 2, 2, 1], [-1, 0, 1, 1, 0, 2, 2], [-1, 0, 1, 1, 2, 0, 2], [-1, 0, 1, 1, 2, 2, 0], [-1, 0, 1, 2, 0, 1, 2], [-1, 0, 1, 2, 0, 2, 1], [-1, 0, 1, 2, 1, 0, 2], [-1, 0, 1, 2, 1, 2, 0], [-1, 0, 1, 2, 2, 0, 1], [-1, 0, 1, 2, 2, 1, 0]]
def soP5 : List (List Int) := [[-1, 0, 0, 2, 1, 1, 2, 3, 3], [-1, 0, 0, 2, 1, 1, 3, 2, 3], [-1, 0, 0, 2, 1, 1, 3, 3, 2], [-1, 0, 0, 2, 1, 2, 1, 3, 3], [-1, 0, 0, 2, 1, 2, 3, 1, 3], [-1, 0, 0, 2, 1, 2, 3, 3, 1], [-1, 0, 0, 2, 1, 3, 1, 2, 3], [-1, 0, 0, 2, 1, 3, 1, 3, 2], [-1, 0, 0, 2, 1, 3, 2, 1, 3], [-1, 0, 0, 2, 1, 3, 2, 3, 1], [-1, 0, 0, 2, 1, 3, 3, 1, 2], [-1, 0, 0, 2, 1, 3, 3, 2, 1], [-1, 0, 1, 0, 1, 2, 2, 3, 3], [-1, 0, 1, 0, 1, 2, 3, 2, 3], [-1, 0, 1, 0, 1, 2, 3, 3, 2], [-1, 0, 1, 0, 1, 3, 2, 2, 3], [-1, 0, 1, 0, 1, 3, 2, 3, 2], [-1, 0, 1, 0, 1, 3, 3, 2, 2], [-1, 0, 1, 0, 2, 1, 2, 3, 3], [-1, 0, 1, 0, 2, 1, 3, 2, 3], [-1, 0, 1, 0, 2, 1, 3, 3, 2], [-1, 0, 1, 0, 2, 2, 1, 3, 3], [-1, 0, 1, 0, 2, 2, 3, 1, 3], [-1, 0, 1, 0, 2, 2, 3, 3, 1], [-1, 0, 1, 0, 2, 3, 1, 2, 3], [-1, 0, 1, 0, 2, 3, 1, 3, 2], [-1, 0, 1, 0, 2, 3, 2, 1, 3], [-1, 0, 1, 0, 2, 3, 2, 3, 1], [-1, 0, 1, 0, 2, 3, 3, 1, 2], [-1, 0, 1, 0, 2, 3, 3, 2, 1], [-1, 0, 1, 1, 0, 2, 2, 3, 3], [-1, 0, 1, 1, 0, 2, 3, 2, 3], [-1, 0, 1, 1, 0, 2, 3, 3, 2], [-1, 0, 1, 1, 2, 0, 2, 3, 3], [-1, 0, 1, 1, 2, 0, 3, 2, 3], [-1, 0, 1, 1, 2, 0, 3, 3, 2], [-1, 0, 1, 1, 2, 2, 0, 3, 3], [-1, 0, 1, 1, 2, 2, 3, 0, 3], [-1, 0, 1, 1, 2, 2, 3, 3, 0], [-1, 0, 1, 1, 2, 3, 0, 2, 3], [-1, 0, 1, 1, 2, 3, 0, 3, 2], [-1, 0, 1, 1, 2, 3, 2, 0, 3], [-1, 0, 1, 1, 2, 3, 2, 3, 0], [-1, 0, 1, 1, 2, 3, 3, 0, 2], [-1, 0, 1, 1, 2, 3, 3, 2, 0], [-1, 0, 1, 2, 0, 1, 2, 3, 3], [-1, 0, 1, 2, 0, 1, 3, 2, 3], [-1, 0, 1, 2, 0, 1, 3, 3, 2], [-1, 0, 1, 2, 0, 2, 1, 3, 3], [-1, 0, 1, 2, 0, 2, 3, 1, 3], [-1, 0, 1, 2, 0, 2, 3, 3, 1], [-1, 0, 1, 2, 0, 3, 1, 2, 3], [-1, 0, 1, 2, 0, 3, 1, 3, 2], [-1, 0, 1, 2, 0, 3, 2, 1, 3], [-1, 0, 1, 2, 0, 3, 2, 3, 1], [-1, 0, 1, 2, 0, 3, 3, 1, 2], [-1, 0, 1, 2, 0, 3, 3, 2, 1], [-1, 0, 1, 2, 1, 0, 2, 3, 3], [-1, 0, 1, 2, 1, 0, 3, 2, 3], [-1, 0, 1, 2, 1, 0, 3, 3, 2], [-1, 0, 1, 2, 1, 2, 0, 3, 3], [-1, 0, 1, 2, 1, 2, 3, 0, 3], [-1, 0, 1, 2, 1, 2, 3, 3, 0], [-1, 0, 1, 2, 1, 3, 0, 2, 3], [-1, 0, 1, 2, 1, 3, 0, 3, 2], [-1, 0, 1, 2, 1, 3, 2, 0, 3], [-1, 0, 1, 2, 1, 3, 2, 3, 0], [-1, 0, 1, 2, 1, 3, 3, 0, 2], [-1, 0, 1, 2, 1, 3, 3, 2, 0], [-1, 0, 1, 2, 2, 0, 1, 3, 3], [-1, 0, 1, 2, 2, 0, 3, 1, 3], [-1, 0, 1, 2, 2, 0, 3, 3, 1], [-1, 0, 1, 2, 2, 1, 0, 3, 3], [-1, 0, 1, 2, 2, 1, 3, 0, 3], [-1, 0, 1, 2, 2, 1, 3, 3, 0], [-1, 0, 1, 2, 2, 3, 0, 1, 3], [-1, 0, 1, 2, 2, 3, 0, 3, 1], [-1, 0, 1, 2, 2, 3, 1, 0, 3], [-1, 0, 1, 2, 2, 3, 1, 3, 0], [-1, 0, 1, 2, 2, 3, 3, 0, 1], [-1, 0, 1, 2, 2, 3, 3, 1, 0], [-1, 0, 1, 2, 3, 0, 1, 2, 3], [-1, 0, 1, 2, 3, 0, 1, 3, 2], [-1, 0, 1, 2, 3, 0, 2, 1, 3], [-1, 0, 1, 2, 3, 0, 2, 3, 1], [-1, 0, 1, 2, 3, 0, 3, 1, 2], [-1, 0, 1, 2, 3, 0, 3, 2, 1], [-1, 0, 1, 2, 3, 1, 0, 2, 3], [-1, 0, 1, 2, 3, 1, 0, 3, 2], [-1, 0, 1, 2, 3, 1, 2, 0, 3], [-1, 0, 1, 2, 3, 1, 2, 3, 0], [-1, 0, 1, 2, 3, 1, 3, 0, 2], [-1, 0, 1, 2, 3, 1, 3, 2, 0], [-1, 0, 1, 2, 3, 2, 0, 1, 3], [-1, 0, 1, 2, 3, 2, 0, 3, 1], [-1, 0, 1, 2, 3, 2, 1, 0, 3], [-1, 0, 1, 2, 3, 2, 1, 3, 0], [-1, 0, 1, 2, 3, 2, 3, 0, 1], [-1, 0, 1, 2, 3, 2, 3, 1, 0], [-1, 0, 1, 2, 3, 3, 0, 1, 2], [-1, 0, 1, 2, 3, 3, 0, 2, 1], [-1, 0, 1, 2, 3, 3, 1, 0, 2], [-1, 0, 1, 2, 3, 3, 1, 2, 0], [-1, 0, 1, 2, 3, 3, 2, 0, 1], [-1, 0, 1, 2, 3, 3, 2, 1, 0]]
set_option maxRecDepth 100000 in
theorem trP_ok1 : okS trP1 trP2 1 = true := by decide +kernel
set_option maxRecDepth 100000 in
theorem trP_ok2 : okS trP2 trP3 3 = true := by decide +kernel
set_option maxRecDepth 100000 in
theorem trP_ok3 : okS trP3 trP4 5 = true := by decide +kernel
set_option maxRecDepth 100000 in
theorem trP_ok4 : okS trP4 trP5 7 = true := by decide +kernel
/-- The trees in the order in which they grow, and in order. -/
def trP : Nat → List (List Int)
  | 0 => trP1 | 1 => trP2 | 2 => trP3 | 3 => trP4 | 4 => trP5 | _ => []
def soP : Nat → List (List Int)
  | 1 => soP1 | 2 => soP2 | 3 => soP3 | 4 => soP4 | 5 => soP5 | _ => []
theorem trP_ok (k : Nat) (h : k < 4) : okS (trP k) (trP (k + 1)) (2 * k + 1) = true := by
  match k, h with
  | 0, _ => exact trP_ok1
  | 1, _ => exact trP_ok2
  | 2, _ => exact trP_ok3
  | 3, _ => exact trP_ok4
def lexB : List Int → List Int → Bool
  | a :: l, b :: m => decide (a < b) || (decide (a = b) && lexB l m)
  | _, _ => false
set_option maxRecDepth 100000 in
theorem soP_perm (k : Nat) (h : k < 5) : (soP (k + 1)).isPerm (trP k) = true := by
  match k, h with
  | 0, _ => decide +kernel
  | 1, _ => decide +kernel
  | 2, _ => decide +kernel
  | 3, _ => decide +kernel
  | 4, _ => decide +kernel
def ascB (l : List (List Int)) : Bool := (List.range (l.length - 1)).all fun i => lexB (l.getD i []) (l.getD (i + 1) [])
set_option maxRecDepth 100000 in
theorem soP_asc (k : Nat) (h : k < 5) : (ascB (soP (k + 1)) && (soP (k + 1)).all fun ps => decide (ps.length = 2 * k + 1)) = true := by
  match k, h with
  | 0, _ => decide +kernel
  | 1, _ => decide +kernel
  | 2, _ => decide +kernel
  | 3, _ => decide +kernel
  | 4, _ => decide +kernel
/-- The document's: all lists of parents that go on with ps, in order; kept are those that are numbered. -/
def shD (t : List Nd) : Sh := shF (famL t t.length) t.length 0
def canB (t : List Nd) : Bool := decide ((numL t (lvK (famL t t.length) t.length) (shD t)).map (·.1) = t.map (·.1)) && decide ((shD t).srt.pre = List.range (shD t).inn)
def twoB (t : List Nd) : Bool := (List.range t.length).all fun v => decide ((famL t t.length v).length = 0) || decide ((famL t t.length v).length = 2)
def rtr (n : Nat) : Nat → List Int → List (List Int)
  | 0, ps => if twoB (mkN ps) && canB (mkN ps) then [ps] else []
  | f + 1, ps => (List.range (min (n - 1) ps.length)).flatMap fun p : Nat => rtr n f (ps ++ [(p : Int)])
set_option maxRecDepth 100000 in
theorem rtr_so (k : Nat) (h : k < 4) : rtr (k + 2) (2 * (k + 2) - 2) [-1] = soP (k + 2) := by
  match k, h with
  | 0, _ => decide +kernel
  | 1, _ => decide +kernel
  | 2, _ => decide +kernel
  | 3, _ => decide +kernel
end Go.Proofs.YtjmnakkkimgifaaDoor
namespace Go.Proofs.YtjmnakkkimgifaaDoor
open Go Go.RowKit Go.Shelf
set_option maxRecDepth 100000 in
set_option maxHeartbeats 4000000 in
theorem pscheck_any (L : Int) (a : Option Addr) (N c : Nat) (l : List Nat) (b : Option Addr) (n d : Nat) (t : List Nd) (w : World) (hl : l.length = N) (hN : N ≤ 1152921504606846976) (hA : Rd w a (fl encV l)) (hF : FitV l)
    (ht : t.length = n) (hn : n ≤ 1152921504606846976) (hB : Rd w b (fl encNd t)) (hS : ∀ v, v < n → (nS t v).size ≤ 9223372036854775807) :
    Calls Tryd.prog 50 #[.agg #[.int .i64 L, .slice a N c], .slice b n d] w fun e w' => e = .returned (.int .i64 (chkP L l t)) ∧ Below w.heap.size w w' := by
  have hb0 := bl_alloc (Below.refl _ w) (.cells #[.int .i64 L, .slice a N c] 30)
  have hX := Blk.new w #[.int .i64 L, .slice a N c] 30
  have HC := Lib.hid (tchk_any L a N c l (w.alloc (.cells #[.int .i64 L, .slice a N c] 30)) hl hN (hA.bl hb0) hF)
  have HB := Lib.hid (hB.bl hb0)
  have HT := Lib.hid ht
  have HS := Lib.hid hS
  clear hl hA hF hB ht hS
  go_enter Tryd.func50, Tryd.ntmps50
  go_wp2_with fail
  refine HC.out.mono ?_
  rintro e w2 ⟨rfl, hb2⟩
  have HB2 := Lib.hid (bl_trans hb0 hb2)
  have HX2 := Lib.hid (hX.below hb2)
  have HR2 := Lib.hid (HB.out.bl hb2)
  clear hb0 hb2 hX HC HB
  by_cases h0 : chkT L l = 0
  · have HE : Hid (chkP L l t = if chkE t ≠ 0 then chkE t else if ((lvT t).length : Int) = L then 0 else 2) := if_neg (fun h => h h0)
    have HC2 := Lib.hid (Leaves_any b n d t w2 HT.out hn HR2.out HS.out)
    rw [h0]
    clear h0
    go_wp2_with fail
    refine HC2.out.mono ?_
    rintro e w3 ⟨v, rfl, ho, hb3⟩
    obtain ⟨A, cp, rfl, _⟩ := owns_slice ho
    have HB3 := Lib.hid (bl_trans HB2.out hb3)
    have hx3 := HX2.out.below hb3
    obtain ⟨X, hXe⟩ : ∃ x, x = w.heap.size := ⟨_, rfl⟩
    rw [← hXe] at hx3 ⊢
    have c0 : w3.cell? ⟨X, 0, none⟩ = some (.int .i64 L) := hx3.cell 0
    obtain ⟨q, hq⟩ : ∃ q, q = (lvT t).length := ⟨_, rfl⟩
    rw [← hq] at HE ⊢
    have hq63 : q ≤ 9223372036854775807 := by
      rcases ho.2 with ⟨_, e⟩ | ⟨g, cp2, cur, e1, _, _, e2, e3, _⟩
      · omega
      · unfold maxLen at e3; omega
    clear ho hb3 hx3 hq hXe HC2
    by_cases h1 : chkE t = 0
    · rw [h1] at HE ⊢
      by_cases h2 : (q : Int) = L
      · have hv : Hid (chkP L l t = 0) := by show _ = _; rw [HE.out, if_neg (by simp), if_pos h2]
        have t1 : ((q : Int) != L) = false := by simp [h2]
        have t2 : decide ((q : Int) = L) = true := by simp [h2]
        have t3 : ((q : Int) == L) = true := by simp [h2]
        clear HE h1 h2
        go_wp2_with fail
        go_ret
        exact ⟨by rw [hv.out]; rfl, HB3.out⟩
      · have hv : Hid (chkP L l t = 2) := by show _ = _; rw [HE.out, if_neg (by simp), if_neg h2]
        have t1 : ((q : Int) != L) = true := by simp [h2]
        have t2 : decide ((q : Int) = L) = false := by simp [h2]
        have t3 : ((q : Int) == L) = false := by simp [h2]
        clear HE h1 h2
        go_wp2_with fail
        go_ret
        exact ⟨by rw [hv.out]; rfl, HB3.out⟩
    · have h16 := (chk_tree' h1).1
      have hv : Hid (chkP L l t = 16) := by show _ = _; rw [HE.out, if_pos h1, h16]
      rw [h16]
      clear HE h1 h16
      go_wp2_with fail
      go_ret
      exact ⟨by rw [hv.out]; rfl, HB3.out⟩
  · have hE : Hid (chkP L l t = chkT L l) := if_pos h0
    obtain ⟨E, hEE⟩ : ∃ E, chkT L l = E := ⟨_, rfl⟩
    rw [hEE] at hE h0 ⊢
    have d0 : (E == 0) = false := by simp [h0]
    have d1 : (E != 0) = true := by simp [h0]
    clear hEE h0
    go_wp2_with fail
    go_ret
    exact ⟨by rw [hE.out]; rfl, HB2.out⟩
end Go.Proofs.YtjmnakkkimgifaaDoor
namespace Go.Proofs.YtjmnakkkimgifaaDoor
open Go Go.RowKit Go.Shelf
/-- How many changes each innovation needs. -/
def lenL (L : Int) (l : List Nat) (t : List Nd) : List Nat := if chkP L l t = 0 then l.map (chg t) else []
theorem chg_le32 {L : Int} {l : List Nat} {t : List Nd} (h : chkP L l t = 0) (x : Nat) : chg t x ≤ 32 := by
  obtain ⟨h1, h2, h3⟩ := chkP_ok h
  have hL : L ≤ 32 := by
    unfold chkT at h1
    by_cases q : L < 0 ∨ 32 < L
    · rw [if_pos q] at h1; omega
    · omega
  have := chg_le rfl h2 x true
  have := offK_le x true (lvT t).length
  omega
set_option maxRecDepth 100000 in
set_option maxHeartbeats 4000000 in
theorem lengths_any (L : Int) (a : Option Addr) (N c : Nat) (l : List Nat) (b : Option Addr) (n d : Nat) (t : List Nd) (w : World) (hl : l.length = N) (hN : N ≤ 1152921504606846976) (hA : Rd w a (fl encV l)) (hF : FitV l)
    (ht : t.length = n) (hn : n ≤ 1152921504606846976) (hB : Rd w b (fl encNd t)) (hS : ∀ v, v < n → (nS t v).size ≤ 9223372036854775807) :
    Calls Tryd.prog 23 #[.agg #[.int .i64 L, .slice a N c], .slice b n d] w fun e w' => ∃ v, e = .returned (.tuple #[v, .int .i64 (chkP L l t)]) ∧ w'.ownsRow w.heap.size 3 1 v (lenL L l t).length (fl encI (iN (lenL L l t))) ∧ Below w.heap.size w w' := by
  have hb0 := bl_alloc (Below.refl _ w) (.cells #[.int .i64 L, .slice a N c] 30)
  have hX := Blk.new w #[.int .i64 L, .slice a N c] 30
  have HC := Lib.hid (pscheck_any L a N c l b n d t (w.alloc (.cells #[.int .i64 L, .slice a N c] 30)) hl hN (hA.bl hb0) hF ht hn (hB.bl hb0) hS)
  have HL := Lib.hid hl
  have HF := Lib.hid hF
  have HT := Lib.hid ht
  have HS := Lib.hid hS
  have HA := Lib.hid (hA.bl hb0)
  have HB := Lib.hid (hB.bl hb0)
  clear hl hA hF ht hB hS
  go_enter Tryd.func23, Tryd.ntmps23
  go_wp2_with fail
  refine HC.out.mono ?_
  rintro e w2 ⟨rfl, hb2⟩
  have HB2 := Lib.hid (bl_trans hb0 hb2)
  have HX2 := Lib.hid (hX.below hb2)
  have HRA := Lib.hid (HA.out.bl hb2)
  have HRB := Lib.hid (HB.out.bl hb2)
  obtain ⟨X, hXe⟩ : ∃ x, x = w.heap.size := ⟨_, rfl⟩
  rw [← hXe] at HX2 ⊢
  have HXE := Lib.hid hXe
  clear hb0 hb2 hX HC HA HB hXe
  by_cases h0 : chkP L l t = 0
  · have hLL : Hid (lenL L l t = l.map (chg t)) := if_pos h0
    have HE := Lib.hid h0
    obtain ⟨k0, k1, k2⟩ := chkP_ok h0
    have hn1 : 1 ≤ n := by have := k1.1; have := HT.out; omega
    have hn63 : n ≤ 63 := by have := k1.2.1; have := HT.out; omega
    have HP : Hid (∀ v, 0 < v → v < n → 0 ≤ nP t v ∧ nP t v < v) := fun v h1 h2 => tree_par k1 v h1 (by rw [HT.out]; exact h2)
    have hN64 : N ≤ 64 := by
      obtain ⟨M, hM⟩ : ∃ M : Nat, L = M := ⟨(lvT t).length, k2.symm⟩
      rw [hM] at k0
      have := (chk_lt k0).2.1; have := HL.out; omega
    have HLV : Hid (lvT t = lvsL t n) := tok_lv HT.out k1
    have HCE : Hid (chkE t = 0) := chkE_good k1
    rw [h0]
    clear k0 k1 k2 h0
    go_wp2_with fail
    refine (Leaves_any b n d t w2 HT.out hn HRB.out HS.out).mono ?_
    rintro e w3 ⟨v, rfl, ho, hb3⟩
    rw [HCE.out]
    rw [HLV.out] at ho
    obtain ⟨A, cp, rfl, _⟩ := owns_slice ho
    have HB3 := Lib.hid (bl_trans HB2.out hb3)
    have HX3 := Lib.hid (HX2.out.below hb3)
    have HRA3 := Lib.hid (HRA.out.bl hb3)
    have HRB3 := Lib.hid (HRB.out.bl hb3)
    have HRL := Lib.hid (rd_of_owns ho)
    obtain ⟨q, hq⟩ : ∃ q, q = (lvsL t n).length := ⟨_, rfl⟩
    rw [← hq] at ho ⊢
    have HQ := Lib.hid hq
    have e1 : w3.cell? ⟨X, 1, none⟩ = some (.slice a N c) := HX3.out.cell 1
    clear ho hb3 hq HB2 HX2 HRA HRB
    go_wp2_with fail
    clear e1
    go_loopw [26, 9] (fun x y wr => ∃ k : Nat, k ≤ N ∧ x = .int .i64 k ∧ Hid (wr.ownsRow w3.heap.size 3 1 y k (fl encI (iN ((l.take k).map (chg t))))) ∧ Hid (Below w3.heap.size w3 wr)) (fun x _ _ => N - (intOf x).toNat)
    case atStart => exact ⟨0, by omega, rfl, World.ownsRow_nil _ _ _ _, Below.refl _ _⟩
    case round =>
      obtain ⟨k, hk, rfl, how, hbl⟩ := hrel
      by_cases hlt : k < N
      · obtain ⟨ba, oa, rfl, _, hca⟩ := rdV (HRA3.out.bl hbl.out) (by rw [HL.out]; omega)
        have G := hca k (by rw [HL.out]; exact hlt)
        have hx : vA l k < 18446744073709551616 := HF.out k (by rw [HL.out]; exact hlt)
        have HTK : Hid ((l.take (k + 1)).map (chg t) = (l.take k).map (chg t) ++ [chg t (vA l k)]) := by
          show _ = _
          rw [List.take_succ_eq_append_getElem (by rw [HL.out]; exact hlt), List.map_append, vA_get (by rw [HL.out]; exact hlt)]; rfl
        have HLN : Hid (k = ((l.take k).map (chg t)).length) := by show _ = _; rw [List.length_map, List.length_take, HL.out]; omega
        obtain ⟨A7, c7, rfl, _⟩ := owns_slice how.out
        clear hca
        generalize vA l k = x at *
        go_wp2_with fail
        refine (changes_any x b n d t A q cp wr hx HT.out hn1 hn63 (HRB3.out.bl hbl.out) HP.out HQ.out (HRL.out.bl hbl.out)).mono ?_
        rintro e w6 ⟨rfl, hb6⟩
        have HOW := Lib.hid (owns_below how.out hb6)
        have HB6 := Lib.hid (bl_trans hbl.out hb6)
        have hbase : w3.heap.size ≤ (w6.alloc (.cells #[.int .i64 (chg t x : Nat)] 3)).heap.size := (bl_alloc HB6.out _).size
        clear hb6
        generalize chg t x = y at *
        go_wp2_with (at_builtin; refine push_I rfl (.tmp 30) (.tmp 35) rfl w3.heap.size (.slice A7 k c7) (iN ((l.take k).map (chg t))) k (by rw [iN_len]; exact HLN.out) rfl (HOW.out.alloc _) _ _ (y : Int) rfl (Blk.new _ _ _) (by omega) hbase ?_; intro g2 cap w8 h81 h82 h83 h84; rw [← iN_snoc, ← HTK.out] at h81; have H81 := Lib.hid h81; have H82 := Lib.hid h82; clear h81 h82 h83)
        have HB8 := Lib.hid (bl_grown (bl_alloc HB6.out (.cells #[.int .i64 (y : Nat)] 3)) H82.out (fun x e => (HOW.out.lt x e).1))
        go_roundw
        case rel => exact ⟨k + 1, by omega, by go_num, H81, HB8⟩
        case measure => simp [intOf]; omega
      · obtain rfl : k = N := by omega
        obtain ⟨A7, c7, rfl, _⟩ := owns_slice how.out
        go_wp2_with fail
        refine bodyPost_ret (v := .tuple #[.slice A7 k c7, .int .i64 0]) (by simp [results, Tryd.results23, go_sem]) rfl ⟨_, by rw [HE.out], ?_, bl_trans HB3.out hbl.out⟩
        have h := how.out
        rw [List.take_of_length_le (by rw [HL.out]; exact Nat.le_refl _)] at h
        rw [hLL.out]
        have e : (l.map (chg t)).length = k := by rw [List.length_map, HL.out]
        rw [e]
        exact owns_mono h HB3.out.size
  · have hE : Hid (lenL L l t = []) := if_neg h0
    obtain ⟨E, hEE⟩ : ∃ E, chkP L l t = E := ⟨_, rfl⟩
    have HEE := Lib.hid hEE
    rw [hEE] at h0 ⊢
    have d0 : (E == 0) = false := by simp [h0]
    have d1 : (E != 0) = true := by simp [h0]
    clear hEE h0
    go_wp2_with fail
    exact bodyPost_ret (v := .tuple #[.slice none 0 0, .int .i64 E]) (by simp [results, Tryd.results23, go_sem]) rfl ⟨_, by rw [HEE.out], by rw [hE.out]; exact World.ownsRow_nil _ _ _ _, HB2.out⟩
/-- The length of a tree. -/
def lenS (L : Int) (l : List Nat) (t : List Nd) : Nat := (lenL L l t).sum
theorem sum_take_succ {l : List Nat} {k : Nat} (hk : k < l.length) : (l.take (k + 1)).sum = (l.take k).sum + vA l k := by
  rw [List.take_succ_eq_append_getElem hk, List.sum_append, vA_get hk]; simp
theorem sum_le {l : List Nat} {c : Nat} (h : ∀ x ∈ l, x ≤ c) : l.sum ≤ l.length * c := by
  induction l with
  | nil => simp
  | cons x l ih =>
    rw [List.sum_cons, List.length_cons, Nat.succ_mul]
    have := h x List.mem_cons_self
    have := ih fun y hy => h y (List.mem_cons_of_mem _ hy)
    omega
theorem lenL_le (L : Int) (l : List Nat) (t : List Nd) : (lenL L l t).length ≤ 64 ∧ ∀ x ∈ lenL L l t, x ≤ 32 := by
  by_cases h : chkP L l t = 0
  · have e : lenL L l t = l.map (chg t) := if_pos h
    rw [e]
    obtain ⟨k0, k1, k2⟩ := chkP_ok h
    obtain ⟨M, hM⟩ : ∃ M : Nat, L = M := ⟨(lvT t).length, k2.symm⟩
    rw [hM] at k0
    refine ⟨by rw [List.length_map]; exact (chk_lt k0).2.1, fun x hx => ?_⟩
    obtain ⟨y, _, rfl⟩ := List.mem_map.1 hx
    exact chg_le32 h y
  · have e : lenL L l t = [] := if_neg h
    rw [e]; simp
set_option maxRecDepth 100000 in
set_option maxHeartbeats 4000000 in
theorem length_any (L : Int) (a : Option Addr) (N c : Nat) (l : List Nat) (b : Option Addr) (n d : Nat) (t : List Nd) (w : World) (hl : l.length = N) (hN : N ≤ 1152921504606846976) (hA : Rd w a (fl encV l)) (hF : FitV l)
    (ht : t.length = n) (hn : n ≤ 1152921504606846976) (hB : Rd w b (fl encNd t)) (hS : ∀ v, v < n → (nS t v).size ≤ 9223372036854775807) :
    Calls Tryd.prog 13 #[.agg #[.int .i64 L, .slice a N c], .slice b n d] w fun e w' => e = .returned (.tuple #[.int .i64 (lenS L l t : Nat), .int .i64 (chkP L l t)]) ∧ Below w.heap.size w w' := by
  have hb0 := bl_alloc (Below.refl _ w) (.cells #[.int .i64 L, .slice a N c] 30)
  have HC := Lib.hid (lengths_any L a N c l b n d t (w.alloc (.cells #[.int .i64 L, .slice a N c] 30)) hl hN (hA.bl hb0) hF ht hn (hB.bl hb0) hS)
  obtain ⟨hl64, hx32⟩ := lenL_le L l t
  clear hl hA hF ht hB hS
  obtain ⟨m, hm⟩ : ∃ m, m = lenL L l t := ⟨_, rfl⟩
  have hsum : lenS L l t = m.sum := by unfold lenS; rw [hm]
  rw [← hm] at HC hl64 hx32
  have hsb : ∀ k, (m.take k).sum ≤ 2048 := fun k => by
    have h1 := sum_le (l := m.take k) (c := 32) fun x hx => hx32 x (List.mem_of_mem_take hx)
    rw [List.length_take] at h1
    omega
  have HSB := Lib.hid hsb
  have HX := Lib.hid hx32
  have HSUM := Lib.hid hsum
  obtain ⟨q, hq⟩ : ∃ q, q = m.length := ⟨_, rfl⟩
  rw [← hq] at HC hl64
  have HQ := Lib.hid hq
  obtain ⟨E, hE⟩ : ∃ E, E = chkP L l t := ⟨_, rfl⟩
  rw [← hE] at HC ⊢
  have HB0 := Lib.hid hb0
  clear hm hsum hsb hx32 hq hE hb0
  go_enter Tryd.func13, Tryd.ntmps13
  go_wp2_with fail
  refine HC.out.mono ?_
  rintro e w2 ⟨v, rfl, ho, hb2⟩
  obtain ⟨A, cp, rfl, _⟩ := owns_slice ho
  have HR := Lib.hid (rd_of_owns ho)
  have HB2 := Lib.hid (bl_trans HB0.out hb2)
  clear ho hb2 HB0 HC
  go_wp2_with fail
  go_loop [19, 8] (fun x y => ∃ k : Nat, k ≤ q ∧ x = .int .i64 k ∧ y = .int .i64 ((m.take k).sum : Nat)) (fun x _ => q - (intOf x).toNat)
  case atStart => exact ⟨0, by omega, rfl, rfl⟩
  case round =>
    obtain ⟨k, hk, rfl, rfl⟩ := hrel
    by_cases hlt : k < q
    · obtain ⟨b1, o1, rfl, _, hc⟩ := rdI HR.out (by rw [iN_len, ← HQ.out]; omega)
      have G := hc k (by rw [iN_len, ← HQ.out]; exact hlt)
      rw [iN_get] at G
      have HST := Lib.hid (sum_take_succ (l := m) (k := k) (by rw [← HQ.out]; exact hlt))
      have s1 := HSB.out k
      have s2 := HSB.out (k + 1)
      have s3 : vA m k ≤ 32 := HX.out _ (by rw [vA_get (by rw [← HQ.out]; exact hlt)]; exact List.getElem_mem _)
      clear hc
      generalize vA m k = y at *
      obtain ⟨S, hS⟩ : ∃ S, S = (m.take k).sum := ⟨_, rfl⟩
      rw [← hS] at HST s1 ⊢
      clear hS
      go_wp2_with fail
      go_round
      case rel => exact ⟨k + 1, by omega, by go_num, by rw [HST.out]; go_num⟩
      case measure => simp [intOf]; omega
    · obtain rfl : k = q := by omega
      have HF : Hid ((m.take k).sum = lenS L l t) := by show _ = _; rw [HSUM.out, List.take_of_length_le (by rw [HQ.out]; exact Nat.le_refl _)]
      obtain ⟨S, hS⟩ : ∃ S, S = (m.take k).sum := ⟨_, rfl⟩
      rw [← hS] at HF ⊢
      clear hS
      go_wp2_with fail
      go_ret2
      exact ⟨by rw [← HF.out]; rfl, HB2.out⟩
end Go.Proofs.YtjmnakkkimgifaaDoor
namespace Go.Proofs.YtjmnakkkimgifaaDoor
open Go Go.RowKit Go.Shelf
theorem in_of_all {v : Nat} : ∀ {s : Sh}, v ∈ s.all → ∃ z, Sh.In z s ∧ z.top = v
  | .lf u, h => ⟨.lf u, rfl, (List.mem_singleton.1 h).symm⟩
  | .nd u a b, h => by
    rcases List.mem_cons.1 h with h | h
    · exact ⟨.nd u a b, .inl rfl, h.symm⟩
    · rcases List.mem_append.1 h with h | h
      · obtain ⟨z, h1, h2⟩ := in_of_all h; exact ⟨z, .inr (.inl h1), h2⟩
      · obtain ⟨z, h1, h2⟩ := in_of_all h; exact ⟨z, .inr (.inr h1), h2⟩
theorem rho_top {L : List Nat} {s : Sh} (hL : L.Perm s.lvs) : rho L s s.top = 0 := by
  cases s with
  | nd v a b =>
    unfold rho ordL Sh.pre
    rw [List.cons_append]
    simp [Sh.top]
  | lf v =>
    have e : L = [v] := List.perm_singleton.1 hL
    unfold rho ordL Sh.pre
    rw [e]; simp [Sh.top]
theorem NumOk.root {t : List Nd} {L : List Nat} {s : Sh} (h : NumOk t L s) : nP (numS t L s) 0 = -1 := by
  have := par_top (par_num (t := t) h.nd h.perm)
  rwa [rho_top h.perm] at this
theorem NumOk.par {t : List Nd} {L : List Nat} {s : Sh} (h : NumOk t L s) {i : Nat} (h0 : 0 < i) (hi : i < s.all.length) : 0 ≤ nP (numS t L s) i ∧ nP (numS t L s) i < i := by
  obtain ⟨w, hw, rfl⟩ := h.sur hi
  rcases Sh.child_ex hw with e | ⟨v', a', b', hi', hc⟩
  · rw [e, rho_top h.perm] at h0; omega
  · obtain ⟨q1, q2, q3, q4⟩ := par_in (par_num (t := t) h.nd h.perm) hi'
    rcases hc with rfl | rfl <;> omega
theorem NumOk.nm {t : List Nd} {L : List Nat} {s : Sh} (h : NumOk t L s) {v : Nat} (hv : v ∈ s.all) : nS (numS t L s) (rho L s v) = nS t v := (num_name h.nd h.perm hv).2
theorem NumOk.tree {t : List Nd} {L : List Nat} {s : Sh} (h : NumOk t L s) : TreeOk (numS t L s) := by
  have hl := h.len
  have hf := h.few
  refine ⟨by rw [hl, Sh.all_len]; omega, by omega, fun i hi => ?_⟩
  rw [hl] at hi
  refine ⟨?_, ?_, ?_, ?_⟩
  · by_cases e : i = 0
    · subst e; rw [h.root]; decide
    · exact (h.par (by omega) hi).2
  · by_cases e : i = 0
    · subst e; rw [h.root]; decide
    · rw [if_neg e]; exact (h.par (by omega) hi).1
  · obtain ⟨w, hw, rfl⟩ := h.sur hi
    rw [h.nm hw]; exact h.name w hw
  · unfold seenB
    rw [List.any_eq_false]
    intro u hu
    have hu := List.mem_range.1 hu
    obtain ⟨w, hw, rfl⟩ := h.sur hi
    obtain ⟨w', hw', rfl⟩ := h.sur (show u < s.all.length by omega)
    rw [decide_eq_true_eq, h.nm hw, h.nm hw']
    intro e
    rw [h.inj _ _ hw' hw e] at hu
    omega
theorem NumOk.bin {t : List Nd} {L : List Nat} {s : Sh} (h : NumOk t L s) : BinT (numS t L s) s.all.length := by
  intro i hi
  obtain ⟨w, hw, rfl⟩ := h.sur hi
  obtain ⟨z, hz, e⟩ := in_of_all hw
  obtain ⟨r, r1, r2⟩ := h.shape z hz
  have ht : r.top = rho L s w := by rw [← r2.top, ← e]; cases z <;> rfl
  cases r with
  | lf v => left; rw [← ht]; show (famL _ _ v).length = 0; rw [show famL (numS t L s) s.all.length v = [] from r1]; rfl
  | nd v a b => right; rw [← ht]; show (famL _ _ v).length = 2; rw [r1.1]; rfl
theorem rho_leafs {L : List Nat} {s : Sh} (hn : s.all.Nodup) (hL : L.Perm s.lvs) {v : Nat} (hv : v ∈ s.all) : v ∈ s.lvs ↔ s.inn ≤ rho L s v := by
  constructor
  · intro h
    obtain ⟨j, hj, e⟩ := List.mem_iff_getElem.1 (hL.mem_iff.2 h)
    rw [← e, rho_leaf hn hL hj]; omega
  · intro h
    rcases List.mem_append.1 (s.pre_all.mem_iff.2 hv) with h2 | h2
    · exfalso
      obtain ⟨i, hi, e⟩ := List.mem_iff_getElem.1 h2
      have hi' : i < s.inn := by rw [Sh.pre_len] at hi; exact hi
      have := rho_pre hn hL hi'
      rw [e] at this; omega
    · exact h2
theorem in_nd_lvs {v : Nat} {a b : Sh} : ∀ {s : Sh}, s.all.Nodup → Sh.In (.nd v a b) s → v ∉ s.lvs
  | .lf u, _, hi => by cases hi
  | .nd u x y, hn, hi => by
    obtain ⟨n1, n2⟩ := List.nodup_cons.1 hn
    obtain ⟨n3, n4, n5⟩ := List.nodup_append.1 n2
    intro hm
    rcases hi with hi | hi | hi
    · cases hi
      rcases List.mem_append.1 hm with hm | hm
      · exact n1 (List.mem_append_left _ (Sh.lvs_sub _ _ hm))
      · exact n1 (List.mem_append_right _ (Sh.lvs_sub _ _ hm))
    · rcases List.mem_append.1 hm with hm | hm
      · exact in_nd_lvs n3 hi hm
      · exact n5 _ (Sh.in_all hi _ List.mem_cons_self) _ (Sh.lvs_sub _ _ hm) rfl
    · rcases List.mem_append.1 hm with hm | hm
      · exact n5 _ (Sh.lvs_sub _ _ hm) _ (Sh.in_all hi _ List.mem_cons_self) rfl
      · exact in_nd_lvs n4 hi hm
theorem NumOk.leafB {t : List Nd} {L : List Nat} {s : Sh} (h : NumOk t L s) {i : Nat} (hi : i < s.all.length) : Go.Proofs.YtjmnakkkimgifaaDoor.leafB (numS t L s) i = decide (s.inn ≤ i) := by
  obtain ⟨w, hw, rfl⟩ := h.sur hi
  have hiff := rho_leafs h.nd h.perm hw
  unfold Go.Proofs.YtjmnakkkimgifaaDoor.leafB
  rw [h.len]
  by_cases q : w ∈ s.lvs
  · rw [h.nokid q, decide_eq_true (hiff.1 q)]; rfl
  · rw [decide_eq_false fun h2 => q (hiff.2 h2)]
    obtain ⟨z, hz, e⟩ := in_of_all hw
    obtain ⟨r, r1, r2⟩ := h.shape z hz
    have ht : r.top = rho L s w := by rw [← r2.top, ← e]; cases z <;> rfl
    cases z with
    | lf v =>
      exfalso
      have hv : v ∈ s.lvs := by
        have key : ∀ (s : Sh), Sh.In (.lf v) s → v ∈ s.lvs := by
          intro s
          induction s with
          | lf u => intro hi; cases hi; exact List.mem_singleton.2 rfl
          | nd u x y ihx ihy =>
            intro hi
            rcases hi with hi | hi | hi
            · cases hi
            · exact List.mem_append_left _ (ihx hi)
            · exact List.mem_append_right _ (ihy hi)
        exact key s hz
      exact q (by rw [← e]; exact hv)
    | nd v a b =>
      cases r2 with
      | nd _ _ _ => rw [← ht]; show (famL _ _ (rho L s v)).isEmpty = false; rw [r1.1]; rfl
      | sw _ _ _ => rw [← ht]; show (famL _ _ (rho L s v)).isEmpty = false; rw [r1.1]; rfl
theorem NumOk.lvs {t : List Nd} {L : List Nat} {s : Sh} (h : NumOk t L s) : lvT (numS t L s) = (List.range L.length).map fun k => s.inn + k := by
  have hl := h.len
  rw [tok_lv hl h.tree]
  have hn : s.all.length = s.inn + L.length := by rw [← hl, numS_len]
  have base : ∀ i, i ≤ s.inn → lvsL (numS t L s) i = [] := by
    intro i
    induction i with
    | zero => intro _; rfl
    | succ i ih =>
      intro hi
      rw [lvsL_snoc, ih (by omega), h.leafB (by omega), decide_eq_false (by omega)]; rfl
  have step : ∀ j, j ≤ L.length → lvsL (numS t L s) (s.inn + j) = (List.range j).map fun k => s.inn + k := by
    intro j
    induction j with
    | zero => intro _; exact base s.inn (Nat.le_refl _)
    | succ j ih =>
      intro hj
      rw [show s.inn + (j + 1) = (s.inn + j) + 1 by omega, lvsL_snoc, ih (by omega), h.leafB (by omega), decide_eq_true (by omega), List.range_succ, List.map_append]
      simp
  rw [hn]
  exact step L.length (Nat.le_refl _)
/-- The names of the leaves. -/
theorem NumOk.leaf_name {t : List Nd} {L : List Nat} {s : Sh} {k : Nat} (hk : k < L.length) : nS (numS t L s) (s.inn + k) = nS t (vA L k) := by
  rw [vA_get hk]; exact (numS_leaf hk).2
/-- A binary tree, its shape and its leaves. -/
structure ShT (t : List Nd) (n : Nat) (s : Sh) : Prop where
  sub : Sub (famL t n) s
  top : s.top = 0
  mem : ∀ u, u ∈ s.all ↔ u < n
  nd : s.all.Nodup
theorem ShT.perm {t : List Nd} {n : Nat} {s : Sh} (h : ShT t n s) : s.all.Perm (List.range n) :=
  (List.perm_ext_iff_of_nodup h.nd List.nodup_range).2 fun u => by rw [h.mem, List.mem_range]
theorem ShT.len {t : List Nd} {n : Nat} {s : Sh} (h : ShT t n s) : s.all.length = n := by rw [h.perm.length_eq, List.length_range]
theorem ShT.lvs {t : List Nd} {n : Nat} {s : Sh} (hn : t.length = n) (h : ShT t n s) : (lvsL t n).Perm s.lvs := by
  refine (List.perm_ext_iff_of_nodup (show (lvsL t n).Nodup from List.Pairwise.filter _ List.nodup_range) (List.nodup_append.1 (s.pre_all.nodup_iff.2 h.nd)).2.1).2 fun u => ?_
  rw [sub_lvs h.sub, h.mem]
  unfold lvsL
  rw [List.mem_filter, List.mem_range]
  unfold Go.Proofs.YtjmnakkkimgifaaDoor.leafB
  rw [hn, List.isEmpty_iff]
theorem shT_of {t : List Nd} {n : Nat} (hn : t.length = n) (hok : TreeOk t) (hb : BinT t n) : ∃ s, ShT t n s := by
  obtain ⟨s, h1, h2, h3, h4⟩ := shape_of hn hok hb
  exact ⟨s, h1, h2, h3, h4⟩
theorem seen_inj {t : List Nd} {n : Nat} (hn : t.length = n) (hok : TreeOk t) {u v : Nat} (hu : u < n) (hv : v < n) (h : nS t u = nS t v) : u = v := by
  have key : ∀ a b, a < b → b < n → nS t a ≠ nS t b := fun a b hab hb e => by
    have h1 := (hok.2.2 b (by omega)).2.2.2
    unfold seenB at h1
    rw [List.any_eq_false] at h1
    exact h1 a (List.mem_range.2 hab) (decide_eq_true e)
  rcases Nat.lt_trichotomy u v with q | q | q
  · exact absurd h (key u v q hv)
  · exact q
  · exact absurd h.symm (key v u q hu)
/-- Any shape of the same nodes can be numbered. -/
theorem numOk_of {t : List Nd} {n : Nat} {L : List Nat} {s : Sh} (hn : t.length = n) (hok : TreeOk t) (hp : s.all.Perm (List.range n)) (hL : L.Perm s.lvs) : NumOk t L s := by
  have hm : ∀ v, v ∈ s.all → v < n := fun v hv => List.mem_range.1 (hp.mem_iff.1 hv)
  refine ⟨hp.nodup_iff.2 List.nodup_range, hL, by rw [hp.length_eq, List.length_range]; have := hok.2.1; omega, fun v hv => (hok.2.2 v (by have := hm v hv; omega)).2.2.1, fun u v hu hv e => seen_inj hn hok (hm u hu) (hm v hv) e⟩
end Go.Proofs.YtjmnakkkimgifaaDoor
namespace Go.Proofs.YtjmnakkkimgifaaDoor
open Go Go.RowKit Go.Shelf
theorem sub_uniq {K : Nat → List Nat} {z z' : Sh} (h : Sub K z) (h' : Sub K z') (e : z.top = z'.top) : z = z' := by
  have h1 := shF_sub z h (z.inn + z'.inn) (by omega)
  have h2 := shF_sub z' h' (z.inn + z'.inn) (by omega)
  rw [e] at h1
  exact h1.symm.trans h2
/-- The nodes of a part of a tree's shape are those below its top. -/
theorem ShT.part {t : List Nd} {n : Nat} {s z : Sh} (hn : t.length = n) (hok : TreeOk t) (hb : BinT t n) (h : ShT t n s) (hz : Sh.In z s) (u : Nat) : u ∈ z.all ↔ u < n ∧ z.top ∈ pthF t n u := by
  have hv : z.top < n := (h.mem _).1 (Sh.in_all hz _ z.top_mem)
  obtain ⟨z', h1, h2, h3, h4⟩ := shape_at hn hok hb n z.top (by omega) hv
  rw [sub_uniq (sub_in h.sub hz) h1 h2.symm, h2] at *
  exact h3 u
/-- The other child of the parent. -/
def sibK (K : Nat → List Nat) (p c : Nat) : Nat := match K p with
  | [a, b] => if a = c then b else a
  | _ => 0
def sibT (t : List Nd) (n c : Nat) : Nat := sibK (famL t n) (nP t c).toNat c
def swK (t : List Nd) (n c x : Nat) : Nat → List Nat := fun v => (famL t n v).map (swp x (sibT t n c))
def exS (t : List Nd) (n c x : Nat) : Sh := shF (swK t n c x) n 0
def nearAt (t : List Nd) (n c x : Nat) : List Nd := numL t (lvsL t n) (exS t n c x)
def nearL (t : List Nd) (n : Nat) : List (List Nd) := (List.range' 1 (n - 1)).flatMap fun c => (famL t n c).map fun x => nearAt t n c x
/-- A node with its parent, its sibling and a child. -/
structure Nni (t : List Nd) (n p c y x : Nat) : Prop where
  cn : c < n
  pc : nP t c = (p : Int)
  pp : p < c
  yn : y < n
  py : nP t y = (p : Int)
  yp : p < y
  yc : y ≠ c
  xn : x < n
  px : nP t x = (c : Int)
  xc : c < x
  fam : ∀ u, u ∈ famL t n p ↔ u = c ∨ u = y
theorem nni_of {t : List Nd} {n c x : Nat} (hn : t.length = n) (hok : TreeOk t) (hb : BinT t n) (h0 : 0 < c) (hc : c < n) (hx : x ∈ famL t n c) : Nni t n (nP t c).toNat c (sibT t n c) x := by
  have hP := tok_par hn hok
  obtain ⟨p0, p1⟩ := hP c h0 hc
  obtain ⟨p, hp⟩ : ∃ p : Nat, nP t c = p := ⟨(nP t c).toNat, by omega⟩
  obtain ⟨x1, x2, x3⟩ := fam_mem.1 hx
  have hcm : c ∈ famL t n p := fam_mem.2 ⟨hc, h0, hp⟩
  have h2 : (famL t n p).length = 2 := by
    rcases hb p (by omega) with h | h
    · rw [List.eq_nil_of_length_eq_zero h] at hcm; cases hcm
    · exact h
  obtain ⟨a, b, hk⟩ := len_two h2
  have hab : a < b := by have := fam_pw t n p; rw [hk] at this; simpa using this
  unfold sibT sibK
  rw [hp, Int.toNat_natCast]
  have hyy : (match famL t n p with | [a, b] => if a = c then b else a | _ => 0) = if a = c then b else a := by rw [hk]
  rw [hyy]
  have hxc := (hP x x2 x1).2
  have hmem : ∀ u, u ∈ famL t n p ↔ u = a ∨ u = b := fun u => by rw [hk]; simp
  have hca : c = a ∨ c = b := (hmem c).1 hcm
  by_cases e : a = c
  · rw [if_pos e]
    obtain ⟨b1, b2, b3⟩ := fam_mem.1 ((hmem b).2 (.inr rfl))
    have := (hP b b2 b1).2
    exact ⟨hc, hp, by omega, b1, b3, by omega, by omega, x1, x3, by omega, fun u => by rw [hmem, e]⟩
  · rw [if_neg e]
    obtain ⟨b1, b2, b3⟩ := fam_mem.1 ((hmem a).2 (.inl rfl))
    have := (hP a b2 b1).2
    have hcb : c = b := hca.resolve_left fun h => e h.symm
    exact ⟨hc, hp, by omega, b1, b3, by omega, e, x1, x3, by omega, fun u => by rw [hmem, hcb]; exact Or.comm⟩
/-- What is exchanged. -/
structure ExOk (t : List Nd) (n x y : Nat) (s X Y r : Sh) : Prop where
  eq : r = rep x y X Y s
  inX : Sh.In X s
  inY : Sh.In Y s
  tX : X.top = x
  tY : Y.top = y
  xY : x ∉ Y.all
  yX : y ∉ X.all
  sub : Sub (fun v => (famL t n v).map (swp x y)) r
  subX : Sub (fun v => (famL t n v).map (swp x y)) X
  subY : Sub (fun v => (famL t n v).map (swp x y)) Y
  top : r.top = 0
  perm : r.all.Perm (List.range n)
  lvs : r.lvs.Perm s.lvs
theorem ex_ok {t : List Nd} {n p c y x : Nat} {s : Sh} (hn : t.length = n) (hok : TreeOk t) (hb : BinT t n) (h : ShT t n s) (hN : Nni t n p c y x) (hy : y = sibT t n c) : ∃ X Y, ExOk t n x y s X Y (exS t n c x) := by
  have hP := tok_par hn hok
  obtain ⟨X, iX, tX⟩ := in_of_all ((h.mem x).2 hN.xn)
  obtain ⟨Y, iY, tY⟩ := in_of_all ((h.mem y).2 hN.yn)
  have pX := h.part hn hok hb iX
  have pY := h.part hn hok hb iY
  rw [tX] at pX
  rw [tY] at pY
  have hpn : p < n := by have := hN.cn; have := hN.pp; omega
  have ex : pthF t n x = pthF t n p ++ [c] ++ [x] := by
    rw [pth_succ hP (by have := hN.xc; omega) hN.xn, hN.px, Int.toNat_natCast, pth_succ hP (by have := hN.pp; omega) hN.cn, hN.pc, Int.toNat_natCast]
  have ey : pthF t n y = pthF t n p ++ [y] := by rw [pth_succ hP (by have := hN.yp; omega) hN.yn, hN.py, Int.toNat_natCast]
  have hxy : x ≠ y := fun e => by have := hN.px; have := hN.py; have := hN.pp; rw [e] at *; omega
  have xY : x ∉ Y.all := fun hm => by
    have := ((pY x).1 hm).2
    rw [ex, List.mem_append, List.mem_append, List.mem_singleton, List.mem_singleton] at this
    rcases this with (h1 | h1) | h1
    · have := pth_lt hP p p (Nat.le_refl _) hpn y h1; have := hN.yp; omega
    · exact hN.yc h1
    · exact hxy h1.symm
  have yX : y ∉ X.all := fun hm => by
    have := ((pX y).1 hm).2
    rw [ey, List.mem_append, List.mem_singleton] at this
    rcases this with h1 | h1
    · have := pth_lt hP p p (Nat.le_refl _) hpn x h1; have := hN.xc; have := hN.pp; omega
    · exact hxy h1
  have ndl : ∀ {z : Sh}, Sh.In z s → z.top ∉ z.low := fun {z} hz hm => by
    have key : ∀ (s : Sh), s.all.Nodup → Sh.In z s → z.all.Nodup := by
      intro s
      induction s with
      | lf u => intro h1 h2; rw [show z = .lf u from h2]; exact h1
      | nd u a b iha ihb =>
        intro h1 h2
        obtain ⟨n1, n2⟩ := List.nodup_cons.1 h1
        obtain ⟨n3, n4, n5⟩ := List.nodup_append.1 n2
        rcases h2 with h2 | h2 | h2
        · rw [h2]; exact h1
        · exact iha n3 h2
        · exact ihb n4 h2
    have h1 := key s h.nd hz
    cases z with
    | lf v => cases hm
    | nd v a b => exact (List.nodup_cons.1 h1).1 hm
  have uniq : ∀ z, Sh.In z s → (z.top = x → z = X) ∧ (z.top = y → z = Y) := fun z hz => ⟨fun e => Sh.in_uniq h.nd hz iX (by rw [e, tX]), fun e => Sh.in_uniq h.nd hz iY (by rw [e, tY])⟩
  have x1 : x ∉ X.low := by have := ndl iX; rwa [tX] at this
  have y2 : y ∉ Y.low := by have := ndl iY; rwa [tY] at this
  have x2 : y ∉ X.low := fun hm => yX ((low_all X y).2 (.inr hm))
  have y1 : x ∉ Y.low := fun hm => xY ((low_all Y x).2 (.inr hm))
  have hsub := sub_rep tX tY (sub_in h.sub iX) (sub_in h.sub iY) x1 x2 y1 y2 h.sub
  have hperm := (rep_perm uniq h.nd xY yX ((h.mem x).2 hN.xn) ((h.mem y).2 hN.yn)).trans h.perm
  have htop : (rep x y X Y s).top = 0 := by
    rw [rep_top tX tY, h.top]
    unfold swp
    rw [if_neg (by have := hN.xc; omega), if_neg (by have := hN.yp; omega)]
  have hinn : (rep x y X Y s).inn ≤ n := by
    have := hperm.length_eq
    rw [Sh.all_len, List.length_range] at this; omega
  have hex : exS t n c x = rep x y X Y s := by
    unfold exS swK
    rw [← hy]
    have := shF_sub _ hsub n hinn
    rw [htop] at this; exact this
  refine ⟨X, Y, hex, iX, iY, tX, tY, xY, yX, by rw [hex]; exact hsub, sub_keep (sub_in h.sub iX) x1 x2, sub_keep (sub_in h.sub iY) y1 y2, by rw [hex]; exact htop, by rw [hex]; exact hperm, ?_⟩
  rw [hex]
  have nd1 := hperm.nodup_iff.2 List.nodup_range
  refine (List.perm_ext_iff_of_nodup (List.nodup_append.1 ((Sh.pre_all _).nodup_iff.2 nd1)).2.1 (List.nodup_append.1 (s.pre_all.nodup_iff.2 h.nd)).2.1).2 fun u => ?_
  rw [sub_lvs hsub, sub_lvs h.sub, hperm.mem_iff, h.perm.mem_iff, List.map_eq_nil_iff]
/-- A neighbour is numbered. -/
theorem near_ok {t : List Nd} {n c x : Nat} {s X Y : Sh} {y : Nat} (hn : t.length = n) (hok : TreeOk t) (h : ShT t n s) (hE : ExOk t n x y s X Y (exS t n c x)) : NumOk t (lvsL t n) (exS t n c x).srt :=
  numOk_of hn hok ((Sh.srt_all _).trans hE.perm) ((h.lvs hn).trans (hE.lvs.symm.trans (Sh.srt_lvs _).symm))
theorem lvs_pw (t : List Nd) (n : Nat) : (lvsL t n).Pairwise (· < ·) := List.Pairwise.filter _ List.pairwise_lt_range
/-- A numbered tree: its shape; numbered again it is the same. -/
structure Canon (t one : List Nd) (n : Nat) (L : List Nat) (s r : Sh) : Prop where
  ok : NumOk t L s
  eq : one = numS t L s
  srt : s.srt = s
  len : s.all.length = n
  pw : L.Pairwise (· < ·)
  shT : ShT one n r
  sw : Sh.Sw (s.map (rho L s)) r
  lvs : lvsL one n = L.map (rho L s)
theorem rho_mono {L : List Nat} {s : Sh} (hn : s.all.Nodup) (hL : L.Perm s.lvs) (hp : L.Pairwise (· < ·)) : ∀ u v, u ∈ s.lvs → v ∈ s.lvs → u < v → rho L s u < rho L s v := fun u v hu hv huv => by
  obtain ⟨i, hi, ei⟩ := List.mem_iff_getElem.1 (hL.mem_iff.2 hu)
  obtain ⟨j, hj, ej⟩ := List.mem_iff_getElem.1 (hL.mem_iff.2 hv)
  rw [← ei, ← ej, rho_leaf hn hL hi, rho_leaf hn hL hj]
  rcases Nat.lt_trichotomy i j with q | q | q
  · omega
  · subst q; rw [ei] at ej; omega
  · have := List.pairwise_iff_getElem.1 hp j i hj hi q
    omega
theorem canon_of {t : List Nd} {n : Nat} {L : List Nat} {s : Sh} (h : NumOk t L s) (hs : s.srt = s) (hl : s.all.length = n) (hp : L.Pairwise (· < ·)) : ∃ r, Canon t (numS t L s) n L s r := by
  obtain ⟨r, h1, h2⟩ := h.shape s s.in_self
  have hlen := h.len
  subst hl
  refine ⟨r, h, rfl, hs, rfl, hp, ⟨h1, ?_, fun u => ?_, ?_⟩, h2, ?_⟩
  · rw [← h2.top, map_top, rho_top h.perm]
  · rw [← h2.all.mem_iff, Sh.map_all, List.mem_map]
    constructor
    · rintro ⟨v, hv, rfl⟩; exact h.lt hv
    · intro hu
      obtain ⟨v, hv, e⟩ := h.sur hu
      exact ⟨v, hv, e⟩
  · refine h2.all.nodup_iff.1 ?_
    rw [Sh.map_all]
    have key : ∀ l : List Nat, l.Nodup → (∀ v, v ∈ l → v ∈ s.all) → (l.map (rho L s)).Nodup := by
      intro l
      induction l with
      | nil => intro _ _; exact List.nodup_nil
      | cons a l ih =>
        intro hn hm
        obtain ⟨n1, n2⟩ := List.nodup_cons.1 hn
        refine List.nodup_cons.2 ⟨fun hx => ?_, ih n2 fun v hv => hm v (List.mem_cons_of_mem _ hv)⟩
        obtain ⟨v, hv, e⟩ := List.mem_map.1 hx
        have := rho_inj h.perm (hm v (List.mem_cons_of_mem _ hv)) (hm a List.mem_cons_self) e
        rw [this] at hv; exact n1 hv
    exact key s.all h.nd fun v hv => hv
  · rw [← tok_lv hlen h.tree, h.lvs]
    refine List.ext_getElem (by simp) fun i h1 h2 => ?_
    rw [List.getElem_map, List.getElem_range, List.getElem_map, rho_leaf h.nd h.perm (by simpa using h2)]
theorem Canon.again {t one : List Nd} {n : Nat} {L : List Nat} {s r : Sh} (h : Canon t one n L s r) : numL one (lvsL one n) r = one := by
  rw [← numL_sw h.sw ?_, h.lvs]
  · have h1 := numL_map (t := t) (t' := one) (L := L) (s := s) (f := rho L s) (rho_mono h.ok.nd h.ok.perm h.pw) (fun v hv => h.ok.perm.mem_iff.1 hv) (fun v hv => by rw [h.eq]; exact h.ok.nm hv)
    rw [h1]
    show numS t L s.srt = one
    rw [h.srt, h.eq]
  · have := (List.nodup_append.1 ((Sh.pre_all r).nodup_iff.2 h.shT.nd)).2.1
    exact h.sw.lvs.nodup_iff.2 this
end Go.Proofs.YtjmnakkkimgifaaDoor
namespace Go.Proofs.YtjmnakkkimgifaaDoor
open Go Go.RowKit Go.Shelf
theorem in_map {f : Nat → Nat} {z : Sh} : ∀ {s : Sh}, Sh.In z s → Sh.In (z.map f) (s.map f)
  | .lf v, h => by rw [show z = .lf v from h]; exact Sh.in_self _
  | .nd v a b, h => by
    rcases h with h | h | h
    · rw [h]; exact Sh.in_self _
    · exact .inr (.inl (in_map h))
    · exact .inr (.inr (in_map h))
theorem sw_in {z s s' : Sh} (h : Sh.Sw s s') : Sh.In z s → ∃ z', Sh.In z' s' ∧ Sh.Sw z z' := by
  induction h with
  | lf v => intro hz; rw [show z = .lf v from hz]; exact ⟨_, Sh.in_self _, .lf v⟩
  | nd v h1 h2 i1 i2 =>
    intro hz
    rcases hz with hz | hz | hz
    · rw [hz]; exact ⟨_, Sh.in_self _, .nd v h1 h2⟩
    · obtain ⟨z', k1, k2⟩ := i1 hz; exact ⟨z', .inr (.inl k1), k2⟩
    · obtain ⟨z', k1, k2⟩ := i2 hz; exact ⟨z', .inr (.inr k1), k2⟩
  | sw v h1 h2 i1 i2 =>
    intro hz
    rcases hz with hz | hz | hz
    · rw [hz]; exact ⟨_, Sh.in_self _, .sw v h1 h2⟩
    · obtain ⟨z', k1, k2⟩ := i1 hz; exact ⟨z', .inr (.inr k1), k2⟩
    · obtain ⟨z', k1, k2⟩ := i2 hz; exact ⟨z', .inr (.inl k1), k2⟩
/-- A child's parent in the numbered tree. -/
theorem NumOk.kid_par {t : List Nd} {L : List Nat} {e : Sh} {K : Nat → List Nat} (h : NumOk t L e.srt) (hs : Sub K e) {v w : Nat} (hv : v ∈ e.all) (hw : w ∈ K v) : nP (numS t L e.srt) (rho L e.srt w) = rho L e.srt v := by
  obtain ⟨z, hz, ez⟩ := in_of_all hv
  have hsz := sub_in hs hz
  obtain ⟨z', hz', sz⟩ := sw_in (Sh.Sw.srtS e) hz
  cases z with
  | lf u =>
    have : K v = [] := by rw [← ez]; exact hsz
    rw [this] at hw; cases hw
  | nd u a b =>
    have eu : u = v := ez
    subst eu
    rw [hsz.1] at hw
    have hp := par_num (t := t) h.nd h.perm
    cases sz with
    | nd _ s1 s2 =>
      obtain ⟨q1, q2, _, _⟩ := par_in hp hz'
      rw [← s1.top] at q1
      rw [← s2.top] at q2
      rcases List.mem_cons.1 hw with rfl | hw
      · exact q1
      · rw [List.mem_singleton.1 hw]; exact q2
    | sw _ s1 s2 =>
      obtain ⟨q1, q2, _, _⟩ := par_in hp hz'
      rw [← s2.top] at q1
      rw [← s1.top] at q2
      rcases List.mem_cons.1 hw with rfl | hw
      · exact q2
      · rw [List.mem_singleton.1 hw]; exact q1
/-- Back again. -/
theorem near_back {t one : List Nd} {n : Nat} {L : List Nat} {s r : Sh} (hC : Canon t one n L s r) {c x : Nat} (h0 : 0 < c) (hc : c < n) (hx : x ∈ famL one n c) :
    ∃ c2 x2, 0 < c2 ∧ c2 < n ∧ x2 ∈ famL (nearAt one n c x) n c2 ∧ nearAt (nearAt one n c x) n c2 x2 = one := by
  have hlen : one.length = n := by rw [hC.eq, hC.ok.len, hC.len]
  have hok : TreeOk one := by rw [hC.eq]; exact hC.ok.tree
  have hb : BinT one n := by rw [hC.eq, ← hC.len]; exact hC.ok.bin
  obtain ⟨y, hy⟩ : ∃ y, y = sibT one n c := ⟨_, rfl⟩
  have hN := nni_of hlen hok hb h0 hc hx
  obtain ⟨p, hp⟩ : ∃ p, p = (nP one c).toNat := ⟨_, rfl⟩
  rw [← hy, ← hp] at hN
  obtain ⟨X, Y, hE⟩ := ex_ok hlen hok hb hC.shT hN hy
  have hK := near_ok hlen hok hC.shT hE
  obtain ⟨e1, he1⟩ : ∃ e, e = exS one n c x := ⟨_, rfl⟩
  have htwo : nearAt one n c x = numS one (lvsL one n) e1.srt := by rw [he1]; rfl
  rw [← he1] at hE hK
  have hlen2 : e1.srt.all.length = n := by rw [(Sh.srt_all e1).length_eq, hE.perm.length_eq, List.length_range]
  obtain ⟨r2, hC2⟩ := canon_of hK (Sh.srt_srt e1) hlen2 (lvs_pw one n)
  rw [htwo]
  obtain ⟨two, h2⟩ : ∃ two, two = numS one (lvsL one n) e1.srt := ⟨_, rfl⟩
  rw [← h2] at hC2 ⊢
  obtain ⟨ρ, hρ⟩ : ∃ ρ, ρ = rho (lvsL one n) e1.srt := ⟨_, rfl⟩
  have hok2 : TreeOk two := by rw [h2]; exact hK.tree
  have hlt2 : two.length = n := by rw [h2, hK.len, hlen2]
  have hb2 : BinT two n := by have := hK.bin; rw [hlen2, ← h2] at this; exact this
  have mem1 : ∀ u, u < n → u ∈ e1.all := fun u hu => hE.perm.mem_iff.2 (List.mem_range.2 hu)
  have mem2 : ∀ u, u < n → u ∈ e1.srt.all := fun u hu => (Sh.srt_all e1).mem_iff.2 (mem1 u hu)
  have hpn : p < n := by have := hN.pp; omega
  have kp : ∀ v w, v < n → w ∈ (famL one n v).map (swp x y) → nP two (ρ w) = ρ v := fun v w hv hw => by
    rw [h2, hρ]; exact hK.kid_par hE.sub (mem1 v hv) hw
  have hcx : c ≠ x := by have := hN.xc; omega
  have swx : swp x y x = y := if_pos rfl
  have swc : swp x y c = c := by unfold swp; rw [if_neg hcx, if_neg (fun e => hN.yc e.symm)]
  have swy : swp x y y = x := by
    unfold swp
    by_cases e : y = x
    · rw [if_pos e]; exact e
    · rw [if_neg e, if_pos rfl]
  have k1 : nP two (ρ y) = ρ c := kp c y hc (List.mem_map.2 ⟨x, hx, swx⟩)
  have k2 : nP two (ρ c) = ρ p := kp p c hpn (List.mem_map.2 ⟨c, (hN.fam c).2 (.inl rfl), swc⟩)
  have k3 : nP two (ρ x) = ρ p := kp p x hpn (List.mem_map.2 ⟨y, (hN.fam y).2 (.inr rfl), swy⟩)
  have rlt : ∀ u, u < n → ρ u < n := fun u hu => by have := hK.lt (mem2 u hu); rw [hlen2, ← hρ] at this; exact this
  have rinj : ∀ u v, u < n → v < n → ρ u = ρ v → u = v := fun u v hu hv e => by rw [hρ] at e; exact rho_inj hK.perm (mem2 u hu) (mem2 v hv) e
  have hroot : nP two 0 = -1 := by rw [h2]; exact hK.root
  have rpos : ∀ u, (∃ q : Nat, nP two (ρ u) = q) → 0 < ρ u := fun u ⟨q, hq⟩ => by
    rcases Nat.eq_zero_or_pos (ρ u) with e | e
    · rw [e, hroot] at hq; omega
    · exact e
  have c20 := rpos c ⟨_, k2⟩
  have hx2 : ρ y ∈ famL two n (ρ c) := fam_mem.2 ⟨rlt y hN.yn, rpos y ⟨_, k1⟩, k1⟩
  refine ⟨ρ c, ρ y, c20, rlt c hc, hx2, ?_⟩
  have hN2 := nni_of hlt2 hok2 hb2 c20 (rlt c hc) hx2
  rw [k2, Int.toNat_natCast] at hN2
  have hsib : ρ x = sibT two n (ρ c) := by
    have hm : ρ x ∈ famL two n (ρ p) := fam_mem.2 ⟨rlt x hN.xn, rpos x ⟨_, k3⟩, k3⟩
    rcases (hN2.fam _).1 hm with e | e
    · exact absurd (rinj x c hN.xn hc e) (fun e => hcx e.symm)
    · exact e
  rw [← hsib] at hN2
  obtain ⟨X2, Y2, hE2⟩ := ex_ok hlt2 hok2 hb2 hC2.shT hN2 hsib
  have hsw : Sh.Sw (e1.map ρ) r2 := by
    rw [hρ]; exact (Sh.Sw.map _ (Sh.Sw.srtS e1)).trans hC2.sw
  have part : ∀ {Z : Sh}, Sub (fun v => (famL one n v).map (swp x y)) Z → Z.top < n → ∀ {Z2 : Sh}, Sh.In Z2 r2 → Z2.top = ρ Z.top → Sh.Sw (Z.map ρ) Z2 := fun {Z} hZ hZn {Z2} hi ht => by
    obtain ⟨z, hz, ez⟩ := in_of_all (mem1 Z.top hZn)
    have e := sub_uniq (sub_in hE.sub hz) hZ ez
    rw [e] at hz
    obtain ⟨z2, i2, s2⟩ := sw_in hsw (in_map (f := ρ) hz)
    have e2 : z2 = Z2 := Sh.in_uniq hC2.shT.nd i2 hi (by rw [← s2.top, map_top, ht])
    rw [← e2]; exact s2
  have sX := part hE.subY (by rw [hE.tY]; exact hN.yn) hE2.inX (by rw [hE2.tX, hE.tY])
  have sY := part hE.subX (by rw [hE.tX]; exact hN.xn) hE2.inY (by rw [hE2.tY, hE.tX])
  have hfin : Sh.Sw (r.map ρ) (exS two n (ρ c) (ρ y)) := by
    rw [hE2.eq]
    have h3 := rep_sw (x := ρ y) (y := ρ x) sX sY hsw
    rw [rep_map fun u hu => ⟨fun e => rinj u y (List.mem_range.1 (hE.perm.mem_iff.1 hu)) hN.yn e, fun e => rinj u x (List.mem_range.1 (hE.perm.mem_iff.1 hu)) hN.xn e⟩] at h3
    have h4 : rep y x Y X e1 = r := by
      rw [hE.eq]
      exact rep_rep hE.tX hE.tY (fun e => hE.yX (by rw [← e, ← hE.tX]; exact Sh.top_mem X)) fun z hz => ⟨fun e => Sh.in_uniq hC.shT.nd hz hE.inX (by rw [e, hE.tX]), fun e => Sh.in_uniq hC.shT.nd hz hE.inY (by rw [e, hE.tY])⟩
    rw [h4] at h3; exact h3
  show numL two (lvsL two n) (exS two n (ρ c) (ρ y)) = one
  have hlv : r.lvs.Perm e1.srt.lvs := hE.lvs.symm.trans (Sh.srt_lvs e1).symm
  have hnd : (r.map ρ).lvs.Nodup := by
    have h5 := hE2.perm.nodup_iff.2 List.nodup_range
    exact hfin.lvs.nodup_iff.2 (List.nodup_append.1 ((Sh.pre_all _).nodup_iff.2 h5)).2.1
  rw [← numL_sw hfin hnd, hC2.lvs, ← hρ]
  have hL1 : (lvsL one n).Perm r.lvs := hC.shT.lvs hlen
  have h6 := numL_map (t := one) (t' := two) (L := lvsL one n) (s := r) (f := ρ) (fun u v hu hv huv => by
    rw [hρ]; exact rho_mono hK.nd hK.perm (lvs_pw one n) u v (hlv.mem_iff.1 hu) (hlv.mem_iff.1 hv) huv) (fun v hv => hL1.mem_iff.1 hv) (fun v hv => by
    rw [h2, hρ]; exact hK.nm (mem2 v ((hC.shT.mem v).1 hv)))
  rw [h6]
  exact hC.again
theorem mem_near {t : List Nd} {n : Nat} {w : List Nd} : w ∈ nearL t n ↔ ∃ c x, 0 < c ∧ c < n ∧ x ∈ famL t n c ∧ w = nearAt t n c x := by
  unfold nearL
  rw [List.mem_flatMap]
  constructor
  · rintro ⟨c, hc, h⟩
    obtain ⟨x, hx, e⟩ := List.mem_map.1 h
    rw [List.mem_range'_1] at hc
    exact ⟨c, x, by omega, by omega, hx, e.symm⟩
  · rintro ⟨c, x, h1, h2, hx, e⟩
    exact ⟨c, by rw [List.mem_range'_1]; omega, List.mem_map.2 ⟨x, hx, e.symm⟩⟩
theorem sum_range' (g : Nat → Nat) : ∀ m a, sumF g a + ((List.range' a m).map g).sum = sumF g (a + m) := by
  intro m
  induction m with
  | zero => intro a; simp
  | succ m ih =>
    intro a
    have h := ih (a + 1)
    rw [List.range'_succ, List.map_cons, List.sum_cons, ← Nat.add_assoc]
    show sumF g (a + 1) + _ = _
    rw [h, show a + 1 + m = a + (m + 1) by omega]
/-- Each node but the root is a child of one. -/
theorem fam_sum {t : List Nd} {n : Nat} (hP : ∀ v, 0 < v → v < n → 0 ≤ nP t v ∧ nP t v < v) : ∀ k, k + 1 ≤ n → sumF (fun c => (famL t (k + 1) c).length) n = k := by
  intro k
  induction k with
  | zero =>
    intro _
    have : ∀ m, sumF (fun c => (famL t 1 c).length) m = 0 := by
      intro m
      induction m with
      | zero => rfl
      | succ m ih =>
        show sumF _ m + (famL t 1 m).length = 0
        rw [ih]
        have : famL t 1 m = [] := fam_none fun u hu => by have := fam_mem.1 hu; omega
        rw [this]; rfl
    exact this n
  | succ k ih =>
    intro hk
    obtain ⟨p0, p1⟩ := hP (k + 1) (by omega) (by omega)
    obtain ⟨p, hp⟩ : ∃ p : Nat, nP t (k + 1) = p := ⟨(nP t (k + 1)).toNat, by omega⟩
    have h1 : sumF (fun c => (famL t (k + 2) c).length) n = sumF (fun c => (famL t (k + 1) c).length + if (p : Int) = (c : Int) then 1 else 0) n := sumF_congr n fun c _ => by
      show (famL t (k + 1 + 1) c).length = _
      rw [famL_snoc, List.length_append]
      unfold kidB
      rw [decide_eq_true (show 0 < k + 1 by omega), hp]
      by_cases e : (p : Int) = (c : Int)
      · rw [decide_eq_true e, if_pos e]; rfl
      · rw [decide_eq_false e, if_neg e]; rfl
    show sumF (fun c => (famL t (k + 2) c).length) n = k + 1
    rw [h1, sumF_add, ih (by omega), sumF_one, if_pos (by omega)]
theorem near_len {t : List Nd} {n : Nat} (hn : t.length = n) (hok : TreeOk t) (hb : BinT t n) : (nearL t n).length = n - 3 := by
  have hP := tok_par hn hok
  have h1 : 1 ≤ n := by have := hok.1; omega
  have hs := fam_sum hP (n - 1) (by omega)
  rw [show n - 1 + 1 = n by omega] at hs
  have h2 := sum_range' (fun c => (famL t n c).length) (n - 1) 1
  rw [show 1 + (n - 1) = n by omega, hs] at h2
  have h3 : (nearL t n).length = ((List.range' 1 (n - 1)).map fun c => (famL t n c).length).sum := by
    unfold nearL
    rw [List.length_flatMap]
    congr 1
    refine List.map_congr_left fun c _ => ?_
    rw [List.length_map]
  rw [h3]
  have h4 : sumF (fun c => (famL t n c).length) 1 = (famL t n 0).length := by simp [sumF]
  rw [h4] at h2
  rcases hb 0 (by omega) with h | h
  · rw [h] at h2
    by_cases e : n = 1
    · subst e; rfl
    · exfalso
      have : 1 ∈ famL t n 0 := fam_mem.2 ⟨by omega, by omega, by have := hP 1 (by omega) (by omega); omega⟩
      rw [List.eq_nil_of_length_eq_zero h] at this; cases this
  · rw [h] at h2; omega
end Go.Proofs.YtjmnakkkimgifaaDoor
namespace Go.Proofs.YtjmnakkkimgifaaDoor
open Go Go.RowKit Go.Shelf
set_option maxRecDepth 100000 in
set_option maxHeartbeats 4000000 in
theorem children_any (a : Option Addr) (n c : Nat) (t : List Nd) (w : World) (hn : t.length = n) (hN : n ≤ 64) (hA : Rd w a (fl encNd t)) (hP : ∀ v, 0 < v → v < n → 0 ≤ nP t v ∧ nP t v < n) (h0 : nP t 0 < 0) :
    Calls Tryd.prog 41 #[.slice a n c] w fun e w' => ∃ g rs, e = .returned (.slice (some ⟨g, 0, none⟩) n n) ∧ FamW w' w.heap.size g n (fun v => famL t n v) rs ∧ Below w.heap.size w w' := by
  have HN := Lib.hid hn
  have HA := Lib.hid hA
  have HP := Lib.hid hP
  have HZ := Lib.hid h0
  obtain ⟨i0, hi0, hz0, hz1, hz2⟩ := info_parts info_R
  have hmk := run_make (P := Tryd.prog) w 79 27 i0 _ Tryd.underlying79 hi0 hz0 .i64 .i64 (n : Int) (n : Int) (by omega) (by omega) (by rw [hz2]; omega) (by omega)
  simp only [hz1, Int.toNat_natCast, Nat.mul_one] at hmk
  have hF0 := FamW.made w w.heap.size n (Nat.le_refl _) (by unfold maxLen; omega)
  have hb0 := bl_alloc (Below.refl _ w) (.cells (madeCells #[.slice none 0 0] n) 27)
  have HF0 := Lib.hid hF0
  have HB0 := Lib.hid hb0
  clear hi0 hz0 hz1 hz2 hn hA hP hF0 hb0 h0
  go_enter Tryd.func41, Tryd.ntmps41
  go_upto_region 2 with fail
  obtain ⟨g, hg⟩ : ∃ x, x = w.heap.size := ⟨_, rfl⟩
  obtain ⟨w1, hw1⟩ : ∃ x, x = w.alloc (.cells (madeCells #[.slice none 0 0] n) 27) := ⟨_, rfl⟩
  rw [← hw1] at HF0 HB0 ⊢
  rw [← hg] at HF0 HB0 ⊢
  have HG := Lib.hid hg
  clear hw1 hg hmk
  go_wp2_with fail
  go_loopw [11] (fun x wr => ∃ k : Nat, k ≤ n ∧ x = .int .i64 k ∧ ∃ rs, Hid (FamW wr g g n (fun v => famL t k v) rs) ∧ Hid (Below g w wr)) (fun x _ => n - (intOf x).toNat)
  case atStart => exact ⟨0, by omega, rfl, _, HF0, HB0⟩
  case round =>
    clear HF0 HB0
    obtain ⟨k, hk, rfl, rs, hF, hbl⟩ := hrel
    by_cases hlt : k < n
    · obtain ⟨b, o, rfl, hb, hc⟩ := rdNd HA.out (by rw [HN.out]; omega)
      obtain ⟨G0, G1⟩ := hc k (by rw [HN.out]; exact hlt)
      rw [← HG.out] at hb
      have G0' := (hbl.out.cell (p := ⟨b, o + k * 2, none⟩) hb).trans G0
      have G1' := (hbl.out.cell (p := ⟨b, o + k * 2 + 1, none⟩) hb).trans G1
      have hsn : Hid (∀ v, famL t (k + 1) v = famL t k v ++ (if kidB t v k then [k] else [])) := fun v => famL_snoc t k v
      have HPK := Lib.hid (HP.out k)
      have HZK : Hid (k = 0 → nP t k < 0) := fun e => by rw [e]; exact HZ.out
      have hkd : Hid (∀ v, kidB t v k = (decide (0 < k) && decide (nP t k = (v : Int)))) := fun v => rfl
      clear hc G0 G1
      generalize nP t k = P at *
      generalize nS t k = s at *
      by_cases h0 : k = 0
      · have hfam : Hid ((fun v => famL t (k + 1) v) = fun v => famL t k v) := by
          show _ = _
          funext v
          rw [hsn.out, hkd.out, decide_eq_false (by omega)]
          simp
        have hPneg := HZK.out h0
        have d1 : decide (0 ≤ P) = false := by simp; omega
        clear h0
        go_wp2_with fail
        go_roundw
        case rel => exact ⟨k + 1, by omega, by go_num, rs, by rw [hfam.out]; exact hF.out.bl (bl_alloc (Below.refl _ _) _), hbl.out.trans ((bl_alloc (Below.refl _ wr) _).mono (by have := hbl.out.size; have := HG.out; omega))⟩
        case measure => simp [intOf]; omega
      · have h00 : 0 < k := by omega
        obtain ⟨hp0, hpn⟩ := HPK.out h00 hlt
        obtain ⟨p, rfl⟩ : ∃ p : Nat, P = p := ⟨P.toNat, by omega⟩
        have hpn' : p < n := by omega
        have d1 : decide (0 ≤ (p : Int)) = true := by simp
        have d1k : decide (0 < k) = true := by simpa using h00
        clear h0 hp0 hpn
        go_upto_region 6 with fail
        have hF2 := hF.out.bl (bl_alloc (Below.refl _ wr) (.cells #[.int .i64 p, .string s] 41))
        have hbl2 : Below g w (wr.alloc (.cells #[.int .i64 p, .string s] 41)) := hbl.out.trans ((bl_alloc (Below.refl _ wr) _).mono (by have := hbl.out.size; have := HG.out; omega))
        have hX := Blk.new wr #[.int .i64 p, .string s] 41
        obtain ⟨X, hXe⟩ : ∃ x, x = wr.heap.size := ⟨_, rfl⟩
        have hz2 : (wr.alloc (.cells #[.int .i64 p, .string s] 41)).heap.size = X + 1 := by rw [hXe]; simp
        have hgX : g < X := by rw [hXe]; exact (hF.out.rows.lt g rfl).2
        obtain ⟨w2, hw2⟩ : ∃ x, x = wr.alloc (.cells #[.int .i64 p, .string s] 41) := ⟨_, rfl⟩
        rw [← hw2] at hF2 hbl2 hX hz2 ⊢
        rw [← hXe] at hX ⊢
        have HXE := Lib.hid hXe
        have HRL : Hid (∀ q, (slR (rs p)).ownBlock = some q → q < X) := fun q hq => by rw [hXe]; exact ((hF.out.row p hpn').lt q hq).2
        clear hw2 hXe G0' G1' hF hbl hb
        have c0 : w2.cell? ⟨X, 0, none⟩ = some (.int .i64 p) := hX.cell 0
        have c1 := hF2.cell hpn'
        obtain ⟨⟨A, m, cp⟩, hx⟩ : ∃ x, x = rs p := ⟨_, rfl⟩
        have hm : m = (famL t k p).length := by have := hF2.len p hpn'; rw [← hx] at this; exact this
        have hrow := hF2.row p hpn'
        have hfar := hF2.far p hpn'
        rw [← hx] at c1 hrow hfar
        have c1' : w2.cell? ⟨g, p, none⟩ = some (.slice A m cp) := c1
        have HM := Lib.hid hm
        have hm64 : m ≤ 64 := by have := famL_le t k p; omega
        have HX := Lib.hid hX
        have HXX := Lib.hid hx
        have HF2 := Lib.hid hF2
        have HB2 := Lib.hid hbl2
        have HROW := Lib.hid hrow
        have HFAR := Lib.hid hfar
        clear c1 hm hX hx hF2 hbl2 hrow hfar
        refine wp_region_order (S := fun w' => w'.cell? ⟨X, 0, none⟩ = some (.int .i64 p) ∧ w'.cell? ⟨g, p, none⟩ = some (.slice A m cp)) 11 [0,1,2,3,4,5,6,7,8] [9,10] (by kernel_rfl) (by kernel_rfl) ⟨c0, c1'⟩ ?_
        iterate 9 (refine headT_cons (by rfl) (by rfl) (by intro w hSw; obtain ⟨s0, s1⟩ := hSw; go_simp; try rfl) ?_; simp only [Act.put, List.setIfInBounds_toArray, List.set_cons_zero, List.set_cons_succ])
        refine headT_nil ?_
        obtain ⟨w4, hw4⟩ : ∃ x, x = w2.drew := ⟨_, rfl⟩
        rw [← hw4]
        have hb4 : Below w2.heap.size w2 w4 := by rw [hw4]; exact bl_drewN (Below.refl _ _) 1
        have hz4 : w4.heap.size = X + 1 := by rw [hw4]; exact hz2
        clear hw4
        refine midT_cons (by rfl) (fun K hK => ?_)
        rw [if_pos (by rfl)]
        go_simp
        have hb5 := bl_alloc hb4 (.cells #[.int .i64 k] 3)
        have hN5 := Blk.new w4 #[.int .i64 k] 3
        have hz5 : (w4.alloc (.cells #[.int .i64 k] 3)).heap.size = X + 2 := by simp [hz4]
        rw [hz4] at hN5
        obtain ⟨w5, hw5⟩ : ∃ x, x = w4.alloc (.cells #[.int .i64 k] 3) := ⟨_, rfl⟩
        rw [← hw5] at hb5 hN5 hz5 ⊢
        have HF5 := Lib.hid (HF2.out.bl hb5)
        have HX5 := Lib.hid (HX.out.below hb5)
        have HR5 := Lib.hid (owns_below HROW.out hb5)
        have HB5 : Hid (Below g w w5) := HB2.out.trans (hb5.mono (by omega))
        clear hw5
        refine hK.out _ _ ⟨HX5.out.cell 0, by have h := HF5.out.cell hpn'; rw [← HXX.out] at h; exact h⟩ (fun _ => ?_)
        clear hK K
        try simp only [Act.put, List.setIfInBounds_toArray, List.set_cons_zero, List.set_cons_succ]
        refine midT_cons (by rfl) (fun K hK => ?_)
        refine spush_I rfl (.tmp 26) (.tmp 28) rfl g (.slice A m cp) (iN (famL t k p)) m (by rw [iN_len]; exact HM.out) rfl (by have h := HR5.out; rw [← HM.out] at h; exact h) _ _ (k : Int) rfl hN5 (by omega) (by omega) ?_
        intro g6 c6 w6 h1 h2 h3 h4
        have hz6 := h2.size
        have HX6 := Lib.hid (HX5.out.grown h2 (by
          intro e
          have := HRL.out X (by rw [← HXX.out]; exact e.symm)
          omega))
        have HG6 := Lib.hid (HF5.out.grow (w' := w6) hpn' (x := (some ⟨g6, 0, none⟩, m + 1, c6)) (X := famL t k p ++ [k]) (by rw [← HXX.out]; exact h2) (by
            rw [← iN_snoc] at h1
            have e : (famL t k p ++ [k]).length = m + 1 := by rw [List.length_append, ← HM.out]; rfl
            rw [e]; exact h1) (by rw [List.length_append, ← HM.out]; rfl) (by
            rw [← HXX.out]
            rcases h3 with h3 | h3
            · exact .inl h3.symm
            · exact .inr ⟨g6, rfl, by omega⟩))
        have hgp5 : w5.cell? ⟨g, p, none⟩ = some (.slice A m cp) := by have h := HF5.out.cell hpn'; rw [← HXX.out] at h; exact h
        have hgp6 : w6.cell? ⟨g, p, none⟩ = some (.slice A m cp) := h2.cell hgp5 (fun e => HFAR.out e.symm)
        have hrw6 := HF5.out.rows.kept h2 (.inr (fun e => HFAR.out e.symm))
        have hfz6 : w6.frozen? ⟨g, p, none⟩ = false := World.ownsRow.frozenAt hrw6 p
        have HB6 := Lib.hid (bl_grown (a := w) (by have h := HB5.out; rw [HG.out] at h; exact h) h2 (fun r hr => by have := (HR5.out.lt r hr).1; have := HG.out; omega))
        refine hK.out _ _ ⟨HX6.out.cell 0, hgp6⟩ (fun _ => ?_)
        clear hK K h1 h2 h3 h4 hrw6 hgp5 hN5 hb4 hb5 c0 c1'
        try simp only [Act.put, List.setIfInBounds_toArray, List.set_cons_zero, List.set_cons_succ]
        refine midT_nil ?_
        simp only [List.drop_succ_cons, List.drop_zero]
        go_wp2_with fail
        refine NoPanic.normal ?_
        go_wp2_with fail
        have hfam : Hid ((fun v => famL t (k + 1) v) = fun j => if j = p then famL t k p ++ [k] else famL t k j) := by
          show _ = _
          funext v
          rw [hsn.out, hkd.out, d1k]
          by_cases e : v = p
          · subst e; simp
          · rw [if_neg e, decide_eq_false (fun h => e (by omega))]; simp
        have HB7 : Hid (Below g w (w6.setCell ⟨g, p, none⟩ (.slice (some ⟨g6, 0, none⟩) (m + 1) c6))) := by
          have h := HB6.out
          rw [← HG.out] at h
          exact h.setCell (p := ⟨g, p, none⟩) (Nat.le_refl _) _
        go_roundw
        case rel => exact ⟨k + 1, by omega, by go_num, _, by rw [hfam.out]; exact HG6.out, HB7⟩
        case measure => simp [intOf]; omega
    · obtain rfl : k = n := by omega
      go_wp2_with fail
      go_ret
      exact ⟨g, rs, rfl, by rw [← HG.out]; exact hF.out, by rw [← HG.out]; exact hbl.out⟩
end Go.Proofs.YtjmnakkkimgifaaDoor
namespace Go.Proofs.YtjmnakkkimgifaaDoor
open Go Go.RowKit Go.Shelf
set_option maxRecDepth 100000 in
set_option maxHeartbeats 1000000 in
theorem idxRows_any (gf : Nat) (hen : Enters Tryd.prog gf) (env : Array Value) (p : Nat → Bool) (g n c : Nat) (rs : Nat → Rw) (w : World) (hN : n ≤ 1152921504606846976) (hg : g < w.heap.size) (hA : ∀ i, i < n → w.cell? ⟨g, i, none⟩ = some (slR (rs i)))
    (hp : ∀ i, i < n → ∀ W, Below w.heap.size w W → Calls Tryd.prog gf (#[slR (rs i)] ++ env) W fun e w' => e = .returned (.bool (p i)) ∧ Below W.heap.size W w') :
    Calls Tryd.prog 64 #[.slice (some ⟨g, 0, none⟩) n c, .func (.func gf) #[] env] w fun e w' => e = .returned (.int .i64 (idxF p (List.range n))) ∧ Below w.heap.size w w' := by
  have HA := Lib.hid hA
  have HP := Lib.hid hp
  clear hA hp
  have hbz := Below.refl w.heap.size w
  go_enter Tryd.func64, Tryd.ntmps64
  go_wp2_with fail
  go_loopw [8, 5] (fun x _ wr => ∃ k : Nat, k ≤ n ∧ x = .int .i64 k ∧ Hid (NoneBefore p (List.range n) k) ∧ Below w.heap.size w wr) (fun x _ _ => n - (intOf x).toNat)
  case atStart => exact ⟨0, by omega, rfl, NoneBefore.zero _ _, hbz⟩
  case round =>
    obtain ⟨k, hk, rfl, hnb, hbl⟩ := hrel
    clear hbz
    by_cases hlt : k < n
    · have hkl : k < (List.range n).length := by rw [List.length_range]; exact hlt
      have G := (hbl.cell (p := ⟨g, k, none⟩) hg).trans (HA.out k hlt)
      have HC := Lib.hid (HP.out k hlt wr hbl)
      have HY : Hid (p k = true → idxF p (List.range n) = k) := fun e => hnb.out.found hkl (by rw [List.getElem_range]; exact e)
      have HNX : Hid (p k = false → NoneBefore p (List.range n) (k + 1)) := fun e => hnb.out.next hkl (by rw [List.getElem_range]; exact e)
      clear hkl
      obtain ⟨⟨A, m, cp⟩, hx⟩ : ∃ x, x = rs k := ⟨_, rfl⟩
      rw [← hx] at G HC
      have G' : wr.cell? ⟨g, k, none⟩ = some (.slice A m cp) := G
      have HC' : Hid (Calls Tryd.prog gf (#[.slice A m cp] ++ env) wr fun e w' => e = .returned (.bool (p k)) ∧ Below wr.heap.size wr w') := HC.out
      clear hx G HC
      generalize p k = q at *
      have hcall := fun args W => hen args W
      go_wp2_with fail
      refine HC'.out.mono ?_
      rintro e w1 ⟨rfl, hb1⟩
      clear hcall
      have hbl1 := hbl.trans (hb1.mono hbl.size)
      cases q with
      | true =>
        have hy := Lib.hid (HY.out rfl)
        clear HY HNX
        go_wp2_with fail
        go_ret
        exact ⟨by rw [hy.out]; rfl, hbl1⟩
      | false =>
        have hy := Lib.hid (HNX.out rfl)
        clear HY HNX
        go_wp2_with fail
        go_roundw
        case rel => exact ⟨k + 1, by omega, by go_num, hy, hbl1⟩
        case measure => simp [intOf]; omega
    · have hy : Hid (idxF p (List.range n) = -1) := NoneBefore.none hnb.out (by rw [List.length_range]; omega)
      go_wp2_with fail
      go_ret
      exact ⟨by rw [hy.out]; rfl, hbl⟩
set_option maxHeartbeats 1000000 in
theorem contRows_any (gf : Nat) (hen : Enters Tryd.prog gf) (env : Array Value) (p : Nat → Bool) (g n c : Nat) (rs : Nat → Rw) (w : World) (hN : n ≤ 1152921504606846976) (hg : g < w.heap.size) (hA : ∀ i, i < n → w.cell? ⟨g, i, none⟩ = some (slR (rs i)))
    (hp : ∀ i, i < n → ∀ W, Below w.heap.size w W → Calls Tryd.prog gf (#[slR (rs i)] ++ env) W fun e w' => e = .returned (.bool (p i)) ∧ Below W.heap.size W w') :
    Calls Tryd.prog 40 #[.slice (some ⟨g, 0, none⟩) n c, .func (.func gf) #[] env] w fun e w' => e = .returned (.bool ((List.range n).any p)) ∧ Below w.heap.size w w' := by
  have H := Lib.hid (idxRows_any gf hen env p g n c rs w hN hg hA hp)
  have hb : Hid (decide (0 ≤ idxF p (List.range n)) = (List.range n).any p) := idxF_ge _ _
  clear hp hen hA
  go_enter Tryd.func40, Tryd.ntmps40
  go_wp2_with fail
  refine H.out.mono ?_
  rintro e w' ⟨rfl, hb1⟩
  generalize idxF p (List.range n) = z at *
  go_wp2_with fail
  go_ret
  exact ⟨by rw [← hb.out]; rfl, hb1⟩
set_option maxHeartbeats 1000000 in
theorem bin1_any (A : Option Addr) (m cp : Nat) (w : World) (hm : m ≤ 1152921504606846976) :
    Calls Tryd.prog 42 #[.slice A m cp] w fun e w' => e = .returned (.bool (decide (m = 1) || decide (2 < m))) ∧ Below w.heap.size w w' := by
  by_cases h1 : m = 1
  · subst h1
    go_enter Tryd.func42, Tryd.ntmps42
    go_wp2
    go_ret
    exact ⟨rfl, Below.refl _ _⟩
  · have t1 : ((m : Int) == 1) = false := by simp; omega
    have t2 : decide ((m : Int) = 1) = false := by simp; omega
    have t3 : decide (m = 1) = false := by simp; omega
    rw [t3]
    go_enter Tryd.func42, Tryd.ntmps42
    go_wp2_with fail
    go_ret
    exact ⟨by simp; omega, Below.refl _ _⟩
/-- Each node has no child or two. -/
def binB (t : List Nd) (n : Nat) : Bool := !(List.range n).any fun v => decide ((famL t n v).length = 1) || decide (2 < (famL t n v).length)
theorem binB_iff {t : List Nd} {n : Nat} : binB t n = true ↔ BinT t n := by
  unfold binB BinT
  rw [Bool.not_eq_true', List.any_eq_false]
  constructor
  · intro h v hv
    have := h v (List.mem_range.2 hv)
    simp at this; omega
  · intro h v hv
    have := h v (List.mem_range.1 hv)
    simp; omega
/-- What Binary answers. -/
def binP (t : List Nd) : Bool := decide (chkE t = 0) && binB t t.length
set_option maxHeartbeats 4000000 in
theorem binary_any (a : Option Addr) (n c : Nat) (t : List Nd) (w : World) (hn : t.length = n) (hN : n ≤ 1152921504606846976) (hA : Rd w a (fl encNd t)) (hS : ∀ v, v < n → (nS t v).size ≤ 9223372036854775807) :
    Calls Tryd.prog 12 #[.slice a n c] w fun e w' => e = .returned (.tuple #[.bool (binP t), .int .i64 (chkE t)]) ∧ Below w.heap.size w w' := by
  have HC := Lib.hid (check_any a n c t w hn hN hA hS)
  have HN := Lib.hid hn
  have HA := Lib.hid hA
  clear hn hA hS
  go_enter Tryd.func12, Tryd.ntmps12
  go_wp2_with fail
  refine HC.out.mono ?_
  rintro e w1 ⟨rfl, hb⟩
  have HB := Lib.hid hb
  have HA1 := Lib.hid (HA.out.bl hb)
  clear hb HC
  by_cases h0 : chkE t = 0
  · have hok := chk_tree h0
    have HE := Lib.hid h0
    have hn63 : n ≤ 63 := by have := hok.2.1; have := HN.out; omega
    have HP : Hid (∀ v, 0 < v → v < n → 0 ≤ nP t v ∧ nP t v < n) := fun v h1 h2 => by
      have := tree_par hok v h1 (by rw [HN.out]; exact h2)
      omega
    have HR : Hid (nP t 0 < 0) := tok_root hok
    have HB0 : Hid (binP t = binB t n) := by show _ = _; unfold binP; rw [decide_eq_true h0, Bool.true_and, HN.out]
    rw [h0]
    clear hok h0
    go_wp2_with fail
    refine (children_any a n c t w1 HN.out (by omega) HA1.out HP.out HR.out).mono ?_
    rintro e w2 ⟨g, rs, rfl, hF, hb2⟩
    have HB2 := Lib.hid (bl_trans HB.out hb2)
    have HLE : Hid (∀ i, i < n → (rs i).2.1 ≤ 63) := fun i hi => by have h1 := hF.len i hi; have h2 := famL_le t n i; omega
    have HLN : Hid (∀ i, i < n → (rs i).2.1 = (famL t n i).length) := hF.len
    have HCF := Lib.hid (contRows_any 42 (enters_of Tryd.func42 (by kernel_rfl) rfl) #[] (fun v => decide ((famL t n v).length = 1) || decide (2 < (famL t n v).length)) g n n rs w2 (by omega) (hF.rows.lt g rfl).2 (fun i hi => hF.cell hi) (fun i hi W _ => by
      have h := bin1_any (rs i).1 (rs i).2.1 (rs i).2.2 W (by have := HLE.out i hi; omega)
      rw [HLN.out i hi] at h
      have e : slR (rs i) = .slice (rs i).1 (famL t n i).length (rs i).2.2 := by unfold slR; rw [HLN.out i hi]
      rw [e]
      exact h))
    have HBE : Hid (((List.range n).any fun v => decide ((famL t n v).length = 1) || decide (2 < (famL t n v).length)) = !binB t n) := by show _ = _; unfold binB; simp
    rw [HBE.out] at HCF
    clear hF hb2 HBE
    obtain ⟨β, hβ⟩ : ∃ β, β = binB t n := ⟨_, rfl⟩
    rw [← hβ] at HCF HB0
    clear hβ
    go_wp2_with fail
    refine HCF.out.mono ?_
    rintro e w3 ⟨rfl, hb3⟩
    have HB3 := Lib.hid (bl_trans HB2.out hb3)
    clear hb3
    go_wp2_with fail
    go_ret2
    exact ⟨by rw [HB0.out, HE.out]; simp, HB3.out⟩
  · have h16 := (chk_tree' h0).1
    have HE := Lib.hid h16
    have HB0 : Hid (binP t = false) := by show _ = _; unfold binP; rw [decide_eq_false h0]; rfl
    rw [h16]
    clear h0 h16
    go_wp2_with fail
    go_ret2
    exact ⟨by rw [HB0.out, HE.out]; rfl, HB.out⟩
end Go.Proofs.YtjmnakkkimgifaaDoor
namespace Go.Proofs.YtjmnakkkimgifaaDoor
open Go Go.RowKit Go.Shelf
/-- What a round does: O are the blocks that the caller may write, O' those behind the round. -/
structure StepO (O O' : Nat → Prop) (W W' : World) : Prop where
  old : ∀ B, O' B → O B ∨ W.heap.size ≤ B
  lt : ∀ B, O' B → B < W'.heap.size
  size : W.heap.size ≤ W'.heap.size
  kp : ∀ (B : Nat) (cs : Array Value) (t : TypeId) (fr : Nat × Nat), ¬ O B → W.heap[B]? = some (.cells cs t fr) → W'.heap[B]? = some (.cells cs t fr)
theorem put_kp {W : World} {l B : Nat} {o o' : Obj} {cs : Array Value} {t : TypeId} {fr : Nat × Nat} (h : W.heap[l]? = some o) (hc : o.isCells = false) (hB : W.heap[B]? = some (.cells cs t fr)) : (W.putObj l o').heap[B]? = some (.cells cs t fr) := by
  have hg := grownBy_putObj' W l o'
  refine (hg.block B (Array.getElem?_eq_some_iff.1 hB).1 (fun e => ?_)).trans hB
  have := Option.some.inj e
  subst this
  rw [h] at hB
  cases hB
  cases hc
theorem StepO.puts {O O' : Nat → Prop} {W W3 : World} {l : Nat} {o o1 o3 o4 : Obj} (h1 : W.heap[l]? = some o) (c1 : o.isCells = false) (h : StepO O O' (W.putObj l o1) W3) (h3 : W3.heap[l]? = some o3) (c3 : o3.isCells = false) : StepO O O' W (W3.putObj l o4) := by
  have z1 : (W.putObj l o1).heap.size = W.heap.size := by simp [World.putObj]
  have z3 : (W3.putObj l o4).heap.size = W3.heap.size := by simp [World.putObj]
  refine ⟨fun B hB => ?_, fun B hB => by rw [z3]; exact h.lt B hB, by rw [z3, ← z1]; exact h.size, fun B cs t fr hO hB => put_kp h3 c3 (h.kp B cs t fr hO (put_kp h1 c1 hB))⟩
  have := h.old B hB
  rw [z1] at this; exact this
section law
variable {F : Fence} {n : Nat} {P : Program}
/-- An iterator's word: it gives N elements; the i-th one, x, stands as Ew i O x says; the blocks Fx are those that it reads. -/
def GivesT (F : Fence) (n : Nat) (P : Program) (gf : Nat) (lb : Array Value) (Ew : Nat → (Nat → Prop) → Value → World → Prop) (N : Nat) (Fx : Nat → Prop) (w : World) : Prop :=
  ∀ (l : Nat) (J : Nat → (Nat → Prop) → World → Prop) (W : World) (O : Nat → Prop), Below w.heap.size w W → (∀ k O W1 W2, J k O W1 → Below W1.heap.size W1 W2 → J k O W2) →
    (∀ k O x W1, J k O W1 → k < N → (∀ B, O B → B < W1.heap.size) → Ew k O x W1 → YieldAt F (n - 1) P l #[x] W1 fun e W' => e = .returned (.bool true) ∧ ∃ O', J (k + 1) O' W' ∧ StepO (fun B => O B ∨ x.ownBlock = some B) O' W1 W') →
    (∀ B, O B → B < W.heap.size ∧ ¬ Fx B) → J 0 O W →
    CallsIn F n P gf (#[.func (.yield l) #[] #[]] ++ lb) W fun e W' => (∃ v, e = .returned v) ∧ ∃ O', J N O' W'
/-- How the body of a round is left. -/
def ownPostT (I : Nat → (Nat → Prop) → World → Prop) (k : Nat) (O : Nat → Prop) (x : Value) (W : World) : Exit → Act → World → Prop
  | .normal, _, W' => KeepsOthers W W' ∧ ∃ O', I (k + 1) O' W' ∧ StepO (fun B => O B ∨ x.ownBlock = some B) O' W W'
  | _, _, _ => False
theorem wpIn_range_T {g : Operand} {ps : Array Tmp} {assign body : Code} {Q : Exit → Act → World → Prop} {a : Act} {w : World} (hro : F.round = none) (h1 : 1 ≤ n) {gf : Nat} {lb : Array Value}
    (hg : a.eval g = .func (.func gf) #[] lb) (hF : F.fn gf) (he : ∀ args W, (callFunc gf args).run P W = .ok (.enter gf args) W) {Ew : Nat → (Nat → Prop) → Value → World → Prop} {N : Nat} {Fx : Nat → Prop}
    (hseq : GivesT F (n - 1) P gf lb Ew N Fx w) (hEw : ∀ k O x W l o o', Ew k O x W → W.heap[l]? = some o → o.isCells = false → Ew k O x (W.putObj l o')) (hps : ps.size = 1)
    (I : Nat → (Nat → Prop) → World → Prop) (hI : OwnFrom w.heap.size (fun (s : Nat × (Nat → Prop)) W => I s.1 s.2 W)) (O₀ : Nat → Prop) (hO : ∀ B, O₀ B → B < w.heap.size ∧ ¬ Fx B) (h0 : I 0 O₀ w) (b : Value → Act)
    (hassign : ∀ (l : Nat) (x : Value) (W : World) (K : Act → World → Prop), K (b x) W → assign.wpIn (F.inRound l) (n - 1 - 1) P (Exit.then K fun _ _ _ => False) { tmps := (ps.zip #[x]).foldl (fun t (p, v) => t.setIfInBounds p v) a.tmps, defers := [] } W)
    (hbody : ∀ (l k : Nat) (O : Nat → Prop) (x : Value) (W : World), I k O W → k < N → (∀ B, O B → B < W.heap.size) → Ew k O x W → body.wpIn (F.inRound l) (n - 1 - 1) P (ownPostT I k O x W) (b x) W)
    (hdone : ∀ (D : Nat) (O : Nat → Prop) (W : World), w.heap.size ≤ D → I N O W → W.heap[D]? = some (.deferred (some [])) → Q .normal { a with defers := { target := .collected D, args := #[] } :: a.defers } W) :
    (Code.rangeFunc g ps assign body).wpIn F n P Q a w := by
  apply wpIn_rangeFunc
  intro fn hfn
  rw [hro]
  let L : LoopState → Obj := fun s => .loop { state := s, pending := none, fn := fn, tmps := a.tmps, params := ps, assign := assign, body := body, defers := w.heap.size }
  obtain ⟨D, hD⟩ : ∃ D, D = w.heap.size := ⟨_, rfl⟩
  have hrun := run_enterLoop_outer (P := P) (w := w) fn a.tmps ps assign body
  let U : World := (w.alloc (.deferred (some []))).alloc (L .ready)
  have uD : U.heap[D]? = some (.deferred (some [])) := by
    rw [hD]
    exact (Below.heap_alloc (w.alloc (.deferred (some []))) (L .ready) _ (by simp)).trans (World.alloc_heap_new w _)
  have uL : U.heap[D + 1]? = some (L .ready) := by
    have h := World.alloc_heap_new (w.alloc (.deferred (some []))) (L .ready)
    rw [World.size_alloc, ← hD] at h; exact h
  have uB : Below w.heap.size w U := bl_alloc (bl_alloc (Below.refl _ _) _) _
  have put : ∀ {k : Nat} {O : Nat → Prop} {W : World} (o o' : Obj), I k O W → W.heap[D + 1]? = some o → o.isCells = false → I k O (W.putObj (D + 1) o') := fun {k O W} o o' h hl ho => hI.putObj (s := (k, O)) o' h (by omega) hl ho
  refine ⟨D + 1, [{ target := .collected D, args := #[] }], U, { target := .fn (.func gf) lb, args := #[.func (.yield (D + 1)) #[] #[]] }, U, gf, #[.func (.yield (D + 1)) #[] #[]] ++ lb, U, ?_, ?_, ?_, ?_, fun _ => h1, ?_⟩
  · rw [hD]; exact hrun
  · simp only [resolve, hg]; simp [go_sem]
  · intro f' hf'
    simp [Target.leads] at hf'
    rw [← hf']; exact hF
  · simp [invoke, go_sem, he]
  · let J : Nat → (Nat → Prop) → World → Prop := fun k O W => I k O W ∧ W.heap[D + 1]? = some (L .ready) ∧ W.heap[D]? = some (.deferred (some []))
    refine (hseq (D + 1) J U O₀ uB ?_ ?_ (fun B hB => ⟨Nat.lt_of_lt_of_le (hO B hB).1 uB.size, (hO B hB).2⟩) ⟨?_, uL, uD⟩).mono ?_
    · rintro k O W1 W2 ⟨h, hl, hd⟩ hb
      refine ⟨hI (k, O) W1 W2 none h ⟨hb.os, hb.tape, hb.output, hb.size, fun k hk _ => hb.block k hk⟩ (fun r e => by cases e), (hb.block _ (Array.getElem?_eq_some_iff.1 hl).1).trans hl, (hb.block _ (Array.getElem?_eq_some_iff.1 hd).1).trans hd⟩
    · rintro k O x W ⟨h, hl, hd⟩ hk hOl hx
      have lt : D + 1 < W.heap.size := (Array.getElem?_eq_some_iff.1 hl).1
      refine ⟨fn, _, assign, body, run_yield hl (by rw [hps]; rfl), roundIn_of_wpIn hfn (hassign _ x W _ ⟨_, run_beginRound hl rfl, ?_⟩)⟩
      let W2 : World := W.putObj (D + 1) (L .busy)
      have hl2 : W2.heap[D + 1]? = some (L .busy) := World.putObj_heap_same lt
      have hd2 : W2.heap[D]? = some (.deferred (some [])) := (World.putObj_heap_other (by omega)).trans hd
      have hz2 : W2.heap.size = W.heap.size := by show (W.putObj _ _).heap.size = _; simp [World.putObj]
      refine wpIn_mono (hbody (D + 1) k O x W2 (put _ _ h hl rfl) hk (fun B hB => by rw [hz2]; exact hOl B hB) (hEw k O x W (D + 1) _ _ hx hl rfl)) ?_
      intro e a3 W3 hp
      cases e with
      | normal =>
        obtain ⟨ko, O', h3, hst⟩ := hp
        have hl3 := ko.same _ _ hl2 rfl
        have hd3 := ko.same _ _ hd2 rfl
        have lt3 : D + 1 < W3.heap.size := (Array.getElem?_eq_some_iff.1 hl3).1
        exact ⟨_, _, run_endRound none hl3, rfl, O', ⟨put _ _ h3 hl3 rfl, World.putObj_heap_same lt3, (World.putObj_heap_other (by omega)).trans hd3⟩, StepO.puts hl rfl hst hl3 rfl⟩
      | ret => exact hp.elim
      | exit id => exact hp.elim
      | goto t => exact hp.elim
      | panic c => exact hp.elim
      | outgrown => exact hp.elim
    · exact hI.alloc (s := (0, O₀)) _ (hI.alloc (s := (0, O₀)) _ h0)
    · rintro e W2 ⟨⟨v, rfl⟩, O', h, hl, hd⟩
      refine ⟨none, _, run_endLoop hl (by simp), ?_⟩
      exact hdone D O' _ (by omega) (put _ _ h hl rfl) ((World.putObj_heap_other (by omega)).trans hd)
end law
end Go.Proofs.YtjmnakkkimgifaaDoor
namespace Go.Proofs.YtjmnakkkimgifaaDoor
open Go Go.RowKit Go.Shelf
theorem fl_iN_set (l : List Nat) (j v : Nat) : (fl encI (iN l)).set j (.int .i64 v) = fl encI (iN (l.set j v)) := by
  induction l generalizing j with
  | nil => simp [fl, iN]
  | cons x l ih =>
    have e : ∀ x (l : List Nat), fl encI (iN (x :: l)) = .int .i64 x :: fl encI (iN l) := fun x l => by simp [fl, iN, encI]
    cases j with
    | zero => simp [e]
    | succ j => simp only [e, List.set_cons_succ]; rw [ih]
theorem FamW.setAt {w : World} {base g n : Nat} {S : Nat → List Nat} {rs : Nat → Rw} (h : FamW w base g n S rs) {i j v bi cp : Nat} (hi : i < n) (hx : rs i = (some ⟨bi, 0, none⟩, (S i).length, cp)) :
    FamW (w.setCell ⟨bi, j, none⟩ (.int .i64 v)) base g n (fun r => if r = i then (S i).set j v else S r) rs := by
  have hob : (slR (rs i)).ownBlock = some bi := by rw [hx]; rfl
  refine ⟨?_, fun r hr => ?_, fun r hr => ?_, h.dis, h.far⟩
  · refine ownsRow_setCell_other (a := ⟨bi, j, none⟩) h.rows (fun e => h.far i hi ?_) _
    rw [hob]; have e1 : some g = some bi := e; rw [e1]
  · by_cases e : r = i
    · subst e
      simp only [if_pos, List.length_set]
      have h1 := h.row r hr
      rw [hx] at h1 ⊢
      have h2 := (World.ownsRow.stored h1 j (.int .i64 v)).1
      rw [fl_iN_set] at h2
      exact h2
    · simp only [if_neg e]
      refine ownsRow_setCell_other (a := ⟨bi, j, none⟩) (h.row r hr) (fun e2 => ?_) _
      rcases h.dis r i hr hi e with h1 | h1
      · rw [h1] at e2; cases e2
      · exact h1 (by rw [hob]; exact e2)
  · by_cases e : r = i
    · subst e
      simp only [if_pos, List.length_set]; exact h.len r hr
    · simp only [if_neg e]; exact h.len r hr
theorem lvK_sw {t : List Nd} {n c x : Nat} (hn : t.length = n) : lvK (swK t n c x) n = lvsL t n := by
  unfold lvK lvsL
  refine List.filter_congr fun v _ => ?_
  unfold swK leafB
  rw [hn]
  cases famL t n v <;> rfl
/-- The first child that is not c. -/
def sibI (t : List Nd) (n p c : Nat) : Nat := (famL t n p).findIdx fun u => u != c
theorem sib_idx {t : List Nd} {n p c y x : Nat} (hN : Nni t n p c y x) (h2 : (famL t n p).length = 2) : sibI t n p c < 2 ∧ vA (famL t n p) (sibI t n p c) = y ∧ idxF (fun z : Int => z != (c : Int)) (iN (famL t n p)) = (sibI t n p c : Int) := by
  obtain ⟨a, b, hk⟩ := len_two h2
  have hf := hN.fam
  have hpw := fam_pw t n p
  rw [hk] at hf hpw
  have hab : a < b := by simpa using hpw
  unfold sibI idxF
  rw [hk]
  have ha := (hf a).1 (by simp)
  have hb := (hf b).1 (by simp)
  have hc := (hf c).2 (.inl rfl)
  have hyc := hN.yc
  by_cases e : a = c
  · subst e
    have hby : b = y := by rcases hb with h | h <;> omega
    subst hby
    have e2 : (b != a) = true := by simpa using hyc
    have e4 : ((b : Int) != (a : Int)) = true := by simp; omega
    have f1 : [a, b].findIdx (fun u => u != a) = 1 := by simp [List.findIdx_cons, e2]
    have f2 : (iN [a, b]).findIdx (fun z : Int => z != (a : Int)) = 1 := by simp [iN, List.findIdx_cons, e4]
    have f3 : (iN [a, b]).any (fun z : Int => z != (a : Int)) = true := by simp [iN, e4]
    rw [f1, f2, f3]
    exact ⟨by omega, rfl, rfl⟩
  · have hay : a = y := by rcases ha with h | h <;> omega
    subst hay
    have e2 : (a != c) = true := by simpa using e
    have e4 : ((a : Int) != (c : Int)) = true := by simp; omega
    have f1 : [a, b].findIdx (fun u => u != c) = 0 := by simp [List.findIdx_cons, e2]
    have f2 : (iN [a, b]).findIdx (fun z : Int => z != (c : Int)) = 0 := by simp [iN, List.findIdx_cons, e4]
    have f3 : (iN [a, b]).any (fun z : Int => z != (c : Int)) = true := by simp [iN, e4]
    rw [f1, f2, f3]
    exact ⟨by omega, rfl, rfl⟩
theorem set_map_swp {l : List Nat} {x y j : Nat} (hn : l.Nodup) (hj : j < l.length) (hx : vA l j = x) (hy : y ∉ l) : l.set j y = l.map (swp x y) := by
  apply List.ext_getElem?
  intro i
  rw [List.getElem?_set, List.getElem?_map]
  rw [vA_get hj] at hx
  by_cases e : j = i
  · subst e
    rw [if_pos rfl, if_pos hj, List.getElem?_eq_getElem hj, hx]
    show some y = some (swp x y x)
    unfold swp; rw [if_pos rfl]
  · rw [if_neg e]
    by_cases hi : i < l.length
    · rw [List.getElem?_eq_getElem hi]
      show _ = some (swp x y l[i])
      have h1 : l[i] ≠ x := fun e2 => e ((List.getElem_inj hn).1 (by rw [hx, e2]))
      have h2 : l[i] ≠ y := fun e2 => hy (by rw [← e2]; exact List.getElem_mem hi)
      unfold swp; rw [if_neg h1, if_neg h2]
    · rw [List.getElem?_eq_none (by omega)]; rfl
theorem map_swp_id {l : List Nat} {x y : Nat} (hx : x ∉ l) (hy : y ∉ l) : l.map (swp x y) = l := by
  have : l.map (swp x y) = l.map id := List.map_congr_left fun u hu => by
    unfold swp
    rw [if_neg (fun e => hx (by rw [← e]; exact hu)), if_neg (fun e => hy (by rw [← e]; exact hu))]; rfl
  rw [this, List.map_id]
theorem nodup_lt {l : List Nat} (h : l.Pairwise (· < ·)) : l.Nodup := h.imp fun h => Nat.ne_of_lt h
/-- The children behind the exchange. -/
theorem sw_rows {t : List Nd} {n p c x i : Nat} (hN : Nni t n p c (sibT t n c) x) (h2 : (famL t n p).length = 2) (hi : i < (famL t n c).length) (hx : vA (famL t n c) i = x) :
    (fun r => if r = c then ((fun r => if r = p then (famL t n p).set (sibI t n p c) x else famL t n r) c).set i (sibT t n c) else (fun r => if r = p then (famL t n p).set (sibI t n p c) x else famL t n r) r) = swK t n c x := by
  have hcp : c ≠ p := by have := hN.pp; omega
  obtain ⟨y, hy⟩ : ∃ y, y = sibT t n c := ⟨_, rfl⟩
  unfold swK
  rw [← hy] at hN ⊢
  obtain ⟨s1, s2, _⟩ := sib_idx hN h2
  have px := hN.px
  have py := hN.py
  have pp := hN.pp
  have nx : ∀ v, v ≠ c → x ∉ famL t n v := fun v hv hm => hv (by have := (fam_mem.1 hm).2.2; omega)
  have ny : ∀ v, v ≠ p → y ∉ famL t n v := fun v hv hm => hv (by have := (fam_mem.1 hm).2.2; omega)
  funext r
  try dsimp only
  by_cases e : r = c
  · subst e
    rw [if_pos rfl, if_neg hcp]
    exact set_map_swp (nodup_lt (fam_pw t n r)) hi hx (ny r hcp)
  · rw [if_neg e]
    by_cases e2 : r = p
    · subst e2
      rw [if_pos rfl]
      have h3 := set_map_swp (x := y) (y := x) (nodup_lt (fam_pw t n r)) (by omega) s2 (nx r e)
      rw [h3]
      exact List.map_congr_left fun u _ => swp_comm y x u
    · rw [if_neg e2]
      exact (map_swp_id (nx r e) (ny r e2)).symm
/-- The trees that come before those of node c. -/
def befL (t : List Nd) (n c : Nat) : List (List Nd) := (List.range' 1 (c - 1)).flatMap fun c => (famL t n c).map fun x => nearAt t n c x
theorem befL_succ {t : List Nd} {n c : Nat} (h : 1 ≤ c) : befL t n (c + 1) = befL t n c ++ (famL t n c).map fun x => nearAt t n c x := by
  unfold befL
  rw [show c + 1 - 1 = (c - 1) + 1 by omega, List.range'_1_concat, List.flatMap_append, show 1 + (c - 1) = c by omega]
  simp
theorem befL_le {t : List Nd} {n c : Nat} : ∀ d, 1 ≤ c → befL t n c <+: befL t n (c + d) := by
  intro d hc
  induction d with
  | zero => exact List.prefix_refl _
  | succ d ih => exact ih.trans (by rw [show c + (d + 1) = (c + d) + 1 by omega, befL_succ (by omega)]; exact List.prefix_append _ _)
def vT (T : List (List Nd)) (k : Nat) : List Nd := T.getD k []
theorem near_at {t : List Nd} {n c i : Nat} (h1 : 1 ≤ c) (hc : c < n) (hi : i < (famL t n c).length) : (befL t n c).length + i < (nearL t n).length ∧ vT (nearL t n) ((befL t n c).length + i) = nearAt t n c (vA (famL t n c) i) := by
  have h3 : befL t n (c + 1) <+: nearL t n := by
    have h := befL_le (t := t) (n := n) (c := c + 1) (n - (c + 1)) (by omega)
    rw [show c + 1 + (n - (c + 1)) = n by omega] at h
    exact h
  rw [befL_succ h1] at h3
  obtain ⟨r, hr⟩ := h3
  rw [← hr]
  refine ⟨by simp; omega, ?_⟩
  unfold vT
  rw [List.getD_eq_getElem?_getD, List.getElem?_append_left (by simp; omega), List.getElem?_append_right (by omega), Nat.add_sub_cancel_left, List.getElem?_map, List.getElem?_eq_getElem hi, vA_get hi]
  rfl
set_option maxHeartbeats 1000000 in
theorem nb11_any (u c z : Nat) (W : World) (hz : W.cell? ⟨z, 0, none⟩ = some (.int .i64 c)) :
    Calls Tryd.prog 68 #[.int .i64 (u : Int), .pointer (some ⟨z, 0, none⟩)] W fun e w' => e = .returned (.bool ((u : Int) != (c : Int))) ∧ Below W.heap.size W w' := by
  go_enter Tryd.func68, Tryd.ntmps68
  go_wp2
  go_ret
  exact ⟨rfl, Below.refl _ _⟩
theorem neighbours_any (a : Option Addr) (n c : Nat) (w : World) :
    Calls Tryd.prog 45 #[.slice a n c] w fun e w' => e = .returned (.func (.func 66) #[] #[.pointer (some ⟨w.heap.size, 0, none⟩)]) ∧ w' = w.alloc (.cells #[.slice a n c] 33) := by
  go_enter Tryd.func45, Tryd.ntmps45
  go_wp2
  go_ret
  exact ⟨rfl, rfl⟩
end Go.Proofs.YtjmnakkkimgifaaDoor
