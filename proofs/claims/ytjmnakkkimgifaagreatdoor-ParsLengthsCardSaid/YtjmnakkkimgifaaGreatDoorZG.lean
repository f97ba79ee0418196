/- The document's shortest of a list of trees. The document's shapes in memory; the smallest leaf of a shape, how many leaves it has. The document's shape below a node. The document's shape of a tree in which two nodes have changed places. The document's numbering: what meet writes (plain), and meet at a leaf. The document's numbering: meet. The document's numbering: meet at a node with two children. The document's numbering: number. The document's neighbours: near. The document's trees (plain): what is asked of a full list of parents. The document's digit. -/
import Derived.Test.YtjmnakkkimgifaaGreatDoorZF
import Derived.Test.YtjmnakkkimgifaaGreatDoorZE
import Derived.Deep.QuietTactic
import Derived.BigQuiet
import Derived.Test.YtjmnakkkimgifaaGreatDoorZC
import Derived.Test.YtjmnakkkimgifaaGreatDoorZB
import Derived.Test.YtjmnakkkimgifaaGreatDoorZA
import Derived.Test.YtjmnakkkimgifaaGreatDoorZD
namespace Go.Proofs.YtjmnakkkimgifaaGreatDoor
open Go Go.RowKit Go.Shelf
set_option maxRecDepth 100000 in
set_option maxHeartbeats 4000000 in
theorem rshortest_any (L : Int) (a : Option Addr) (N c : Nat) (l : List Nat) (v : Value) (base M : Nat) (T : Nat → List Nd) (rs : Nat → Rw) (w : World) (hl : l.length = N) (hN : N ≤ 1152921504606846976) (hA : Rd w a (fl encV l)) (hF : FitV l)
    (hM0 : 0 < M) (hM : M ≤ 1152921504606846976) (hT : TsW w base v M T rs) (hS : ∀ k, k < M → (T k).length ≤ 1152921504606846976 ∧ ∀ v, v < (T k).length → (nS (T k) v).size ≤ 9223372036854775807) :
    Calls Tryz.prog 56 #[.agg #[.int .i64 L, .slice a N c], v] w fun e w' => e = .returned (.tuple #[slR (rs (minI (fun k => lenS L l (T k)) M)), .int .i64 (lenS L l (T (minI (fun k => lenS L l (T k)) M)) : Nat)]) ∧ Below w.heap.size w w' := by
  obtain ⟨f, hf⟩ : ∃ f : Nat → Nat, f = fun k => lenS L l (T k) := ⟨_, rfl⟩
  have hfk : ∀ k, lenS L l (T k) = f k := fun k => by rw [hf]
  rw [hfk, ← hf]
  have hf2 : ∀ k, f k ≤ 2048 := fun k => by rw [← hfk]; exact lenS_le _ _ _
  obtain ⟨g, cap, rfl, hg, hgl, hc⟩ := hT.cell hM0
  have HC := Lib.hid hc
  have HT := Lib.hid hT
  have HS := Lib.hid hS
  have HL := Lib.hid hl
  have HA := Lib.hid hA
  have HF := Lib.hid hF
  have HFK := Lib.hid hfk
  have HF2 := Lib.hid hf2
  have HMI := Lib.hid (minI_lt f)
  have hb0 := bl_alloc (Below.refl _ w) (.cells #[.int .i64 L, .slice a N c] 28)
  have HB0 := Lib.hid hb0
  have HX0 := Lib.hid (Blk.new w #[.int .i64 L, .slice a N c] 28)
  obtain ⟨X, hX⟩ : ∃ X, X = w.heap.size := ⟨_, rfl⟩
  rw [← hX] at HX0
  obtain ⟨w1, hw1⟩ : ∃ y, y = w.alloc (.cells #[.int .i64 L, .slice a N c] 28) := ⟨_, rfl⟩
  rw [← hw1] at HX0 HB0
  clear hc hT hS hl hA hF hf hfk hf2 hb0
  go_enter Tryz.func56, Tryz.ntmps56
  go_upto_region 1 with fail
  rw [← hw1, ← hX]
  clear hw1 hX
  go_wp2_with fail
  go_loopw [6, 7, 8] (fun x y z wr => ∃ i : Nat, i ≤ M ∧ x = .int .i64 (minI f i : Nat) ∧ y = .int .i64 (minV f i : Nat) ∧ z = .int .i64 i ∧ Hid (Below w1.heap.size w1 wr)) (fun _ _ z _ => M - (intOf z).toNat)
  case atStart => exact ⟨0, by omega, rfl, rfl, rfl, Below.refl _ _⟩
  case round =>
    obtain ⟨i, hi, rfl, rfl, rfl, hB⟩ := hrel
    have HBW := Lib.hid (bl_trans HB0.out hB.out)
    by_cases hlt : i < M
    · obtain ⟨Ai, ci, hri, hRi⟩ := HT.out.rd hlt
      obtain ⟨hs1, hs2⟩ := HS.out i hlt
      have HLn := rlength_any L a N c l Ai (T i).length ci (T i) wr.drew HL.out hN ((HA.out.bl HBW.out).drewN 1) HF.out rfl hs1 ((hRi.bl HBW.out).drewN 1) hs2
      rw [HFK.out] at HLn
      have G : wr.cell? ⟨g, i, none⟩ = some (slR (rs i)) := (HBW.out.cell (p := ⟨g, i, none⟩) hgl).trans (HC.out i hlt)
      rw [hri] at G
      unfold slR at G
      dsimp only at G
      obtain ⟨E, hE⟩ : ∃ E, E = chkP L l (T i) := ⟨_, rfl⟩
      rw [← hE] at HLn
      obtain ⟨q, hq⟩ : ∃ q, q = (T i).length := ⟨_, rfl⟩
      rw [← hq] at HLn G
      have HLN := Lib.hid HLn
      have x0 : wr.cell? ⟨X, 0, none⟩ = some (.int .i64 L) := (HX0.out.below hB.out).cell 0
      have x1 : wr.cell? ⟨X, 1, none⟩ = some (.slice a N c) := (HX0.out.below hB.out).cell 1
      have hXl : X < wr.drew.heap.size := (HX0.out.below hB.out).lt
      have hgl2 : g < wr.drew.heap.size := Nat.lt_of_lt_of_le hgl HBW.out.size
      have HK : Hid (∀ W : World, Below wr.drew.heap.size wr.drew W → W.cell? ⟨X, 0, none⟩ = some (.int .i64 L) ∧ W.cell? ⟨X, 1, none⟩ = some (.slice a N c) ∧ W.cell? ⟨g, i, none⟩ = some (.slice Ai q ci)) := fun W hW =>
        ⟨(hW.cell (p := ⟨X, 0, none⟩) hXl).trans x0, (hW.cell (p := ⟨X, 1, none⟩) hXl).trans x1, (hW.cell (p := ⟨g, i, none⟩) hgl2).trans G⟩
      have HFI := Lib.hid (HF2.out i)
      have HFM : Hid (minV f i ≤ 2048) := by show _ ≤ _; unfold minV; split; omega; exact HF2.out _
      have HM1 : Hid (minI f (i + 1) = if i = 0 ∨ f i < minV f i then i else minI f i) := by
        show (if _ then _ else _) = _
        by_cases e : i = 0
        · rw [if_pos (.inl e), if_pos (.inl e)]
        · have : minV f i = f (minI f i) := by unfold minV; rw [if_neg e]
          rw [this]
      have HM2 : Hid (minV f (i + 1) = if i = 0 ∨ f i < minV f i then f i else minV f i) := by
        show minV f (i + 1) = _
        have h1 : minV f (i + 1) = f (minI f (i + 1)) := by unfold minV; rw [if_neg (by omega)]
        rw [h1, HM1.out]
        by_cases e : i = 0 ∨ f i < minV f i
        · rw [if_pos e, if_pos e]
        · rw [if_neg e, if_neg e]
          unfold minV; rw [if_neg (fun h => e (.inl h))]
      have HMB : Hid (minI f i ≤ i) := by
        show _ ≤ _
        by_cases e : i = 0
        · subst e; exact Nat.le_refl _
        · have := HMI.out i (by omega); omega
      obtain ⟨y, hy⟩ : ∃ y, y = f i := ⟨_, rfl⟩
      obtain ⟨z, hz⟩ : ∃ z, z = minV f i := ⟨_, rfl⟩
      obtain ⟨u, hu⟩ : ∃ u, u = minI f i := ⟨_, rfl⟩
      rw [← hy] at HLN HFI
      rw [← hz] at HFM
      rw [← hy, ← hz, ← hu] at HM1
      rw [← hy, ← hz] at HM2
      rw [← hu] at HMB
      rw [← hz, ← hu]
      have hfi := HFI.out
      have hfm := HFM.out
      have hmb := HMB.out
      clear hri hRi hs1 hs2 hE hq hy hz hu
      go_upto_region 5 with fail
      go_region_held3 (fun w' => w'.cell? ⟨X, 0, none⟩ = some (.int .i64 L) ∧ w'.cell? ⟨X, 1, none⟩ = some (.slice a N c) ∧ w'.cell? ⟨g, i, none⟩ = some (.slice Ai q ci)) (go_keep) ((go_at_call 13; (with_reducible refine HLN.out.mono ?_); rintro e wk ⟨rfl, hbk⟩; obtain ⟨j0, j1, j2⟩ := HK.out wk hbk; have HBK := Lib.hid (bl_trans (bl_drewN (Below.refl _ wr) 1) hbk); clear hbk))
      have HBN := Lib.hid (bl_trans hB.out HBK.out)
      clear j0 j1 j2 x0 x1 G HBK HLN
      by_cases e0 : i = 0
      · have t1 : ((i : Int) == 0) = true := by simp [e0]
        have t2 : decide ((i : Int) = 0) = true := by simp [e0]
        have t3 : decide (i = 0) = true := by simp [e0]
        have t4 : (i == 0) = true := by simp [e0]
        have h1 : Hid (minI f (i + 1) = i) := by show _ = _; rw [HM1.out, if_pos (.inl e0)]
        have h2 : Hid (minV f (i + 1) = y) := by show _ = _; rw [HM2.out, if_pos (.inl e0)]
        clear e0
        go_wp2_with fail
        go_roundw
        case rel => exact ⟨i + 1, by omega, by rw [h1.out], by rw [h2.out], by go_num, HBN⟩
        case measure => simp [intOf]; omega
      · have t1 : ((i : Int) == 0) = false := by simp; omega
        have t2 : decide ((i : Int) = 0) = false := by simp; omega
        have t3 : decide (i = 0) = false := by simp; omega
        have t4 : (i == 0) = false := by simp; omega
        by_cases e1 : y < z
        · have t5 : decide ((y : Int) < (z : Int)) = true := by simp; omega
          have t6 : decide (y < z) = true := by simp; omega
          have h1 : Hid (minI f (i + 1) = i) := by show _ = _; rw [HM1.out, if_pos (.inr e1)]
          have h2 : Hid (minV f (i + 1) = y) := by show _ = _; rw [HM2.out, if_pos (.inr e1)]
          clear e0 e1
          go_wp2_with fail
          go_roundw
          case rel => exact ⟨i + 1, by omega, by rw [h1.out], by rw [h2.out], by go_num, HBN⟩
          case measure => simp [intOf]; omega
        · have t5 : decide ((y : Int) < (z : Int)) = false := by simp; omega
          have t6 : decide (y < z) = false := by simp; omega
          have h1 : Hid (minI f (i + 1) = u) := by show _ = _; rw [HM1.out, if_neg (by omega)]
          have h2 : Hid (minV f (i + 1) = z) := by show _ = _; rw [HM2.out, if_neg (by omega)]
          clear e0 e1
          go_wp2_with fail
          go_roundw
          case rel => exact ⟨i + 1, by omega, by rw [h1.out], by rw [h2.out], by go_num, HBN⟩
          case measure => simp [intOf]; omega
    · obtain rfl : i = M := by omega
      have hm := HMI.out i hM0
      have hv : Hid (minV f i = f (minI f i)) := by show _ = _; unfold minV; rw [if_neg (by omega)]
      obtain ⟨u, hu⟩ : ∃ u, u = minI f i := ⟨_, rfl⟩
      have G : wr.cell? ⟨g, u, none⟩ = some (slR (rs u)) := (HBW.out.cell (p := ⟨g, u, none⟩) hgl).trans (HC.out u (by rw [hu]; exact hm))
      have hm2 : u < i := by rw [hu]; exact hm
      obtain ⟨ru, hru⟩ : ∃ r, r = rs u := ⟨_, rfl⟩
      rw [← hru] at G
      obtain ⟨z, hz⟩ : ∃ z, z = minV f i := ⟨_, rfl⟩
      rw [← hz, ← hu]
      have HE : Hid (slR ru = slR (rs (minI f i)) ∧ z = f (minI f i)) := ⟨by rw [hru, hu], by rw [hz]; exact hv.out⟩
      obtain ⟨A1, n1, c1⟩ := ru
      unfold slR at G
      dsimp only at G
      clear hu hru hv hz hm
      go_wp2_with fail
      refine bodyPost_ret (v := .tuple #[.slice A1 n1 c1, .int .i64 z]) (by simp [results, Tryz.results56, go_sem]) rfl ⟨?_, HBW.out⟩
      rw [← HE.out.1, ← HE.out.2]; rfl
end Go.Proofs.YtjmnakkkimgifaaGreatDoor
namespace Go.Proofs.YtjmnakkkimgifaaGreatDoor
open Go Go.RowKit Go.Shelf
/-- A shape's struct: a name, a number, what is below. -/
abbrev Es := ByteArray × Int × Rw
def encE (x : Es) : List Value := [.string x.1, .int .i64 x.2.1, .slice x.2.2.1 x.2.2.2.1 x.2.2.2.2]
theorem encE_len (x : Es) : (encE x).length = 3 := rfl
def aggE (x : Es) : Value := .agg #[.string x.1, .int .i64 x.2.1, .slice x.2.2.1 x.2.2.2.1 x.2.2.2.2]
/-- The struct of a shape with its top at v. -/
def esOf (t : List Nd) (ix : Nat → Int) (v : Nat) (x : Rw) : Es := (nS t v, ix v, x)
/-- What is below the top of a shape, in memory, in blocks that meet P. -/
def ShM (t : List Nd) (ix : Nat → Int) (P : Nat → Prop) (w : World) : Sh → Rw → Prop
  | .lf _, x => x.2.1 = 0
  | .nd _ a b, x => x.2.1 = 2 ∧ ∃ xa xb, (∀ g o, x.1 = some ⟨g, o, none⟩ → P g) ∧ Rd w x.1 (fl encE [esOf t ix a.top xa, esOf t ix b.top xb]) ∧ ShM t ix P w a xa ∧ ShM t ix P w b xb
theorem ShM.bl {t : List Nd} {ix : Nat → Int} {P : Nat → Prop} {w w' : World} (hb : Below w.heap.size w w') : ∀ {z : Sh} {x : Rw}, ShM t ix P w z x → ShM t ix P w' z x
  | .lf _, _, h => h
  | .nd _ _ _, _, ⟨h1, xa, xb, h0, h2, h3, h4⟩ => ⟨h1, xa, xb, h0, h2.bl hb, ShM.bl hb h3, ShM.bl hb h4⟩
theorem ShM.weak {t : List Nd} {ix : Nat → Int} {P Q : Nat → Prop} {w : World} (hPQ : ∀ b, b < w.heap.size → P b → Q b) : ∀ {z : Sh} {x : Rw}, ShM t ix P w z x → ShM t ix Q w z x
  | .lf _, _, h => h
  | .nd _ _ _, _, ⟨h1, xa, xb, h0, h2, h3, h4⟩ => ⟨h1, xa, xb, fun g o e => by
      obtain ⟨b, o', e', hb, _⟩ := h2 (by simp [fl, encE])
      rw [e'] at e
      have := Option.some.inj e
      injection this with e1
      rw [← e1] at *
      exact hPQ _ hb (h0 _ o' e'), h2, ShM.weak hPQ h3, ShM.weak hPQ h4⟩
/-- Where a row grows that is none of its blocks. -/
theorem ShM.grown {t : List Nd} {ix : Nat → Int} {P : Nat → Prop} {w w' : World} {r : Option Nat} (hg : w.grownBy w' r) (hP : ∀ b, P b → some b ≠ r) : ∀ {z : Sh} {x : Rw}, ShM t ix P w z x → ShM t ix P w' z x
  | .lf _, _, h => h
  | .nd _ _ _, _, ⟨h1, xa, xb, h0, h2, h3, h4⟩ => ⟨h1, xa, xb, h0, rd_block h2 hg.size (fun b o e hb => hg.block b hb (fun h => hP b (h0 b o e) h)), ShM.grown hg hP h3, ShM.grown hg hP h4⟩
/-- Two structs in a row, cell by cell. -/
theorem rd_two {w : World} {a : Option Addr} {x y : Es} (h : Rd w a (fl encE [x, y])) : ∃ b o, a = some ⟨b, o, none⟩ ∧ b < w.heap.size ∧ w.cell? ⟨b, o, none⟩ = some (.string x.1) ∧ w.cell? ⟨b, o + 1, none⟩ = some (.int .i64 x.2.1) ∧ w.cell? ⟨b, o + 2, none⟩ = some (.slice x.2.2.1 x.2.2.2.1 x.2.2.2.2) ∧
    w.cell? ⟨b, o + 3, none⟩ = some (.string y.1) ∧ w.cell? ⟨b, o + 4, none⟩ = some (.int .i64 y.2.1) ∧ w.cell? ⟨b, o + 5, none⟩ = some (.slice y.2.2.1 y.2.2.2.1 y.2.2.2.2) := by
  obtain ⟨b, o, e, hb, hc⟩ := h (by simp [fl, encE])
  have hl : (fl encE [x, y]).length = 6 := rfl
  refine ⟨b, o, e, hb, hc 0 (by omega), hc 1 (by omega), hc 2 (by omega), hc 3 (by omega), hc 4 (by omega), hc 5 (by omega)⟩
/-- Leaves' numbers grow with the leaves. -/
def IxM (ix : Nat → Int) (l : List Nat) : Prop := ∀ u v, u ∈ l → v ∈ l → u ≤ v → ix u ≤ ix v
theorem ix_min {ix : Nat → Int} {a b : Sh} (h : IxM ix (a.lvs ++ b.lvs)) : ix (min a.least b.least) = min (ix a.least) (ix b.least) := by
  have ha : a.least ∈ a.lvs ++ b.lvs := List.mem_append_left _ (Sh.least_mem a)
  have hb : b.least ∈ a.lvs ++ b.lvs := List.mem_append_right _ (Sh.least_mem b)
  by_cases e : a.least ≤ b.least
  · have := h _ _ ha hb e
    rw [Nat.min_eq_left e]; omega
  · have := h _ _ hb ha (by omega)
    rw [Nat.min_eq_right (by omega)]; omega
set_option maxRecDepth 100000 in
set_option maxHeartbeats 2000000 in
theorem rleast_any (t : List Nd) (ix : Nat → Int) (P : Nat → Prop) : ∀ (z : Sh) (x : Rw) (w : World), IxM ix z.lvs → ShM t ix P w z x →
    Calls Tryz.prog 104 #[aggE (esOf t ix z.top x)] w fun e w' => e = .returned (.int .i64 (ix z.least)) ∧ Below w.heap.size w w'
  | .lf v, x, w, _, hs => by
    obtain ⟨A, n, c⟩ := x
    obtain rfl : n = 0 := hs
    have hX := Blk.new w #[.string (nS t v), .int .i64 (ix v), .slice A 0 c] 102
    have hb := bl_alloc (Below.refl _ w) (.cells #[.string (nS t v), .int .i64 (ix v), .slice A 0 c] 102)
    show Calls Tryz.prog 104 #[.agg #[.string (nS t v), .int .i64 (ix v), .slice A 0 c]] w fun e w' => e = .returned (.int .i64 (ix v)) ∧ Below w.heap.size w w'
    generalize ix v = i at *
    generalize nS t v = s at *
    have HB := Lib.hid hb
    clear hX hb
    go_enter Tryz.func104, Tryz.ntmps104
    go_wp2_with fail
    go_ret
    exact ⟨rfl, HB.out⟩
  | .nd v a b, x, w, hm, hs => by
    obtain ⟨A, n, c⟩ := x
    obtain ⟨h1, xa, xb, _, hr, ha, hb⟩ := hs
    obtain rfl : n = 2 := h1
    obtain ⟨g, o, rfl, hg, g0, g1, g2, g3, g4, g5⟩ := rd_two (show Rd w A _ from hr)
    have HMN := Lib.hid (ix_min (a := a) (b := b) hm)
    have HIA := Lib.hid (fun (W : World) (hW : Below w.heap.size w W) => rleast_any t ix P a xa W (fun u v hu hv => hm u v (List.mem_append_left _ hu) (List.mem_append_left _ hv)) (ha.bl hW))
    have HIB := Lib.hid (fun (W : World) (hW : Below w.heap.size w W) => rleast_any t ix P b xb W (fun u v hu hv => hm u v (List.mem_append_right _ hu) (List.mem_append_right _ hv)) (hb.bl hW))
    have HX := Lib.hid (Blk.new w #[.string (nS t v), .int .i64 (ix v), .slice (some ⟨g, o, none⟩) 2 c] 102)
    have HBL := Lib.hid (bl_alloc (Below.refl _ w) (.cells #[.string (nS t v), .int .i64 (ix v), .slice (some ⟨g, o, none⟩) 2 c] 102))
    obtain ⟨Aa, na, ca⟩ := xa
    obtain ⟨Ab, nb, cb⟩ := xb
    change w.cell? ⟨g, o, none⟩ = some (.string (nS t a.top)) at g0
    change w.cell? ⟨g, o + 1, none⟩ = some (.int .i64 (ix a.top)) at g1
    change w.cell? ⟨g, o + 2, none⟩ = some (.slice Aa na ca) at g2
    change w.cell? ⟨g, o + 3, none⟩ = some (.string (nS t b.top)) at g3
    change w.cell? ⟨g, o + 4, none⟩ = some (.int .i64 (ix b.top)) at g4
    change w.cell? ⟨g, o + 5, none⟩ = some (.slice Ab nb cb) at g5
    have HIA : Hid (∀ (W : World), Below w.heap.size w W → Calls Tryz.prog 104 #[.agg #[.string (nS t a.top), .int .i64 (ix a.top), .slice Aa na ca]] W fun e w' => e = .returned (.int .i64 (ix a.least)) ∧ Below W.heap.size W w') := HIA.out
    have HIB : Hid (∀ (W : World), Below w.heap.size w W → Calls Tryz.prog 104 #[.agg #[.string (nS t b.top), .int .i64 (ix b.top), .slice Ab nb cb]] W fun e w' => e = .returned (.int .i64 (ix b.least)) ∧ Below W.heap.size W w') := HIB.out
    have HE : Hid (ix (Sh.nd v a b).least = min (ix a.least) (ix b.least)) := HMN.out
    rw [HE.out]
    show Calls Tryz.prog 104 #[.agg #[.string (nS t v), .int .i64 (ix v), .slice (some ⟨g, o, none⟩) 2 c]] w _
    generalize ix a.least = la at *
    generalize ix b.least = lb at *
    generalize nS t v = s at *
    generalize ix v = i at *
    generalize nS t a.top = sa at *
    generalize ix a.top = ia at *
    generalize nS t b.top = sb at *
    generalize ix b.top = ib at *
    obtain ⟨X, hXe⟩ : ∃ X, X = w.heap.size := ⟨_, rfl⟩
    obtain ⟨w1, hw1⟩ : ∃ x, x = w.alloc (.cells #[.string s, .int .i64 i, .slice (some ⟨g, o, none⟩) 2 c] 102) := ⟨_, rfl⟩
    rw [← hw1] at HX HBL
    rw [← hXe] at HX
    have HG := Lib.hid (fun (W : World) (hW : Below w.heap.size w W) (j : Nat) => (hW.cell (p := ⟨g, j, none⟩) hg : W.cell? ⟨g, j, none⟩ = w.cell? ⟨g, j, none⟩))
    have x2 : w1.cell? ⟨X, 2, none⟩ = some (.slice (some ⟨g, o, none⟩) 2 c) := HX.out.cell 2
    have k0 := (HG.out w1 HBL.out o).trans g0
    have k1 := (HG.out w1 HBL.out (o + 1)).trans g1
    have k2 := (HG.out w1 HBL.out (o + 2)).trans g2
    have k3 := (HG.out w1 HBL.out (o + 3)).trans g3
    have k4 := (HG.out w1 HBL.out (o + 4)).trans g4
    have k5 := (HG.out w1 HBL.out (o + 5)).trans g5
    have HBL1 : Hid (Below w.heap.size w w1.drew) := bl_drewN HBL.out 1
    have HALL : Hid (∀ W : World, Below w1.drew.heap.size w1.drew W → W.cell? ⟨X, 2, none⟩ = some (.slice (some ⟨g, o, none⟩) 2 c) ∧ W.cell? ⟨g, o, none⟩ = some (.string sa) ∧ W.cell? ⟨g, o + 1, none⟩ = some (.int .i64 ia) ∧ W.cell? ⟨g, o + 2, none⟩ = some (.slice Aa na ca) ∧ W.cell? ⟨g, o + 3, none⟩ = some (.string sb) ∧ W.cell? ⟨g, o + 4, none⟩ = some (.int .i64 ib) ∧ W.cell? ⟨g, o + 5, none⟩ = some (.slice Ab nb cb)) := fun W hW =>
      ⟨((HX.out.drewN 1).below hW).cell 2, (HG.out W (bl_trans HBL1.out hW) o).trans g0, (HG.out W (bl_trans HBL1.out hW) (o + 1)).trans g1, (HG.out W (bl_trans HBL1.out hW) (o + 2)).trans g2, (HG.out W (bl_trans HBL1.out hW) (o + 3)).trans g3, (HG.out W (bl_trans HBL1.out hW) (o + 4)).trans g4, (HG.out W (bl_trans HBL1.out hW) (o + 5)).trans g5⟩
    clear hm ha hb hr HMN HE g0 g1 g2 g3 g4 g5
    go_enter Tryz.func104, Tryz.ntmps104
    go_upto_region 1 with fail
    rw [← hw1, ← hXe]
    clear hw1 hXe
    go_wp2_with fail
    go_region_held3 (fun w' => w'.cell? ⟨X, 2, none⟩ = some (.slice (some ⟨g, o, none⟩) 2 c) ∧ w'.cell? ⟨g, o, none⟩ = some (.string sa) ∧ w'.cell? ⟨g, o + 1, none⟩ = some (.int .i64 ia) ∧ w'.cell? ⟨g, o + 2, none⟩ = some (.slice Aa na ca) ∧ w'.cell? ⟨g, o + 3, none⟩ = some (.string sb) ∧ w'.cell? ⟨g, o + 4, none⟩ = some (.int .i64 ib) ∧ w'.cell? ⟨g, o + 5, none⟩ = some (.slice Ab nb cb)) (go_keep) (first
      | (go_at_call 104; (with_reducible refine (HIA.out w1.drew HBL1.out).mono ?_); rintro e wk ⟨rfl, hbk⟩; obtain ⟨j0, j1, j2, j3, j4, j5, j6⟩ := HALL.out wk hbk; have HBK := Lib.hid (bl_trans HBL1.out hbk); have HBK1 := Lib.hid hbk; clear hbk)
      | (go_at_call 104; (with_reducible refine (HIB.out wk HBK.out).mono ?_); rintro e wl ⟨rfl, hbl⟩; obtain ⟨m0, m1, m2, m3, m4, m5, m6⟩ := HALL.out wl (bl_trans HBK1.out hbl); have HBZ := Lib.hid (bl_trans HBK.out hbl); clear hbl))
    clear j0 j1 j2 j3 j4 j5 j6 m0 m1 m2 m3 m4 m5 m6 x2 k0 k1 k2 k3 k4 k5
    go_wp2_with fail
    all_goals
      go_ret
      exact ⟨ret_i (by omega), HBZ.out⟩
set_option maxRecDepth 100000 in
set_option maxHeartbeats 2000000 in
theorem rcount_any (t : List Nd) (ix : Nat → Int) (P : Nat → Prop) : ∀ (z : Sh) (x : Rw) (w : World), z.lvs.length ≤ 1000 → ShM t ix P w z x →
    Calls Tryz.prog 87 #[aggE (esOf t ix z.top x)] w fun e w' => e = .returned (.int .i64 (z.lvs.length : Nat)) ∧ Below w.heap.size w w'
  | .lf v, x, w, _, hs => by
    obtain ⟨A, n, c⟩ := x
    obtain rfl : n = 0 := hs
    have hX := Blk.new w #[.string (nS t v), .int .i64 (ix v), .slice A 0 c] 102
    have hb := bl_alloc (Below.refl _ w) (.cells #[.string (nS t v), .int .i64 (ix v), .slice A 0 c] 102)
    show Calls Tryz.prog 87 #[.agg #[.string (nS t v), .int .i64 (ix v), .slice A 0 c]] w fun e w' => e = .returned (.int .i64 1) ∧ Below w.heap.size w w'
    generalize ix v = i at *
    generalize nS t v = s at *
    have HB := Lib.hid hb
    clear hX hb
    go_enter Tryz.func87, Tryz.ntmps87
    go_wp2_with fail
    go_ret
    exact ⟨rfl, HB.out⟩
  | .nd v a b, x, w, hm, hs => by
    obtain ⟨A, n, c⟩ := x
    obtain ⟨h1, xa, xb, _, hr, ha, hb⟩ := hs
    obtain rfl : n = 2 := h1
    obtain ⟨g, o, rfl, hg, g0, g1, g2, g3, g4, g5⟩ := rd_two (show Rd w A _ from hr)
    have hab : a.lvs.length + b.lvs.length ≤ 1000 := by have h : (Sh.nd v a b).lvs.length = a.lvs.length + b.lvs.length := List.length_append; omega
    have HIA := Lib.hid (fun (W : World) (hW : Below w.heap.size w W) => rcount_any t ix P a xa W (by omega) (ha.bl hW))
    have HIB := Lib.hid (fun (W : World) (hW : Below w.heap.size w W) => rcount_any t ix P b xb W (by omega) (hb.bl hW))
    have HX := Lib.hid (Blk.new w #[.string (nS t v), .int .i64 (ix v), .slice (some ⟨g, o, none⟩) 2 c] 102)
    have HBL := Lib.hid (bl_alloc (Below.refl _ w) (.cells #[.string (nS t v), .int .i64 (ix v), .slice (some ⟨g, o, none⟩) 2 c] 102))
    obtain ⟨Aa, na, ca⟩ := xa
    obtain ⟨Ab, nb, cb⟩ := xb
    change w.cell? ⟨g, o, none⟩ = some (.string (nS t a.top)) at g0
    change w.cell? ⟨g, o + 1, none⟩ = some (.int .i64 (ix a.top)) at g1
    change w.cell? ⟨g, o + 2, none⟩ = some (.slice Aa na ca) at g2
    change w.cell? ⟨g, o + 3, none⟩ = some (.string (nS t b.top)) at g3
    change w.cell? ⟨g, o + 4, none⟩ = some (.int .i64 (ix b.top)) at g4
    change w.cell? ⟨g, o + 5, none⟩ = some (.slice Ab nb cb) at g5
    have HIA : Hid (∀ (W : World), Below w.heap.size w W → Calls Tryz.prog 87 #[.agg #[.string (nS t a.top), .int .i64 (ix a.top), .slice Aa na ca]] W fun e w' => e = .returned (.int .i64 (a.lvs.length : Nat)) ∧ Below W.heap.size W w') := HIA.out
    have HIB : Hid (∀ (W : World), Below w.heap.size w W → Calls Tryz.prog 87 #[.agg #[.string (nS t b.top), .int .i64 (ix b.top), .slice Ab nb cb]] W fun e w' => e = .returned (.int .i64 (b.lvs.length : Nat)) ∧ Below W.heap.size W w') := HIB.out
    have HE : Hid ((Sh.nd v a b).lvs.length = a.lvs.length + b.lvs.length) := List.length_append
    rw [HE.out]
    show Calls Tryz.prog 87 #[.agg #[.string (nS t v), .int .i64 (ix v), .slice (some ⟨g, o, none⟩) 2 c]] w _
    generalize a.lvs.length = la at *
    generalize b.lvs.length = lb at *
    have hwr : IntKind.i64.wrap ((la : Int) + (lb : Int)) = ((la + lb : Nat) : Int) := wrap_nat _ _ (by omega) (by omega)
    generalize nS t v = s at *
    generalize ix v = i at *
    generalize nS t a.top = sa at *
    generalize ix a.top = ia at *
    generalize nS t b.top = sb at *
    generalize ix b.top = ib at *
    obtain ⟨X, hXe⟩ : ∃ X, X = w.heap.size := ⟨_, rfl⟩
    obtain ⟨w1, hw1⟩ : ∃ x, x = w.alloc (.cells #[.string s, .int .i64 i, .slice (some ⟨g, o, none⟩) 2 c] 102) := ⟨_, rfl⟩
    rw [← hw1] at HX HBL
    rw [← hXe] at HX
    have HG := Lib.hid (fun (W : World) (hW : Below w.heap.size w W) (j : Nat) => (hW.cell (p := ⟨g, j, none⟩) hg : W.cell? ⟨g, j, none⟩ = w.cell? ⟨g, j, none⟩))
    have x2 : w1.cell? ⟨X, 2, none⟩ = some (.slice (some ⟨g, o, none⟩) 2 c) := HX.out.cell 2
    have k0 := (HG.out w1 HBL.out o).trans g0
    have k1 := (HG.out w1 HBL.out (o + 1)).trans g1
    have k2 := (HG.out w1 HBL.out (o + 2)).trans g2
    have k3 := (HG.out w1 HBL.out (o + 3)).trans g3
    have k4 := (HG.out w1 HBL.out (o + 4)).trans g4
    have k5 := (HG.out w1 HBL.out (o + 5)).trans g5
    have HBL1 : Hid (Below w.heap.size w w1.drew) := bl_drewN HBL.out 1
    have HALL : Hid (∀ W : World, Below w1.drew.heap.size w1.drew W → W.cell? ⟨X, 2, none⟩ = some (.slice (some ⟨g, o, none⟩) 2 c) ∧ W.cell? ⟨g, o, none⟩ = some (.string sa) ∧ W.cell? ⟨g, o + 1, none⟩ = some (.int .i64 ia) ∧ W.cell? ⟨g, o + 2, none⟩ = some (.slice Aa na ca) ∧ W.cell? ⟨g, o + 3, none⟩ = some (.string sb) ∧ W.cell? ⟨g, o + 4, none⟩ = some (.int .i64 ib) ∧ W.cell? ⟨g, o + 5, none⟩ = some (.slice Ab nb cb)) := fun W hW =>
      ⟨((HX.out.drewN 1).below hW).cell 2, (HG.out W (bl_trans HBL1.out hW) o).trans g0, (HG.out W (bl_trans HBL1.out hW) (o + 1)).trans g1, (HG.out W (bl_trans HBL1.out hW) (o + 2)).trans g2, (HG.out W (bl_trans HBL1.out hW) (o + 3)).trans g3, (HG.out W (bl_trans HBL1.out hW) (o + 4)).trans g4, (HG.out W (bl_trans HBL1.out hW) (o + 5)).trans g5⟩
    clear hm ha hb hr HE g0 g1 g2 g3 g4 g5
    go_enter Tryz.func87, Tryz.ntmps87
    go_upto_region 1 with fail
    rw [← hw1, ← hXe]
    clear hw1 hXe
    go_wp2_with fail
    go_region_held3 (fun w' => w'.cell? ⟨X, 2, none⟩ = some (.slice (some ⟨g, o, none⟩) 2 c) ∧ w'.cell? ⟨g, o, none⟩ = some (.string sa) ∧ w'.cell? ⟨g, o + 1, none⟩ = some (.int .i64 ia) ∧ w'.cell? ⟨g, o + 2, none⟩ = some (.slice Aa na ca) ∧ w'.cell? ⟨g, o + 3, none⟩ = some (.string sb) ∧ w'.cell? ⟨g, o + 4, none⟩ = some (.int .i64 ib) ∧ w'.cell? ⟨g, o + 5, none⟩ = some (.slice Ab nb cb)) (go_keep) (first
      | (go_at_call 87; (with_reducible refine (HIA.out w1.drew HBL1.out).mono ?_); rintro e wk ⟨rfl, hbk⟩; obtain ⟨j0, j1, j2, j3, j4, j5, j6⟩ := HALL.out wk hbk; have HBK := Lib.hid (bl_trans HBL1.out hbk); have HBK1 := Lib.hid hbk; clear hbk)
      | (go_at_call 87; (with_reducible refine (HIB.out wk HBK.out).mono ?_); rintro e wl ⟨rfl, hbl⟩; obtain ⟨m0, m1, m2, m3, m4, m5, m6⟩ := HALL.out wl (bl_trans HBK1.out hbl); have HBZ := Lib.hid (bl_trans HBK.out hbl); clear hbl))
    clear j0 j1 j2 j3 j4 j5 j6 m0 m1 m2 m3 m4 m5 m6 x2 k0 k1 k2 k3 k4 k5
    go_wp2_with fail
    all_goals
      go_ret
      exact ⟨ret_i (by omega), HBZ.out⟩
end Go.Proofs.YtjmnakkkimgifaaGreatDoor
namespace Go.Proofs.YtjmnakkkimgifaaGreatDoor
open Go Go.RowKit Go.Shelf
theorem info_E : (Tryz.prog.info? 102).map (fun i => (i.zero, i.size, i.bytes)) = some (some (.agg #[.string ByteArray.empty, .int .i64 0, .slice none 0 0]), 3, 48) := by kernel_rfl
theorem push_E {w : World} {ops : Array Oper} {rest : List Oper} {o : Oper} {a : Act} {Q : Exit → Act → World → Prop} (hgd : o.guard = none) (s x : Operand) (ho : o.op = .call { callee := .builtin .append, args := #[s, x], argTypes := #[100, 100] })
    (base : Nat) (v : Value) (l : List Es) (n : Nat) (hn : n = l.length) (hs : a.eval s = v) (hown : w.ownsRow base 102 3 v n (fl encE l)) (B c : Nat) (y : Es) (hx : a.eval x = .slice (some ⟨B, 0, none⟩) 1 c) (hB : Blk w B (encE y).toArray 102) (hl : n < 1048576) (hbase : base ≤ w.heap.size)
    (h : ∀ g cap w', w'.ownsRow base 102 3 (.slice (some ⟨g, 0, none⟩) (n + 1) cap) (n + 1) (fl encE (l ++ [y])) → w.grownBy w' v.ownBlock → (v.ownBlock = some g ∨ g = w.heap.size) → g < w'.heap.size → wpList Tryz.prog ops Q rest (a.put o.dst (.slice (some ⟨g, 0, none⟩) (n + 1) cap)) w') : wpList Tryz.prog ops Q (o :: rest) a w := by
  obtain ⟨i0, hi, hz0, hz1, hz2⟩ := info_parts info_E
  refine wpList_append_lies w hgd s x 100 ho base 102 i0 _ 3 48 Tryz.underlying100 hi hz0 hz1 hz2 rfl (by decide) v n (fl encE l) hs hown ⟨B, 0, none⟩ 1 c (encE y) hx (by simp [encE]) (World.news_of_block (cs := (encE y).toArray) (t := 102) (fr := (0, 0)) hB) (by intro u hu; simp [encE] at hu; first | (subst hu; rfl) | (rcases hu with rfl | rfl <;> rfl) | (rcases hu with rfl | rfl | rfl <;> rfl) | (rcases hu with rfl | rfl | rfl | rfl | rfl <;> rfl)) (by omega) (by unfold maxLen; omega) (by omega) hbase _ rfl ?_
  intro g cap w' h1 h2 h3 h4
  rw [← fl_snoc] at h1
  exact h g cap w' h1 h2 h3 h4
theorem spush_E {w : World} {ops : Array Oper} {o : Oper} {a : Act} {K : Act → World → Prop} {Q : Exit → Act → World → Prop} {E : Prop} (hgd : o.guard = none) (s x : Operand) (ho : o.op = .call { callee := .builtin .append, args := #[s, x], argTypes := #[100, 100] })
    (base : Nat) (v : Value) (l : List Es) (n : Nat) (hn : n = l.length) (hs : a.eval s = v) (hown : w.ownsRow base 102 3 v n (fl encE l)) (B c : Nat) (y : Es) (hx : a.eval x = .slice (some ⟨B, 0, none⟩) 1 c) (hB : Blk w B (encE y).toArray 102) (hl : n < 1048576) (hbase : base ≤ w.heap.size)
    (h : ∀ g cap w', w'.ownsRow base 102 3 (.slice (some ⟨g, 0, none⟩) (n + 1) cap) (n + 1) (fl encE (l ++ [y])) → w.grownBy w' v.ownBlock → (v.ownBlock = some g ∨ g = w.heap.size) → g < w'.heap.size → K (a.put o.dst (.slice (some ⟨g, 0, none⟩) (n + 1) cap)) w') : if Region.wanted o (yielded ops a.tmps) = true then Oper.wp Tryz.prog o a w K Q else E := by
  obtain ⟨i0, hi, hz0, hz1, hz2⟩ := info_parts info_E
  refine step_append_lies w hgd s x 100 ho base 102 i0 _ 3 48 Tryz.underlying100 hi hz0 hz1 hz2 rfl (by decide) v n (fl encE l) hs hown ⟨B, 0, none⟩ 1 c (encE y) hx (by simp [encE]) (World.news_of_block (cs := (encE y).toArray) (t := 102) (fr := (0, 0)) hB) (by intro u hu; simp [encE] at hu; first | (subst hu; rfl) | (rcases hu with rfl | rfl <;> rfl) | (rcases hu with rfl | rfl | rfl <;> rfl) | (rcases hu with rfl | rfl | rfl | rfl | rfl <;> rfl)) (by omega) (by unfold maxLen; omega) (by omega) hbase _ rfl ?_
  intro g cap w' h1 h2 h3 h4
  rw [← fl_snoc] at h1
  exact h g cap w' h1 h2 h3 h4
def esL (t : List Nd) (ix : Nat → Int) : List Sh → List Rw → List Es
  | y :: ys, x :: xs => esOf t ix y.top x :: esL t ix ys xs
  | _, _ => []
theorem esL_len (t : List Nd) (ix : Nat → Int) : ∀ (ys : List Sh) (xs : List Rw), xs.length = ys.length → (esL t ix ys xs).length = ys.length
  | [], [], _ => rfl
  | y :: ys, x :: xs, h => by
    show (esL t ix ys xs).length + 1 = ys.length + 1
    rw [esL_len t ix ys xs (by simpa using h)]
theorem esL_snoc (t : List Nd) (ix : Nat → Int) (y : Sh) (x : Rw) : ∀ (ys : List Sh) (xs : List Rw), xs.length = ys.length → esL t ix (ys ++ [y]) (xs ++ [x]) = esL t ix ys xs ++ [esOf t ix y.top x]
  | [], [], _ => rfl
  | z :: ys, u :: xs, h => by
    show esOf t ix z.top u :: esL t ix (ys ++ [y]) (xs ++ [x]) = esOf t ix z.top u :: (esL t ix ys xs ++ [esOf t ix y.top x])
    rw [esL_snoc t ix y x ys xs (by simpa using h)]
/-- The children that are done. -/
def KidsM (t : List Nd) (ix : Nat → Int) (P : Nat → Prop) (w : World) (ys : List Sh) (xs : List Rw) : Prop := xs.length = ys.length ∧ ∀ i (h : i < ys.length) (h2 : i < xs.length), ShM t ix P w ys[i] xs[i]
theorem KidsM.map {t : List Nd} {ix : Nat → Int} {P Q : Nat → Prop} {w w' : World} {ys : List Sh} {xs : List Rw} (f : ∀ z x, ShM t ix P w z x → ShM t ix Q w' z x) (h : KidsM t ix P w ys xs) : KidsM t ix Q w' ys xs := ⟨h.1, fun i h1 h2 => f _ _ (h.2 i h1 h2)⟩
theorem KidsM.snoc {t : List Nd} {ix : Nat → Int} {P : Nat → Prop} {w : World} {ys : List Sh} {xs : List Rw} {y : Sh} {x : Rw} (h : KidsM t ix P w ys xs) (hy : ShM t ix P w y x) : KidsM t ix P w (ys ++ [y]) (xs ++ [x]) := by
  refine ⟨by simp [h.1], fun i h1 h2 => ?_⟩
  by_cases e : i < ys.length
  · rw [List.getElem_append_left e, List.getElem_append_left (by rw [h.1]; exact e)]
    exact h.2 i e (by rw [h.1]; exact e)
  · have e1 : i = ys.length := by simp at h1; omega
    subst e1
    rw [List.getElem_append_right (Nat.le_refl _)]
    have e2 : (xs ++ [x])[ys.length]'h2 = x := by
      rw [List.getElem_append_right (by rw [h.1]; exact Nat.le_refl _)]
      simp
    rw [e2]
    simpa using hy
/-- What below answers: the struct of a node whose children are ys. -/
def BelPost (t : List Nd) (ix : Nat → Int) (v : Nat) (ys : List Sh) (w : World) (e : Ending) (w' : World) : Prop :=
  ∃ (x : Rw) (xs : List Rw), e = .returned (aggE (esOf t ix v x)) ∧ x.2.1 = ys.length ∧ Rd w' x.1 (fl encE (esL t ix ys xs)) ∧ (∀ g o, x.1 = some ⟨g, o, none⟩ → w.heap.size ≤ g) ∧ KidsM t ix (fun b => w.heap.size ≤ b) w' ys xs ∧ Below w.heap.size w w'
def BelOk (t : List Nd) (ix : Nat → Int) (z : Sh) (w : World) (e : Ending) (w' : World) : Prop :=
  ∃ x : Rw, e = .returned (aggE (esOf t ix z.top x)) ∧ ShM t ix (fun b => w.heap.size ≤ b) w' z x ∧ Below w.heap.size w w'
set_option maxRecDepth 100000 in
set_option maxHeartbeats 4000000 in
theorem rbelow_body (a : Option Addr) (n c v : Nat) (t : List Nd) (ys : List Sh) (w : World) (hn : t.length = n) (hok : TreeOk t) (hv : v < n) (hA : Rd w a (fl encNd t)) (hS : ∀ v, v < n → (nS t v).size ≤ 9223372036854775807)
    (hys : famL t n v = ys.map Sh.top) (hy2 : ys.length ≤ 2) (IH : ∀ y, y ∈ ys → ∀ W, Rd W a (fl encNd t) → Calls Tryz.prog 71 #[.slice a n c, .int .i64 (y.top : Nat)] W (BelOk t (ixL t) y W)) :
    Calls Tryz.prog 71 #[.slice a n c, .int .i64 v] w (BelPost t (ixL t) v ys w) := by
  have hn63 : n ≤ 63 := by have := hok.2.1; omega
  have HIX := Lib.hid (fun (W : World) (hW : Below w.heap.size w W) => rindex_any a n c v t W hn hok (hA.bl hW) hS)
  have HCH := Lib.hid (fun (W : World) (hW : Below w.heap.size w W) => rChildren_any a n c v t W hn hok hv (hA.bl hW) hS)
  rw [hys, List.length_map] at HCH
  have HA := Lib.hid hA
  have HIH := Lib.hid IH
  obtain ⟨bt, ot, rfl, hbt, hct⟩ := rdNd hA (by rw [hn]; omega)
  have G := (hct v (by rw [hn]; exact hv)).2
  have HG := Lib.hid G
  obtain ⟨ix, hix⟩ : ∃ ix, ix = ixL t := ⟨_, rfl⟩
  rw [show ixL t v = ix v by rw [hix]] at HIX
  rw [← hix] at HIH ⊢
  obtain ⟨iv, hiv⟩ : ∃ iv, iv = ix v := ⟨_, rfl⟩
  obtain ⟨s, hs⟩ : ∃ s, s = nS t v := ⟨_, rfl⟩
  rw [← hiv] at HIX
  rw [← hs] at G HG
  have HIV := Lib.hid hiv
  have HS := Lib.hid hs
  obtain ⟨q, hq⟩ : ∃ q, q = ys.length := ⟨_, rfl⟩
  rw [← hq] at HCH hy2
  have HQ := Lib.hid hq
  clear hn hok hA hS hys IH hct hix hiv hs hq
  have hb0 := bl_alloc (Below.refl _ w) (.cells #[.string ⟨#[]⟩, .int .i64 0, .slice none 0 0] 102)
  have HR0 := Lib.hid (Blk.new w #[.string ⟨#[]⟩, .int .i64 0, .slice none 0 0] 102)
  go_enter Tryz.func71, Tryz.ntmps71
  go_upto_region 1 with fail
  obtain ⟨R, hR⟩ : ∃ R, R = w.heap.size := ⟨_, rfl⟩
  obtain ⟨w1, hw1⟩ : ∃ x, x = w.alloc (.cells #[.string ⟨#[]⟩, .int .i64 0, .slice none 0 0] 102) := ⟨_, rfl⟩
  rw [← hw1] at hb0 HR0
  rw [← hR] at HR0
  rw [← hw1]
  have H0 := Lib.hid hb0
  have H1 : Hid (Below w.heap.size w w1.drew) := bl_drewN hb0 1
  have H2 : Hid (Below w.heap.size w (w1.drew.alloc (.cells #[.string ⟨#[]⟩, .int .i64 0, .slice none 0 0] 102))) := bl_alloc H1.out _
  have HX0 := Lib.hid (Blk.new w1.drew #[.string ⟨#[]⟩, .int .i64 0, .slice none 0 0] 102)
  have g0 : w1.cell? ⟨bt, ot + v * 2 + 1, none⟩ = some (.string s) := (hb0.cell (p := ⟨bt, ot + v * 2 + 1, none⟩) hbt).trans G
  clear hw1 hb0 G
  go_cut [5] (fun s5 wx => ∃ X, s5 = .pointer (some ⟨X, 0, none⟩) ∧ Hid (w1.heap.size ≤ X) ∧ Hid (Blk wx X #[.string s, .int .i64 iv, .slice none 0 0] 102) ∧ Hid (Below w1.heap.size w1 wx))
  case first =>
    go_region_held3 (fun w' => w'.cell? ⟨bt, ot + v * 2 + 1, none⟩ = some (.string s)) (go_keep) (first
      | (go_at_call 88; (with_reducible refine (HIX.out w1.drew H1.out).mono ?_); rintro e wk ⟨rfl, hbk⟩; have j : wk.cell? ⟨bt, ot + v * 2 + 1, none⟩ = some (.string s) := ((bl_trans H1.out hbk).cell (p := ⟨bt, ot + v * 2 + 1, none⟩) hbt).trans HG.out; have HBK := Lib.hid hbk; clear hbk)
      | (go_at_call 88; refine (HIX.out _ H2.out).mono ?_; rintro e wk ⟨rfl, hbk⟩; have j : wk.cell? ⟨bt, ot + v * 2 + 1, none⟩ = some (.string s) := ((bl_trans H2.out hbk).cell (p := ⟨bt, ot + v * 2 + 1, none⟩) hbt).trans HG.out; have HXK := Lib.hid (HX0.out.below hbk); have x0 : wk.cell? ⟨w1.heap.size, 0, none⟩ = some (.string ⟨#[]⟩) := HXK.out.cell 0; have x1 : wk.cell? ⟨w1.heap.size, 1, none⟩ = some (.int .i64 0) := HXK.out.cell 1; have x2 : wk.cell? ⟨w1.heap.size, 2, none⟩ = some (.slice none 0 0) := HXK.out.cell 2; have f0 : wk.frozen? ⟨w1.heap.size, 0, none⟩ = false := HXK.out.free 0; have f1 : wk.frozen? ⟨w1.heap.size, 1, none⟩ = false := HXK.out.free 1; have f2 : wk.frozen? ⟨w1.heap.size, 2, none⟩ = false := HXK.out.free 2; have hX1 : w1.heap.size ≠ bt := (by have := H0.out.size; omega); have HBK := Lib.hid hbk; clear hbk))
    · go_wp2_with fail
      go_meet
      exact ⟨_, rfl, HBK.out.size, Blk.new wk _ _, bl_alloc (bl_trans (bl_drewN (Below.refl _ w1) 1) HBK.out) _⟩
    · go_wp2_with fail
      go_meet
      refine ⟨_, rfl, Nat.le_refl _, ((HXK.out.set 0 _).set 1 _).set 2 _, ?_⟩
      exact bl_set (bl_set (bl_set (bl_trans (bl_alloc (bl_drewN (Below.refl _ w1) 1) _) HBK.out) _ _ _ _ (Nat.le_refl _)) _ _ _ _ (Nat.le_refl _)) _ _ _ _ (Nat.le_refl _)
  case rest =>
    obtain ⟨X, rfl, hX, hbX, hB1⟩ := hcut
    have HBC : Hid (Below w.heap.size w wc) := bl_trans H0.out hB1.out
    have HC1 := Lib.hid (HCH.out wc HBC.out)
    have HR1 : Hid (Blk wc R #[.string ⟨#[]⟩, .int .i64 0, .slice none 0 0] 102) := HR0.out.below hB1.out
    have hRX : R ≠ X := by have := HR0.out.lt; have := hX.out; omega
    clear HIX HCH HX0 H1 H2 g0
    go_wp2_with fail
    refine HC1.out.mono ?_
    rintro e w3 ⟨x3, rfl, ho3, hb3⟩
    obtain ⟨A, cA, rfl, hA3⟩ := owns_slice ho3
    have HRC := Lib.hid (rd_of_owns ho3)
    have HX3 := Lib.hid (hbX.out.below hb3)
    have HR3 := Lib.hid (HR1.out.below hb3)
    have HB3 := Lib.hid (bl_trans hB1.out hb3)
    have hX3 : X < w3.heap.size := HX3.out.lt
    have hR3 : R < w3.heap.size := HR3.out.lt
    have HA3 : Hid (q = 0 ∨ ∃ g, X < g ∧ g < w3.heap.size ∧ A = some ⟨g, 0, none⟩) := by
      rcases hA3 with h | ⟨g, h1, h2, h3⟩
      · exact .inl h
      · exact .inr ⟨g, by have := hbX.out.lt; omega, h2, h3⟩
    clear ho3 hb3 hA3 hbX HR1 HC1 hB1
    go_wp2_with fail
    go_loopw [8] (fun x8 wr => ∃ (i : Nat) (sv : Rw) (xs : List Rw), i ≤ q ∧ x8 = .int .i64 i ∧ Hid (Blk wr X #[.string s, .int .i64 iv, slR sv] 102) ∧ Hid (wr.ownsRow w3.heap.size 102 3 (slR sv) i (fl encE (esL t ix (ys.take i) xs))) ∧
      Hid (KidsM t ix (fun b => w1.heap.size ≤ b ∧ b ≠ X ∧ (slR sv).ownBlock ≠ some b) wr (ys.take i) xs) ∧ Hid (∀ b o, b < w3.heap.size → b ≠ X → wr.cell? ⟨b, o, none⟩ = w3.cell? ⟨b, o, none⟩) ∧ Hid (Below w1.heap.size w1 wr) ∧ Hid (w3.heap.size ≤ wr.heap.size)) (fun x8 _ => q - (intOf x8).toNat)
    case atStart => exact ⟨0, (none, 0, 0), [], by omega, rfl, HX3, World.ownsRow_nil _ _ _ _, ⟨rfl, fun i h => absurd h (by simp)⟩, fun _ _ _ _ => rfl, HB3, Nat.le_refl _⟩
    case round =>
      obtain ⟨i, sv, xs, hi, rfl, hbX, how, hkm, hcx, hB, hsz3⟩ := hrel
      obtain ⟨Asv, nsv, csv⟩ := sv
      by_cases hlt : i < q
      · obtain ⟨gA, hgA1, hgA2, rfl⟩ := HA3.out.resolve_left (by omega)
        have hiy : i < ys.length := by rw [← HQ.out]; exact hlt
        obtain ⟨y, hy⟩ : ∃ y, y = ys[i] := ⟨_, rfl⟩
        have hmem : y ∈ ys := by rw [hy]; exact List.getElem_mem _
        have htk : ys.take (i + 1) = ys.take i ++ [y] := by rw [List.take_succ_eq_append_getElem hiy, hy]
        obtain ⟨bl, ol, el, hbl, hcl⟩ := rdI HRC.out (by rw [iN_len, List.length_map]; omega)
        injection el with el
        injection el with el1 el2
        subst el1
        subst el2
        have G3 := hcl i (by rw [iN_len, List.length_map]; exact hiy)
        have hval : iA (iN (ys.map Sh.top)) i = ((y.top : Nat) : Int) := by
          rw [iN_get, vA_get (by rw [List.length_map]; exact hiy), List.getElem_map, hy]
        rw [hval, Nat.zero_add] at G3
        have Gw : wr.cell? ⟨gA, i, none⟩ = some (.int .i64 (y.top : Nat)) := (hcx.out gA i hgA2 (by omega)).trans G3
        have a2 : wr.cell? ⟨X, 2, none⟩ = some (.slice Asv nsv csv) := hbX.out.cell 2
        have HLN : Hid (i = (esL t ix (ys.take i) xs).length) := by
          show _ = _
          rw [esL_len _ _ _ _ hkm.out.1, List.length_take]; omega
        have hsz := hsz3.out
        have hXr : X < wr.heap.size := by omega
        have hAr : gA < wr.heap.size := by omega
        have HNX : Hid ((Value.slice Asv nsv csv).ownBlock ≠ some X) := fun e => by have := (how.out.lt X e).1; omega
        have HNA : Hid ((Value.slice Asv nsv csv).ownBlock ≠ some gA) := fun e => by have := (how.out.lt gA e).1; omega
        obtain ⟨sy, hsy⟩ : ∃ sy, sy = nS t y.top := ⟨_, rfl⟩
        obtain ⟨iy, hiy2⟩ : ∃ iy, iy = ix y.top := ⟨_, rfl⟩
        have HIHy : Hid (Calls Tryz.prog 71 #[.slice (some ⟨bt, ot, none⟩) n c, .int .i64 (y.top : Nat)] wr.drew fun e w' => ∃ (A : Option Addr) (nk ck : Nat), e = .returned (.agg #[.string sy, .int .i64 iy, .slice A nk ck]) ∧ ShM t ix (fun b => wr.heap.size ≤ b) w' y (A, nk, ck) ∧ Below wr.heap.size wr w') := by
          refine (HIH.out y hmem wr.drew ((HA.out.bl (bl_trans H0.out hB.out)).drewN 1)).mono ?_
          rintro e w' ⟨⟨A, nk, ck⟩, rfl, h1, h2⟩
          rw [hsy, hiy2]
          exact ⟨A, nk, ck, rfl, h1, bl_trans (bl_drewN (Below.refl _ wr) 1) h2⟩
        have HES : Hid ((sy, iy, ((none : Option Addr), 0, 0)).1 = nS t y.top ∧ iy = ix y.top) := ⟨hsy, hiy2⟩
        clear hy hmem hcl G3 hval hsy hiy2 hbl
        go_upto_region 6 with fail
        refine wp_region_order (S := fun w' => w'.cell? ⟨X, 2, none⟩ = some (.slice Asv nsv csv) ∧ w'.cell? ⟨gA, i, none⟩ = some (.int .i64 (y.top : Nat))) 11 [0, 1, 2, 3, 4, 5, 6] [7, 8, 9, 10] (by kernel_rfl) (by kernel_rfl) ⟨a2, Gw⟩ ?_
        iterate 7 (refine headT_cons (by rfl) (by rfl) (by intro w hSw; obtain ⟨hs1, hs2⟩ := hSw; go_simp; try rfl) ?_; simp only [Act.put, List.setIfInBounds_toArray, List.set_cons_zero, List.set_cons_succ])
        refine headT_nil ?_
        refine midT_cons (by rfl) (fun K hK => ?_)
        rw [if_pos (by rfl)]
        go_simp
        refine HIHy.out.mono ?_
        rintro e wk ⟨Ak, nk, ck, rfl, hsk, hbk⟩
        have HSK := Lib.hid hsk
        have k0 : wk.cell? ⟨X, 2, none⟩ = some (.slice Asv nsv csv) := (hbk.cell (p := ⟨X, 2, none⟩) hXr).trans a2
        have k1 : wk.cell? ⟨gA, i, none⟩ = some (.int .i64 (y.top : Nat)) := (hbk.cell (p := ⟨gA, i, none⟩) hAr).trans Gw
        have hszk := hbk.size
        have HBK := Lib.hid hbk
        have hXk : X < wk.heap.size := by omega
        have hAk : gA < wk.heap.size := by omega
        clear hbk hsk
        refine hK.out _ _ ⟨k0, k1⟩ (fun _ => ?_)
        clear hK K
        try simp only [Act.put, List.setIfInBounds_toArray, List.set_cons_zero, List.set_cons_succ]
        refine midT_cons (by rfl) (fun K hK => ?_)
        rw [if_pos (by rfl)]
        go_simp
        have hba := Below.alloc (Below.refl wk.heap.size wk) (Nat.le_refl _) (.cells #[.string sy, .int .i64 iy, .slice Ak nk ck] 102)
        have n0 := (hba.cell (p := ⟨X, 2, none⟩) hXk).trans k0
        have n1 := (hba.cell (p := ⟨gA, i, none⟩) hAk).trans k1
        refine hK.out _ _ ⟨n0, n1⟩ (fun _ => ?_)
        clear hK K
        try simp only [Act.put, List.setIfInBounds_toArray, List.set_cons_zero, List.set_cons_succ]
        refine midT_cons (by rfl) (fun K hK => ?_)
        refine spush_E (by rfl) (.tmp 31) (.tmp 38) (by rfl) w3.heap.size (.slice Asv nsv csv) (esL t ix (ys.take i) xs) i HLN.out (by rfl) ((owns_below how.out HBK.out).alloc _) _ _ (sy, iy, (Ak, nk, ck)) (by rfl) (Blk.new wk _ _) (by omega) (by rw [World.size_alloc]; omega) ?_
        intro g6 cap6 w6 h61 h62 h63 h64
        have hx6 := ((hbX.out.below HBK.out).alloc (.cells #[.string sy, .int .i64 iy, .slice Ak nk ck] 102)).grown h62 (fun e => HNX.out e.symm)
        have m0 : w6.cell? ⟨X, 2, none⟩ = some (.slice Asv nsv csv) := hx6.cell 2
        have f6 : w6.frozen? ⟨X, 2, none⟩ = false := hx6.free 2
        have m1 : w6.cell? ⟨gA, i, none⟩ = some (.int .i64 (y.top : Nat)) := (h62.cell_far ⟨gA, i, none⟩ (by rw [World.size_alloc]; exact Nat.lt_succ_of_lt hAk) (fun e => HNA.out e.symm)).trans n1
        have HX6 := Lib.hid hx6
        have H61 := Lib.hid h61
        have H62 := Lib.hid h62
        have H63 := Lib.hid h63
        clear hx6 h61 h62 h63
        refine hK.out _ _ ⟨m0, m1⟩ (fun _ => ?_)
        clear hK K
        try simp only [Act.put, List.setIfInBounds_toArray, List.set_cons_zero, List.set_cons_succ]
        refine midT_cons (by rfl) (fun K hK => ?_)
        rw [if_pos (by rfl)]
        go_simp
        refine hK.out _ _ ⟨m0, m1⟩ (fun _ => ?_)
        clear hK K
        try simp only [Act.put, List.setIfInBounds_toArray, List.set_cons_zero, List.set_cons_succ]
        refine midT_nil ?_
        simp only [List.drop_succ_cons, List.drop_zero]
        go_wp2_with fail
        refine NoPanic.normal ?_
        have e1 : sy = nS t y.top := HES.out.1
        have e2 : iy = ix y.top := HES.out.2
        have hsz6 : wk.heap.size + 1 ≤ w6.heap.size := by have := H62.out.size; rw [World.size_alloc] at this; exact this
        have hg63 := (H61.out.lt g6 rfl).1
        have hg6X : g6 ≠ X := by omega
        have HXN : Hid (Blk (w6.setCell ⟨X, 2, none⟩ (.slice (some ⟨g6, 0, none⟩) (i + 1) cap6)) X #[.string s, .int .i64 iv, slR (some ⟨g6, 0, none⟩, i + 1, cap6)] 102) := HX6.out.set 2 _
        have HON : Hid ((w6.setCell ⟨X, 2, none⟩ (.slice (some ⟨g6, 0, none⟩) (i + 1) cap6)).ownsRow w3.heap.size 102 3 (slR (some ⟨g6, 0, none⟩, i + 1, cap6)) (i + 1) (fl encE (esL t ix (ys.take (i + 1)) (xs ++ [(Ak, nk, ck)])))) := by
          show World.ownsRow _ _ _ _ _ _ _
          have h := H61.out.kept (grown_set w6 X 2 (.slice (some ⟨g6, 0, none⟩) (i + 1) cap6)) (.inr fun e => hg6X (Option.some.inj (show some g6 = some X from e)))
          have e : esOf t ix y.top (Ak, nk, ck) = (sy, iy, (Ak, nk, ck)) := by unfold esOf; rw [e1, e2]
          rw [htk, esL_snoc _ _ _ _ _ _ hkm.out.1, e]
          exact h
        have hlb : w1.heap.size ≤ wr.heap.size := hB.out.size
        have hg6b : ∀ b, b < wr.heap.size → (Value.slice Asv nsv csv).ownBlock ≠ some b → g6 ≠ b := fun b hb hne e => by
          rcases H63.out with h | h
          · exact hne (by rw [h, e])
          · rw [World.size_alloc] at h; omega
        have hg6c : ∀ b, wr.heap.size ≤ b → b < wk.heap.size → g6 ≠ b := fun b hb hb2 e => by
          rcases H63.out with h | h
          · have := (how.out.lt g6 h).2; omega
          · rw [World.size_alloc] at h; omega
        have HKN : Hid (KidsM t ix (fun b => w1.heap.size ≤ b ∧ b ≠ X ∧ (slR (some ⟨g6, 0, none⟩, i + 1, cap6)).ownBlock ≠ some b) (w6.setCell ⟨X, 2, none⟩ (.slice (some ⟨g6, 0, none⟩) (i + 1) cap6)) (ys.take (i + 1)) (xs ++ [(Ak, nk, ck)])) := by
          show KidsM _ _ _ _ _ _
          rw [htk]
          refine KidsM.snoc (KidsM.map (fun z x h => ?_) hkm.out) ?_
          · have h1 := ShM.weak (Q := fun b => (w1.heap.size ≤ b ∧ b ≠ X ∧ (Value.slice Asv nsv csv).ownBlock ≠ some b) ∧ b < wr.heap.size) (fun b hb hp => ⟨hp, hb⟩) h
            have h2 := ShM.bl hba (ShM.bl HBK.out h1)
            have h3 := ShM.grown H62.out (fun b hp e => hp.1.2.2 e.symm) h2
            have h4 := ShM.grown (grown_set w6 X 2 (.slice (some ⟨g6, 0, none⟩) (i + 1) cap6)) (fun b hp e => hp.1.2.1 (Option.some.inj e)) h3
            exact ShM.weak (fun b _ hp => ⟨hp.1.1, hp.1.2.1, fun e => hg6b b hp.2 hp.1.2.2 (Option.some.inj (show some g6 = some b from e))⟩) h4
          · have h1 := ShM.weak (Q := fun b => wr.heap.size ≤ b ∧ b < wk.heap.size) (fun b hb hp => ⟨hp, hb⟩) HSK.out
            have h2 := ShM.bl hba h1
            have h3 := ShM.grown H62.out (fun b hp e => by have := (how.out.lt b e.symm).2; omega) h2
            have h4 := ShM.grown (grown_set w6 X 2 (.slice (some ⟨g6, 0, none⟩) (i + 1) cap6)) (fun b hp e => by have := Option.some.inj e; omega) h3
            exact ShM.weak (fun b _ hp => ⟨by omega, by omega, fun e => hg6c b hp.1 hp.2 (Option.some.inj (show some g6 = some b from e))⟩) h4
        have HCN : Hid (∀ b o, b < w3.heap.size → b ≠ X → (w6.setCell ⟨X, 2, none⟩ (.slice (some ⟨g6, 0, none⟩) (i + 1) cap6)).cell? ⟨b, o, none⟩ = w3.cell? ⟨b, o, none⟩) := fun b o hb hne => by
          rw [World.cell?_setCell_far _ _ _ _ (show X ≠ b from fun e => hne e.symm)]
          have h1 := H62.out.cell_far ⟨b, o, none⟩ (by rw [World.size_alloc]; (show b < _); omega) (fun e => by have := (how.out.lt b e.symm).1; omega)
          have h2 := hba.cell (p := ⟨b, o, none⟩) (show b < _ by omega)
          have h3 := HBK.out.cell (p := ⟨b, o, none⟩) (show b < _ by omega)
          rw [h1, h2, h3]
          exact hcx.out b o hb hne
        have HBN : Hid (Below w1.heap.size w1 (w6.setCell ⟨X, 2, none⟩ (.slice (some ⟨g6, 0, none⟩) (i + 1) cap6))) := by
          refine bl_set (bl_grown (bl_alloc (bl_trans hB.out HBK.out) _) H62.out (fun r e => ?_)) _ _ _ _ hX.out
          have := (how.out.lt r e).1
          have := HB3.out.size
          omega
        have HSN : Hid (w3.heap.size ≤ (w6.setCell ⟨X, 2, none⟩ (.slice (some ⟨g6, 0, none⟩) (i + 1) cap6)).heap.size) := by
          show _ ≤ _
          rw [World.size_setCell]; omega
        obtain ⟨wn, hwn⟩ : ∃ x, x = w6.setCell ⟨X, 2, none⟩ (.slice (some ⟨g6, 0, none⟩) (i + 1) cap6) := ⟨_, rfl⟩
        rw [← hwn] at HXN HON HKN HCN HBN HSN ⊢
        clear hwn e1 e2 hba n0 n1 m0 m1 f6 k0 k1 a2 Gw hkm how hcx hB hbX hsz3 HSK H61 H62 H63 HX6 hg6b hg6c
        go_wp2_with fail
        go_roundw
        case rel => exact ⟨i + 1, (some ⟨g6, 0, none⟩, i + 1, cap6), xs ++ [(Ak, nk, ck)], by omega, by go_num, HXN, HON, HKN, HCN, HBN, HSN⟩
        case measure => simp [intOf]; omega
      · obtain rfl : i = q := by omega
        have e2 : nsv = i := by
          obtain ⟨a2, c2, e', _⟩ := owns_slice how.out
          have h : Value.slice Asv nsv csv = .slice a2 i c2 := e'
          injection h
        subst e2
        have HRW := Lib.hid (HR0.out.below hB.out)
        have a0 : wr.cell? ⟨X, 0, none⟩ = some (.string s) := hbX.out.cell 0
        have a1 : wr.cell? ⟨X, 1, none⟩ = some (.int .i64 iv) := hbX.out.cell 1
        have a2 : wr.cell? ⟨X, 2, none⟩ = some (.slice Asv nsv csv) := hbX.out.cell 2
        have r0 : wr.cell? ⟨R, 0, none⟩ = some (.string ⟨#[]⟩) := HRW.out.cell 0
        have r1 : wr.cell? ⟨R, 1, none⟩ = some (.int .i64 0) := HRW.out.cell 1
        have r2 : wr.cell? ⟨R, 2, none⟩ = some (.slice none 0 0) := HRW.out.cell 2
        have q0 : wr.frozen? ⟨R, 0, none⟩ = false := HRW.out.free 0
        have q1 : wr.frozen? ⟨R, 1, none⟩ = false := HRW.out.free 1
        have q2 : wr.frozen? ⟨R, 2, none⟩ = false := HRW.out.free 2
        rw [hR] at r0 r1 r2 q0 q1 q2
        have hRX2 : R < w1.heap.size := HR0.out.lt
        have htk : ys.take nsv = ys := List.take_of_length_le (by rw [HQ.out]; exact Nat.le_refl _)
        have hk := hkm.out
        have ho := how.out
        rw [htk] at hk ho
        have hRow : (slR (Asv, nsv, csv)).ownBlock ≠ some R := fun e => by have := (ho.lt R e).1; omega
        have HRF := Lib.hid (((HRW.out.set 0 (.string s)).set 1 (.int .i64 iv)).set 2 (.slice Asv nsv csv))
        have HOF := Lib.hid (((ho.kept (grown_set wr R 0 (.string s)) (.inr hRow)).kept (grown_set _ R 1 (.int .i64 iv)) (.inr hRow)).kept (grown_set _ R 2 (.slice Asv nsv csv)) (.inr hRow))
        have HKF : Hid (KidsM t ix (fun b => w.heap.size ≤ b) (((wr.setCell ⟨R, 0, none⟩ (.string s)).setCell ⟨R, 1, none⟩ (.int .i64 iv)).setCell ⟨R, 2, none⟩ (.slice Asv nsv csv)) ys xs) := by
          refine KidsM.map (fun z x h => ?_) hk
          have hne : ∀ b, (w1.heap.size ≤ b ∧ b ≠ X ∧ (slR (Asv, nsv, csv)).ownBlock ≠ some b) → some b ≠ some R := fun b hp e => by have := Option.some.inj e; omega
          have h1 := ShM.grown (grown_set _ R 2 (.slice Asv nsv csv)) hne (ShM.grown (grown_set _ R 1 (.int .i64 iv)) hne (ShM.grown (grown_set wr R 0 (.string s)) hne h))
          exact ShM.weak (fun b _ hp => by have := H0.out.size; omega) h1
        have HBF : Hid (Below w.heap.size w (((wr.setCell ⟨R, 0, none⟩ (.string s)).setCell ⟨R, 1, none⟩ (.int .i64 iv)).setCell ⟨R, 2, none⟩ (.slice Asv nsv csv))) :=
          bl_set (bl_set (bl_set (bl_trans H0.out hB.out) _ _ _ _ (by rw [hR]; exact Nat.le_refl _)) _ _ _ _ (by rw [hR]; exact Nat.le_refl _)) _ _ _ _ (by rw [hR]; exact Nat.le_refl _)
        have hbase : w.heap.size ≤ w3.heap.size := Nat.le_trans H0.out.size HB3.out.size
        clear hk ho
        go_wp2_with fail
        rw [← hR]
        obtain ⟨wf, hwf⟩ : ∃ x, x = ((wr.setCell ⟨R, 0, none⟩ (.string s)).setCell ⟨R, 1, none⟩ (.int .i64 iv)).setCell ⟨R, 2, none⟩ (.slice Asv nsv csv) := ⟨_, rfl⟩
        rw [← hwf] at HRF HOF HKF HBF ⊢
        have f0 : wf.cell? ⟨R, 0, none⟩ = some (.string s) := HRF.out.cell 0
        have f1 : wf.cell? ⟨R, 1, none⟩ = some (.int .i64 iv) := HRF.out.cell 1
        have f2 : wf.cell? ⟨R, 2, none⟩ = some (.slice Asv nsv csv) := HRF.out.cell 2
        refine bodyPost_ret (v := .agg #[.string s, .int .i64 iv, .slice Asv nsv csv]) (by simp [results, Tryz.results71, go_sem, f0, f1, f2]) rfl ?_
        refine ⟨(Asv, nsv, csv), xs, ?_, HQ.out, rd_of_owns HOF.out, fun g o e => ?_, HKF.out, HBF.out⟩
        · rw [HS.out, HIV.out]; rfl
        · have e1 : Asv = some ⟨g, o, none⟩ := e
          have := (HOF.out.lt g (by rw [e1]; rfl)).1
          omega
theorem belOk_lf {t : List Nd} {ix : Nat → Int} {v : Nat} {w : World} {e : Ending} {w' : World} (h : BelPost t ix v [] w e w') : BelOk t ix (.lf v) w e w' := by
  obtain ⟨x, xs, h1, h2, _, _, _, h6⟩ := h
  exact ⟨x, h1, h2, h6⟩
theorem belOk_nd {t : List Nd} {ix : Nat → Int} {v : Nat} {y1 y2 : Sh} {w : World} {e : Ending} {w' : World} (h : BelPost t ix v [y1, y2] w e w') : BelOk t ix (.nd v y1 y2) w e w' := by
  obtain ⟨x, xs, h1, h2, h3, h4, h5, h6⟩ := h
  obtain ⟨xa, xb, rfl⟩ := len_two h5.1
  exact ⟨x, h1, ⟨h2, xa, xb, h4, h3, h5.2 0 (by simp) (by simp), h5.2 1 (by simp) (by simp)⟩, h6⟩
/-- The document's shape below a node. -/
theorem rbelow_any (a : Option Addr) (n c : Nat) (t : List Nd) (hn : t.length = n) (hok : TreeOk t) (hS : ∀ v, v < n → (nS t v).size ≤ 9223372036854775807) :
    ∀ z : Sh, Sub (famL t n) z → (∀ u, u ∈ z.all → u < n) → ∀ w, Rd w a (fl encNd t) → Calls Tryz.prog 71 #[.slice a n c, .int .i64 (z.top : Nat)] w (BelOk t (ixL t) z w)
  | .lf v, hs, hu, w, hA => (rbelow_body a n c v t [] w hn hok (hu v (List.mem_singleton_self v)) hA hS hs (by simp) (fun y h => by cases h)).mono fun _ _ h => belOk_lf h
  | .nd v y1 y2, hs, hu, w, hA => (rbelow_body a n c v t [y1, y2] w hn hok (hu v (List.mem_cons_self ..)) hA hS hs.1 (by simp) (fun y h W hW => by
      have h' : y = y1 ∨ y = y2 := by simpa using h
      rcases h' with e | e
      · rw [e]; exact rbelow_any a n c t hn hok hS y1 hs.2.1 (fun u h => hu u (List.mem_cons_of_mem _ (List.mem_append_left _ h))) W hW
      · rw [e]; exact rbelow_any a n c t hn hok hS y2 hs.2.2 (fun u h => hu u (List.mem_cons_of_mem _ (List.mem_append_right _ h))) W hW)).mono fun _ _ h => belOk_nd h
end Go.Proofs.YtjmnakkkimgifaaGreatDoor
namespace Go.Proofs.YtjmnakkkimgifaaGreatDoor
open Go Go.RowKit Go.Shelf
set_option maxRecDepth 100000 in
set_option maxHeartbeats 4000000 in
theorem rturned_body (a : Option Addr) (n c u ux uy v : Nat) (t : List Nd) (ys : List Sh) (w : World) (hn : t.length = n) (hok : TreeOk t) (hv : v < n) (huv : v = swp ux uy u) (hA : Rd w a (fl encNd t)) (hS : ∀ v, v < n → (nS t v).size ≤ 9223372036854775807)
    (hys : famL t n v = ys.map (fun y => swp ux uy y.top)) (hy2 : ys.length ≤ 2) (IH : ∀ y, y ∈ ys → ∀ W, Rd W a (fl encNd t) → Calls Tryz.prog 65 #[.slice a n c, .int .i64 (swp ux uy y.top : Nat), .int .i64 ux, .int .i64 uy] W (BelOk t (ixL t) y W)) :
    Calls Tryz.prog 65 #[.slice a n c, .int .i64 u, .int .i64 ux, .int .i64 uy] w (BelPost t (ixL t) v ys w) := by
  have hn63 : n ≤ 63 := by have := hok.2.1; omega
  have HUV := Lib.hid huv
  clear huv
  have HIX := Lib.hid (fun (W : World) (hW : Below w.heap.size w W) => rindex_any a n c v t W hn hok (hA.bl hW) hS)
  have HCH := Lib.hid (fun (W : World) (hW : Below w.heap.size w W) => rChildren_any a n c v t W hn hok hv (hA.bl hW) hS)
  rw [hys, List.length_map] at HCH
  have HA := Lib.hid hA
  have HIH := Lib.hid IH
  obtain ⟨bt, ot, rfl, hbt, hct⟩ := rdNd hA (by rw [hn]; omega)
  have G := (hct v (by rw [hn]; exact hv)).2
  have HG := Lib.hid G
  obtain ⟨ix, hix⟩ : ∃ ix, ix = ixL t := ⟨_, rfl⟩
  rw [show ixL t v = ix v by rw [hix]] at HIX
  rw [← hix] at HIH ⊢
  obtain ⟨iv, hiv⟩ : ∃ iv, iv = ix v := ⟨_, rfl⟩
  obtain ⟨s, hs⟩ : ∃ s, s = nS t v := ⟨_, rfl⟩
  rw [← hiv] at HIX
  rw [← hs] at G HG
  have HIV := Lib.hid hiv
  have HS := Lib.hid hs
  obtain ⟨q, hq⟩ : ∃ q, q = ys.length := ⟨_, rfl⟩
  rw [← hq] at HCH hy2
  have HQ := Lib.hid hq
  clear hn hok hA hS hys IH hct hix hiv hs hq
  have hb0 := bl_alloc (Below.refl _ w) (.cells #[.string ⟨#[]⟩, .int .i64 0, .slice none 0 0] 102)
  have HR0 := Lib.hid (Blk.new w #[.string ⟨#[]⟩, .int .i64 0, .slice none 0 0] 102)
  go_enter Tryz.func65, Tryz.ntmps65
  go_upto_if 15 with fail
  go_cut [1] (fun s1 wx => s1 = .int .i64 v ∧ wx = w.alloc (.cells #[.string ⟨#[]⟩, .int .i64 0, .slice none 0 0] 102))
  case first =>
    have huv := HUV.out
    clear HIX HCH HA HIH HG HIV HS HQ HR0 HUV
    by_cases e1 : u = ux
    · subst e1
      have e : v = uy := by rw [huv]; unfold swp; rw [if_pos rfl]
      subst e
      clear huv
      go_wp2_with fail
      go_meet
      exact ⟨rfl, rfl⟩
    · have t1 : ((u : Int) == (ux : Int)) = false := by simp; omega
      have t2 : decide ((u : Int) = (ux : Int)) = false := by simp; omega
      have t3 : decide (u = ux) = false := by simp; omega
      by_cases e2 : u = uy
      · subst e2
        have e : v = ux := by rw [huv]; unfold swp; rw [if_neg e1, if_pos rfl]
        subst e
        clear huv e1
        go_wp2_with fail
        go_meet
        exact ⟨rfl, rfl⟩
      · have t4 : ((u : Int) == (uy : Int)) = false := by simp; omega
        have t5 : decide ((u : Int) = (uy : Int)) = false := by simp; omega
        have t6 : decide (u = uy) = false := by simp; omega
        have e : v = u := by rw [huv]; unfold swp; rw [if_neg e1, if_neg e2]
        subst e
        clear huv e1 e2
        go_wp2_with fail
        go_meet
        exact ⟨rfl, rfl⟩
  case rest =>
  obtain ⟨rfl, rfl⟩ := hcut
  clear HUV
  go_upto_region 5 with fail
  obtain ⟨R, hR⟩ : ∃ R, R = w.heap.size := ⟨_, rfl⟩
  obtain ⟨w1, hw1⟩ : ∃ x, x = w.alloc (.cells #[.string ⟨#[]⟩, .int .i64 0, .slice none 0 0] 102) := ⟨_, rfl⟩
  rw [← hw1] at hb0 HR0
  rw [← hR] at HR0
  rw [← hw1]
  have H0 := Lib.hid hb0
  have H1 : Hid (Below w.heap.size w w1.drew) := bl_drewN hb0 1
  have H2 : Hid (Below w.heap.size w (w1.drew.alloc (.cells #[.string ⟨#[]⟩, .int .i64 0, .slice none 0 0] 102))) := bl_alloc H1.out _
  have HX0 := Lib.hid (Blk.new w1.drew #[.string ⟨#[]⟩, .int .i64 0, .slice none 0 0] 102)
  have g0 : w1.cell? ⟨bt, ot + v * 2 + 1, none⟩ = some (.string s) := (hb0.cell (p := ⟨bt, ot + v * 2 + 1, none⟩) hbt).trans G
  clear hw1 hb0 G
  go_cut [9] (fun s5 wx => ∃ X, s5 = .pointer (some ⟨X, 0, none⟩) ∧ Hid (w1.heap.size ≤ X) ∧ Hid (Blk wx X #[.string s, .int .i64 iv, .slice none 0 0] 102) ∧ Hid (Below w1.heap.size w1 wx))
  case first =>
    go_region_held3 (fun w' => w'.cell? ⟨bt, ot + v * 2 + 1, none⟩ = some (.string s)) (go_keep) (first
      | (go_at_call 88; (with_reducible refine (HIX.out w1.drew H1.out).mono ?_); rintro e wk ⟨rfl, hbk⟩; have j : wk.cell? ⟨bt, ot + v * 2 + 1, none⟩ = some (.string s) := ((bl_trans H1.out hbk).cell (p := ⟨bt, ot + v * 2 + 1, none⟩) hbt).trans HG.out; have HBK := Lib.hid hbk; clear hbk)
      | (go_at_call 88; refine (HIX.out _ H2.out).mono ?_; rintro e wk ⟨rfl, hbk⟩; have j : wk.cell? ⟨bt, ot + v * 2 + 1, none⟩ = some (.string s) := ((bl_trans H2.out hbk).cell (p := ⟨bt, ot + v * 2 + 1, none⟩) hbt).trans HG.out; have HXK := Lib.hid (HX0.out.below hbk); have x0 : wk.cell? ⟨w1.heap.size, 0, none⟩ = some (.string ⟨#[]⟩) := HXK.out.cell 0; have x1 : wk.cell? ⟨w1.heap.size, 1, none⟩ = some (.int .i64 0) := HXK.out.cell 1; have x2 : wk.cell? ⟨w1.heap.size, 2, none⟩ = some (.slice none 0 0) := HXK.out.cell 2; have f0 : wk.frozen? ⟨w1.heap.size, 0, none⟩ = false := HXK.out.free 0; have f1 : wk.frozen? ⟨w1.heap.size, 1, none⟩ = false := HXK.out.free 1; have f2 : wk.frozen? ⟨w1.heap.size, 2, none⟩ = false := HXK.out.free 2; have hX1 : w1.heap.size ≠ bt := (by have := H0.out.size; omega); have HBK := Lib.hid hbk; clear hbk))
    · go_wp2_with fail
      go_meet
      exact ⟨_, rfl, HBK.out.size, Blk.new wk _ _, bl_alloc (bl_trans (bl_drewN (Below.refl _ w1) 1) HBK.out) _⟩
    · go_wp2_with fail
      go_meet
      refine ⟨_, rfl, Nat.le_refl _, ((HXK.out.set 0 _).set 1 _).set 2 _, ?_⟩
      exact bl_set (bl_set (bl_set (bl_trans (bl_alloc (bl_drewN (Below.refl _ w1) 1) _) HBK.out) _ _ _ _ (Nat.le_refl _)) _ _ _ _ (Nat.le_refl _)) _ _ _ _ (Nat.le_refl _)
  case rest =>
    obtain ⟨X, rfl, hX, hbX, hB1⟩ := hcut
    have HBC : Hid (Below w.heap.size w wc) := bl_trans H0.out hB1.out
    have HC1 := Lib.hid (HCH.out wc HBC.out)
    have HR1 : Hid (Blk wc R #[.string ⟨#[]⟩, .int .i64 0, .slice none 0 0] 102) := HR0.out.below hB1.out
    have hRX : R ≠ X := by have := HR0.out.lt; have := hX.out; omega
    clear HIX HCH HX0 H1 H2 g0
    go_wp2_with fail
    refine HC1.out.mono ?_
    rintro e w3 ⟨x3, rfl, ho3, hb3⟩
    obtain ⟨A, cA, rfl, hA3⟩ := owns_slice ho3
    have HRC := Lib.hid (rd_of_owns ho3)
    have HX3 := Lib.hid (hbX.out.below hb3)
    have HR3 := Lib.hid (HR1.out.below hb3)
    have HB3 := Lib.hid (bl_trans hB1.out hb3)
    have hX3 : X < w3.heap.size := HX3.out.lt
    have hR3 : R < w3.heap.size := HR3.out.lt
    have HA3 : Hid (q = 0 ∨ ∃ g, X < g ∧ g < w3.heap.size ∧ A = some ⟨g, 0, none⟩) := by
      rcases hA3 with h | ⟨g, h1, h2, h3⟩
      · exact .inl h
      · exact .inr ⟨g, by have := hbX.out.lt; omega, h2, h3⟩
    clear ho3 hb3 hA3 hbX HR1 HC1 hB1
    go_wp2_with fail
    go_loopw [12] (fun x8 wr => ∃ (i : Nat) (sv : Rw) (xs : List Rw), i ≤ q ∧ x8 = .int .i64 i ∧ Hid (Blk wr X #[.string s, .int .i64 iv, slR sv] 102) ∧ Hid (wr.ownsRow w3.heap.size 102 3 (slR sv) i (fl encE (esL t ix (ys.take i) xs))) ∧
      Hid (KidsM t ix (fun b => w1.heap.size ≤ b ∧ b ≠ X ∧ (slR sv).ownBlock ≠ some b) wr (ys.take i) xs) ∧ Hid (∀ b o, b < w3.heap.size → b ≠ X → wr.cell? ⟨b, o, none⟩ = w3.cell? ⟨b, o, none⟩) ∧ Hid (Below w1.heap.size w1 wr) ∧ Hid (w3.heap.size ≤ wr.heap.size)) (fun x8 _ => q - (intOf x8).toNat)
    case atStart => exact ⟨0, (none, 0, 0), [], by omega, rfl, HX3, World.ownsRow_nil _ _ _ _, ⟨rfl, fun i h => absurd h (by simp)⟩, fun _ _ _ _ => rfl, HB3, Nat.le_refl _⟩
    case round =>
      obtain ⟨i, sv, xs, hi, rfl, hbX, how, hkm, hcx, hB, hsz3⟩ := hrel
      obtain ⟨Asv, nsv, csv⟩ := sv
      by_cases hlt : i < q
      · obtain ⟨gA, hgA1, hgA2, rfl⟩ := HA3.out.resolve_left (by omega)
        have hiy : i < ys.length := by rw [← HQ.out]; exact hlt
        obtain ⟨y, hy⟩ : ∃ y, y = ys[i] := ⟨_, rfl⟩
        have hmem : y ∈ ys := by rw [hy]; exact List.getElem_mem _
        have htk : ys.take (i + 1) = ys.take i ++ [y] := by rw [List.take_succ_eq_append_getElem hiy, hy]
        obtain ⟨bl, ol, el, hbl, hcl⟩ := rdI HRC.out (by rw [iN_len, List.length_map]; omega)
        injection el with el
        injection el with el1 el2
        subst el1
        subst el2
        have G3 := hcl i (by rw [iN_len, List.length_map]; exact hiy)
        have hval : iA (iN (ys.map (fun y => swp ux uy y.top))) i = ((swp ux uy y.top : Nat) : Int) := by
          rw [iN_get, vA_get (by rw [List.length_map]; exact hiy), List.getElem_map, hy]
        rw [hval, Nat.zero_add] at G3
        have Gw : wr.cell? ⟨gA, i, none⟩ = some (.int .i64 (swp ux uy y.top : Nat)) := (hcx.out gA i hgA2 (by omega)).trans G3
        have a2 : wr.cell? ⟨X, 2, none⟩ = some (.slice Asv nsv csv) := hbX.out.cell 2
        have HLN : Hid (i = (esL t ix (ys.take i) xs).length) := by
          show _ = _
          rw [esL_len _ _ _ _ hkm.out.1, List.length_take]; omega
        have hsz := hsz3.out
        have hXr : X < wr.heap.size := by omega
        have hAr : gA < wr.heap.size := by omega
        have HNX : Hid ((Value.slice Asv nsv csv).ownBlock ≠ some X) := fun e => by have := (how.out.lt X e).1; omega
        have HNA : Hid ((Value.slice Asv nsv csv).ownBlock ≠ some gA) := fun e => by have := (how.out.lt gA e).1; omega
        obtain ⟨sy, hsy⟩ : ∃ sy, sy = nS t y.top := ⟨_, rfl⟩
        obtain ⟨iy, hiy2⟩ : ∃ iy, iy = ix y.top := ⟨_, rfl⟩
        have HIHy : Hid (Calls Tryz.prog 65 #[.slice (some ⟨bt, ot, none⟩) n c, .int .i64 (swp ux uy y.top : Nat), .int .i64 ux, .int .i64 uy] wr.drew fun e w' => ∃ (A : Option Addr) (nk ck : Nat), e = .returned (.agg #[.string sy, .int .i64 iy, .slice A nk ck]) ∧ ShM t ix (fun b => wr.heap.size ≤ b) w' y (A, nk, ck) ∧ Below wr.heap.size wr w') := by
          refine (HIH.out y hmem wr.drew ((HA.out.bl (bl_trans H0.out hB.out)).drewN 1)).mono ?_
          rintro e w' ⟨⟨A, nk, ck⟩, rfl, h1, h2⟩
          rw [hsy, hiy2]
          exact ⟨A, nk, ck, rfl, h1, bl_trans (bl_drewN (Below.refl _ wr) 1) h2⟩
        have HES : Hid ((sy, iy, ((none : Option Addr), 0, 0)).1 = nS t y.top ∧ iy = ix y.top) := ⟨hsy, hiy2⟩
        clear hy hmem hcl G3 hval hsy hiy2 hbl
        go_upto_region 10 with fail
        refine wp_region_order (S := fun w' => w'.cell? ⟨X, 2, none⟩ = some (.slice Asv nsv csv) ∧ w'.cell? ⟨gA, i, none⟩ = some (.int .i64 (swp ux uy y.top : Nat))) 13 [0, 1, 2, 3, 4, 5, 6, 7, 8] [9, 10, 11, 12] (by kernel_rfl) (by kernel_rfl) ⟨a2, Gw⟩ ?_
        iterate 9 (refine headT_cons (by rfl) (by rfl) (by intro w hSw; obtain ⟨hs1, hs2⟩ := hSw; go_simp; try rfl) ?_; simp only [Act.put, List.setIfInBounds_toArray, List.set_cons_zero, List.set_cons_succ])
        refine headT_nil ?_
        refine midT_cons (by rfl) (fun K hK => ?_)
        rw [if_pos (by rfl)]
        go_simp
        refine HIHy.out.mono ?_
        rintro e wk ⟨Ak, nk, ck, rfl, hsk, hbk⟩
        have HSK := Lib.hid hsk
        have k0 : wk.cell? ⟨X, 2, none⟩ = some (.slice Asv nsv csv) := (hbk.cell (p := ⟨X, 2, none⟩) hXr).trans a2
        have k1 : wk.cell? ⟨gA, i, none⟩ = some (.int .i64 (swp ux uy y.top : Nat)) := (hbk.cell (p := ⟨gA, i, none⟩) hAr).trans Gw
        have hszk := hbk.size
        have HBK := Lib.hid hbk
        have hXk : X < wk.heap.size := by omega
        have hAk : gA < wk.heap.size := by omega
        clear hbk hsk
        refine hK.out _ _ ⟨k0, k1⟩ (fun _ => ?_)
        clear hK K
        try simp only [Act.put, List.setIfInBounds_toArray, List.set_cons_zero, List.set_cons_succ]
        refine midT_cons (by rfl) (fun K hK => ?_)
        rw [if_pos (by rfl)]
        go_simp
        have hba := Below.alloc (Below.refl wk.heap.size wk) (Nat.le_refl _) (.cells #[.string sy, .int .i64 iy, .slice Ak nk ck] 102)
        have n0 := (hba.cell (p := ⟨X, 2, none⟩) hXk).trans k0
        have n1 := (hba.cell (p := ⟨gA, i, none⟩) hAk).trans k1
        refine hK.out _ _ ⟨n0, n1⟩ (fun _ => ?_)
        clear hK K
        try simp only [Act.put, List.setIfInBounds_toArray, List.set_cons_zero, List.set_cons_succ]
        refine midT_cons (by rfl) (fun K hK => ?_)
        refine spush_E (by rfl) (.tmp 43) (.tmp 52) (by rfl) w3.heap.size (.slice Asv nsv csv) (esL t ix (ys.take i) xs) i HLN.out (by rfl) ((owns_below how.out HBK.out).alloc _) _ _ (sy, iy, (Ak, nk, ck)) (by rfl) (Blk.new wk _ _) (by omega) (by rw [World.size_alloc]; omega) ?_
        intro g6 cap6 w6 h61 h62 h63 h64
        have hx6 := ((hbX.out.below HBK.out).alloc (.cells #[.string sy, .int .i64 iy, .slice Ak nk ck] 102)).grown h62 (fun e => HNX.out e.symm)
        have m0 : w6.cell? ⟨X, 2, none⟩ = some (.slice Asv nsv csv) := hx6.cell 2
        have f6 : w6.frozen? ⟨X, 2, none⟩ = false := hx6.free 2
        have m1 : w6.cell? ⟨gA, i, none⟩ = some (.int .i64 (swp ux uy y.top : Nat)) := (h62.cell_far ⟨gA, i, none⟩ (by rw [World.size_alloc]; exact Nat.lt_succ_of_lt hAk) (fun e => HNA.out e.symm)).trans n1
        have HX6 := Lib.hid hx6
        have H61 := Lib.hid h61
        have H62 := Lib.hid h62
        have H63 := Lib.hid h63
        clear hx6 h61 h62 h63
        refine hK.out _ _ ⟨m0, m1⟩ (fun _ => ?_)
        clear hK K
        try simp only [Act.put, List.setIfInBounds_toArray, List.set_cons_zero, List.set_cons_succ]
        refine midT_cons (by rfl) (fun K hK => ?_)
        rw [if_pos (by rfl)]
        go_simp
        refine hK.out _ _ ⟨m0, m1⟩ (fun _ => ?_)
        clear hK K
        try simp only [Act.put, List.setIfInBounds_toArray, List.set_cons_zero, List.set_cons_succ]
        refine midT_nil ?_
        simp only [List.drop_succ_cons, List.drop_zero]
        go_wp2_with fail
        refine NoPanic.normal ?_
        have e1 : sy = nS t y.top := HES.out.1
        have e2 : iy = ix y.top := HES.out.2
        have hsz6 : wk.heap.size + 1 ≤ w6.heap.size := by have := H62.out.size; rw [World.size_alloc] at this; exact this
        have hg63 := (H61.out.lt g6 rfl).1
        have hg6X : g6 ≠ X := by omega
        have HXN : Hid (Blk (w6.setCell ⟨X, 2, none⟩ (.slice (some ⟨g6, 0, none⟩) (i + 1) cap6)) X #[.string s, .int .i64 iv, slR (some ⟨g6, 0, none⟩, i + 1, cap6)] 102) := HX6.out.set 2 _
        have HON : Hid ((w6.setCell ⟨X, 2, none⟩ (.slice (some ⟨g6, 0, none⟩) (i + 1) cap6)).ownsRow w3.heap.size 102 3 (slR (some ⟨g6, 0, none⟩, i + 1, cap6)) (i + 1) (fl encE (esL t ix (ys.take (i + 1)) (xs ++ [(Ak, nk, ck)])))) := by
          show World.ownsRow _ _ _ _ _ _ _
          have h := H61.out.kept (grown_set w6 X 2 (.slice (some ⟨g6, 0, none⟩) (i + 1) cap6)) (.inr fun e => hg6X (Option.some.inj (show some g6 = some X from e)))
          have e : esOf t ix y.top (Ak, nk, ck) = (sy, iy, (Ak, nk, ck)) := by unfold esOf; rw [e1, e2]
          rw [htk, esL_snoc _ _ _ _ _ _ hkm.out.1, e]
          exact h
        have hlb : w1.heap.size ≤ wr.heap.size := hB.out.size
        have hg6b : ∀ b, b < wr.heap.size → (Value.slice Asv nsv csv).ownBlock ≠ some b → g6 ≠ b := fun b hb hne e => by
          rcases H63.out with h | h
          · exact hne (by rw [h, e])
          · rw [World.size_alloc] at h; omega
        have hg6c : ∀ b, wr.heap.size ≤ b → b < wk.heap.size → g6 ≠ b := fun b hb hb2 e => by
          rcases H63.out with h | h
          · have := (how.out.lt g6 h).2; omega
          · rw [World.size_alloc] at h; omega
        have HKN : Hid (KidsM t ix (fun b => w1.heap.size ≤ b ∧ b ≠ X ∧ (slR (some ⟨g6, 0, none⟩, i + 1, cap6)).ownBlock ≠ some b) (w6.setCell ⟨X, 2, none⟩ (.slice (some ⟨g6, 0, none⟩) (i + 1) cap6)) (ys.take (i + 1)) (xs ++ [(Ak, nk, ck)])) := by
          show KidsM _ _ _ _ _ _
          rw [htk]
          refine KidsM.snoc (KidsM.map (fun z x h => ?_) hkm.out) ?_
          · have h1 := ShM.weak (Q := fun b => (w1.heap.size ≤ b ∧ b ≠ X ∧ (Value.slice Asv nsv csv).ownBlock ≠ some b) ∧ b < wr.heap.size) (fun b hb hp => ⟨hp, hb⟩) h
            have h2 := ShM.bl hba (ShM.bl HBK.out h1)
            have h3 := ShM.grown H62.out (fun b hp e => hp.1.2.2 e.symm) h2
            have h4 := ShM.grown (grown_set w6 X 2 (.slice (some ⟨g6, 0, none⟩) (i + 1) cap6)) (fun b hp e => hp.1.2.1 (Option.some.inj e)) h3
            exact ShM.weak (fun b _ hp => ⟨hp.1.1, hp.1.2.1, fun e => hg6b b hp.2 hp.1.2.2 (Option.some.inj (show some g6 = some b from e))⟩) h4
          · have h1 := ShM.weak (Q := fun b => wr.heap.size ≤ b ∧ b < wk.heap.size) (fun b hb hp => ⟨hp, hb⟩) HSK.out
            have h2 := ShM.bl hba h1
            have h3 := ShM.grown H62.out (fun b hp e => by have := (how.out.lt b e.symm).2; omega) h2
            have h4 := ShM.grown (grown_set w6 X 2 (.slice (some ⟨g6, 0, none⟩) (i + 1) cap6)) (fun b hp e => by have := Option.some.inj e; omega) h3
            exact ShM.weak (fun b _ hp => ⟨by omega, by omega, fun e => hg6c b hp.1 hp.2 (Option.some.inj (show some g6 = some b from e))⟩) h4
        have HCN : Hid (∀ b o, b < w3.heap.size → b ≠ X → (w6.setCell ⟨X, 2, none⟩ (.slice (some ⟨g6, 0, none⟩) (i + 1) cap6)).cell? ⟨b, o, none⟩ = w3.cell? ⟨b, o, none⟩) := fun b o hb hne => by
          rw [World.cell?_setCell_far _ _ _ _ (show X ≠ b from fun e => hne e.symm)]
          have h1 := H62.out.cell_far ⟨b, o, none⟩ (by rw [World.size_alloc]; (show b < _); omega) (fun e => by have := (how.out.lt b e.symm).1; omega)
          have h2 := hba.cell (p := ⟨b, o, none⟩) (show b < _ by omega)
          have h3 := HBK.out.cell (p := ⟨b, o, none⟩) (show b < _ by omega)
          rw [h1, h2, h3]
          exact hcx.out b o hb hne
        have HBN : Hid (Below w1.heap.size w1 (w6.setCell ⟨X, 2, none⟩ (.slice (some ⟨g6, 0, none⟩) (i + 1) cap6))) := by
          refine bl_set (bl_grown (bl_alloc (bl_trans hB.out HBK.out) _) H62.out (fun r e => ?_)) _ _ _ _ hX.out
          have := (how.out.lt r e).1
          have := HB3.out.size
          omega
        have HSN : Hid (w3.heap.size ≤ (w6.setCell ⟨X, 2, none⟩ (.slice (some ⟨g6, 0, none⟩) (i + 1) cap6)).heap.size) := by
          show _ ≤ _
          rw [World.size_setCell]; omega
        obtain ⟨wn, hwn⟩ : ∃ x, x = w6.setCell ⟨X, 2, none⟩ (.slice (some ⟨g6, 0, none⟩) (i + 1) cap6) := ⟨_, rfl⟩
        rw [← hwn] at HXN HON HKN HCN HBN HSN ⊢
        clear hwn e1 e2 hba n0 n1 m0 m1 f6 k0 k1 a2 Gw hkm how hcx hB hbX hsz3 HSK H61 H62 H63 HX6 hg6b hg6c
        go_wp2_with fail
        go_roundw
        case rel => exact ⟨i + 1, (some ⟨g6, 0, none⟩, i + 1, cap6), xs ++ [(Ak, nk, ck)], by omega, by go_num, HXN, HON, HKN, HCN, HBN, HSN⟩
        case measure => simp [intOf]; omega
      · obtain rfl : i = q := by omega
        have e2 : nsv = i := by
          obtain ⟨a2, c2, e', _⟩ := owns_slice how.out
          have h : Value.slice Asv nsv csv = .slice a2 i c2 := e'
          injection h
        subst e2
        have HRW := Lib.hid (HR0.out.below hB.out)
        have a0 : wr.cell? ⟨X, 0, none⟩ = some (.string s) := hbX.out.cell 0
        have a1 : wr.cell? ⟨X, 1, none⟩ = some (.int .i64 iv) := hbX.out.cell 1
        have a2 : wr.cell? ⟨X, 2, none⟩ = some (.slice Asv nsv csv) := hbX.out.cell 2
        have r0 : wr.cell? ⟨R, 0, none⟩ = some (.string ⟨#[]⟩) := HRW.out.cell 0
        have r1 : wr.cell? ⟨R, 1, none⟩ = some (.int .i64 0) := HRW.out.cell 1
        have r2 : wr.cell? ⟨R, 2, none⟩ = some (.slice none 0 0) := HRW.out.cell 2
        have q0 : wr.frozen? ⟨R, 0, none⟩ = false := HRW.out.free 0
        have q1 : wr.frozen? ⟨R, 1, none⟩ = false := HRW.out.free 1
        have q2 : wr.frozen? ⟨R, 2, none⟩ = false := HRW.out.free 2
        rw [hR] at r0 r1 r2 q0 q1 q2
        have hRX2 : R < w1.heap.size := HR0.out.lt
        have htk : ys.take nsv = ys := List.take_of_length_le (by rw [HQ.out]; exact Nat.le_refl _)
        have hk := hkm.out
        have ho := how.out
        rw [htk] at hk ho
        have hRow : (slR (Asv, nsv, csv)).ownBlock ≠ some R := fun e => by have := (ho.lt R e).1; omega
        have HRF := Lib.hid (((HRW.out.set 0 (.string s)).set 1 (.int .i64 iv)).set 2 (.slice Asv nsv csv))
        have HOF := Lib.hid (((ho.kept (grown_set wr R 0 (.string s)) (.inr hRow)).kept (grown_set _ R 1 (.int .i64 iv)) (.inr hRow)).kept (grown_set _ R 2 (.slice Asv nsv csv)) (.inr hRow))
        have HKF : Hid (KidsM t ix (fun b => w.heap.size ≤ b) (((wr.setCell ⟨R, 0, none⟩ (.string s)).setCell ⟨R, 1, none⟩ (.int .i64 iv)).setCell ⟨R, 2, none⟩ (.slice Asv nsv csv)) ys xs) := by
          refine KidsM.map (fun z x h => ?_) hk
          have hne : ∀ b, (w1.heap.size ≤ b ∧ b ≠ X ∧ (slR (Asv, nsv, csv)).ownBlock ≠ some b) → some b ≠ some R := fun b hp e => by have := Option.some.inj e; omega
          have h1 := ShM.grown (grown_set _ R 2 (.slice Asv nsv csv)) hne (ShM.grown (grown_set _ R 1 (.int .i64 iv)) hne (ShM.grown (grown_set wr R 0 (.string s)) hne h))
          exact ShM.weak (fun b _ hp => by have := H0.out.size; omega) h1
        have HBF : Hid (Below w.heap.size w (((wr.setCell ⟨R, 0, none⟩ (.string s)).setCell ⟨R, 1, none⟩ (.int .i64 iv)).setCell ⟨R, 2, none⟩ (.slice Asv nsv csv))) :=
          bl_set (bl_set (bl_set (bl_trans H0.out hB.out) _ _ _ _ (by rw [hR]; exact Nat.le_refl _)) _ _ _ _ (by rw [hR]; exact Nat.le_refl _)) _ _ _ _ (by rw [hR]; exact Nat.le_refl _)
        have hbase : w.heap.size ≤ w3.heap.size := Nat.le_trans H0.out.size HB3.out.size
        clear hk ho
        go_wp2_with fail
        rw [← hR]
        obtain ⟨wf, hwf⟩ : ∃ x, x = ((wr.setCell ⟨R, 0, none⟩ (.string s)).setCell ⟨R, 1, none⟩ (.int .i64 iv)).setCell ⟨R, 2, none⟩ (.slice Asv nsv csv) := ⟨_, rfl⟩
        rw [← hwf] at HRF HOF HKF HBF ⊢
        have f0 : wf.cell? ⟨R, 0, none⟩ = some (.string s) := HRF.out.cell 0
        have f1 : wf.cell? ⟨R, 1, none⟩ = some (.int .i64 iv) := HRF.out.cell 1
        have f2 : wf.cell? ⟨R, 2, none⟩ = some (.slice Asv nsv csv) := HRF.out.cell 2
        refine bodyPost_ret (v := .agg #[.string s, .int .i64 iv, .slice Asv nsv csv]) (by simp [results, Tryz.results65, go_sem, f0, f1, f2]) rfl ?_
        refine ⟨(Asv, nsv, csv), xs, ?_, HQ.out, rd_of_owns HOF.out, fun g o e => ?_, HKF.out, HBF.out⟩
        · rw [HS.out, HIV.out]; rfl
        · have e1 : Asv = some ⟨g, o, none⟩ := e
          have := (HOF.out.lt g (by rw [e1]; rfl)).1
          omega
/-- The document's shape of a tree in which two nodes have changed places. -/
theorem rturned_any (a : Option Addr) (n c ux uy : Nat) (t : List Nd) (hn : t.length = n) (hok : TreeOk t) (hS : ∀ v, v < n → (nS t v).size ≤ 9223372036854775807) :
    ∀ z : Sh, Sub (fun v => (famL t n v).map (swp ux uy)) z → (∀ u, u ∈ z.all → u < n) → ∀ w, Rd w a (fl encNd t) → Calls Tryz.prog 65 #[.slice a n c, .int .i64 (swp ux uy z.top : Nat), .int .i64 ux, .int .i64 uy] w (BelOk t (ixL t) z w)
  | .lf v, hs, hu, w, hA => (rturned_body a n c (swp ux uy v) ux uy v t [] w hn hok (hu v (List.mem_singleton_self v)) (swp_swp ux uy v).symm hA hS (List.map_eq_nil_iff.1 hs) (by simp) (fun y h => by cases h)).mono fun _ _ h => belOk_lf h
  | .nd v y1 y2, hs, hu, w, hA => (rturned_body a n c (swp ux uy v) ux uy v t [y1, y2] w hn hok (hu v (List.mem_cons_self ..)) (swp_swp ux uy v).symm hA hS (by
      have h := congrArg (List.map (swp ux uy)) hs.1
      rw [List.map_map] at h
      have e : (swp ux uy ∘ swp ux uy) = id := by funext x; exact swp_swp ux uy x
      rw [e, List.map_id] at h
      exact h) (by simp) (fun y h W hW => by
      have h' : y = y1 ∨ y = y2 := by simpa using h
      rcases h' with e | e
      · rw [e]; exact rturned_any a n c ux uy t hn hok hS y1 hs.2.1 (fun u h => hu u (List.mem_cons_of_mem _ (List.mem_append_left _ h))) W hW
      · rw [e]; exact rturned_any a n c ux uy t hn hok hS y2 hs.2.2 (fun u h => hu u (List.mem_cons_of_mem _ (List.mem_append_right _ h))) W hW)).mono fun _ _ h => belOk_nd h
end Go.Proofs.YtjmnakkkimgifaaGreatDoor
namespace Go.Proofs.YtjmnakkkimgifaaGreatDoor
open Go Go.RowKit Go.Shelf
/-- The leaves' row when the leaves of a shape are met. -/
def lvF (t : List Nd) (ix : Nat → Int) : Sh → Int → Nat → (Nat → Nd) → Nat → Nd
  | .lf v, p, _, o => fun i => if i = (ix v).toNat then (p, nS t v) else o i
  | .nd _ a b, _, k, o => lvF t ix b k (k + 1 + a.inn) (lvF t ix a k (k + 1) o)
theorem lvF_out {t : List Nd} {ix : Nat → Int} {i : Nat} : ∀ (z : Sh) (p : Int) (k : Nat) (o : Nat → Nd), (∀ v, v ∈ z.lvs → i ≠ (ix v).toNat) → lvF t ix z p k o i = o i
  | .lf v, p, k, o, h => if_neg (h v (List.mem_singleton_self v))
  | .nd _ a b, p, k, o, h => by
    show lvF t ix b k _ _ i = _
    rw [lvF_out b _ _ _ (fun v hv => h v (List.mem_append_right _ hv)), lvF_out a _ _ _ (fun v hv => h v (List.mem_append_left _ hv))]
/-- The numbers of the leaves grow with the leaves. -/
def IxS (ix : Nat → Int) (l : List Nat) : Prop := (∀ u, u ∈ l → 0 ≤ ix u) ∧ ∀ u v, u ∈ l → v ∈ l → u < v → ix u < ix v
theorem IxS.mono {ix : Nat → Int} {l : List Nat} (h : IxS ix l) : IxM ix l := fun u v hu hv e => by
  by_cases q : u = v
  · rw [q]; exact Int.le_refl _
  · have := h.2 u v hu hv (by omega); omega
theorem IxS.lt {ix : Nat → Int} {l : List Nat} (h : IxS ix l) {u v : Nat} (hu : u ∈ l) (hv : v ∈ l) : ix u < ix v ↔ u < v := by
  constructor
  · intro e
    by_cases q : u < v
    · exact q
    · by_cases q2 : u = v
      · rw [q2] at e; omega
      · have := h.2 v u hv hu (by omega); omega
  · exact h.2 u v hu hv
theorem IxS.inj {ix : Nat → Int} {l : List Nat} (h : IxS ix l) {u v : Nat} (hu : u ∈ l) (hv : v ∈ l) (e : (ix u).toNat = (ix v).toNat) : u = v := by
  have h1 := h.1 u hu
  have h2 := h.1 v hv
  have e2 : ix u = ix v := by omega
  by_cases q : u < v
  · have := h.2 u v hu hv q; omega
  · by_cases q2 : v < u
    · have := h.2 v u hv hu q2; omega
    · omega
theorem IxS.sub {ix : Nat → Int} {l m : List Nat} (h : IxS ix l) (hm : ∀ u, u ∈ m → u ∈ l) : IxS ix m := ⟨fun u hu => h.1 u (hm u hu), fun u v hu hv e => h.2 u v (hm u hu) (hm v hv) e⟩
theorem lvF_leaf {t : List Nd} {ix : Nat → Int} {v : Nat} : ∀ (z : Sh) (p : Int) (k : Nat) (o : Nat → Nd), IxS ix z.lvs → z.lvs.Nodup → v ∈ z.lvs → lvF t ix z p k o (ix v).toNat = (lkp (z.pl p k) v, nS t v)
  | .lf u, p, k, o, _, _, hv => by
    have e : v = u := by simpa [Sh.lvs] using hv
    subst e
    show (if (ix v).toNat = (ix v).toNat then (p, nS t v) else _) = (lkp [(v, p)] v, nS t v)
    rw [if_pos rfl]
    simp [lkp]
  | .nd u a b, p, k, o, hx, hn, hv => by
    obtain ⟨na, nb, hd⟩ := List.nodup_append.1 hn
    show lvF t ix b k _ (lvF t ix a k _ o) _ = (lkp (a.pl k (k + 1) ++ b.pl k (k + 1 + a.inn)) v, nS t v)
    rcases List.mem_append.1 hv with h | h
    · rw [lvF_out b _ _ _ (fun w hw e => hd v h w hw (hx.inj hv (List.mem_append_right _ hw) e)), lvF_leaf a _ _ _ (hx.sub fun u hu => List.mem_append_left _ hu) na h, lkp_append_left (by rw [Sh.pl_fst]; exact h)]
    · rw [lvF_leaf b _ _ _ (hx.sub fun u hu => List.mem_append_right _ hu) nb h, lkp_append_right (by rw [Sh.pl_fst]; exact fun h2 => hd v h2 v h rfl)]
/-- Blocks below base are as they were: so is a shape there. -/
theorem ShM.low {t : List Nd} {ix : Nat → Int} {base : Nat} {w w' : World} (hb : Below base w w') : ∀ {z : Sh} {x : Rw}, ShM t ix (fun b => b < base) w z x → ShM t ix (fun b => b < base) w' z x
  | .lf _, _, h => h
  | .nd _ _ _, _, ⟨h1, xa, xb, h0, h2, h3, h4⟩ => ⟨h1, xa, xb, h0, rd_block h2 hb.size (fun b o e _ => hb.block b (h0 b o e)), ShM.low hb h3, ShM.low hb h4⟩
end Go.Proofs.YtjmnakkkimgifaaGreatDoor
namespace Go.Proofs.YtjmnakkkimgifaaGreatDoor
open Go Go.RowKit Go.Shelf
def MeetPost (t : List Nd) (ix : Nat → Int) (base G m : Nat) (z : Sh) (p : Int) (k : Nat) (o : Nat → Nd) (I : List Nd) (r : Option Nat) (w : World) (e : Ending) (w' : World) : Prop :=
  ∃ A c, e = .returned (.tuple #[.slice A (k + z.inn) c, .slice (some ⟨G, 0, none⟩) m m]) ∧ w'.ownsRow base 46 2 (.slice A (k + z.inn) c) (k + z.inn) (fl encNd (I ++ (z.srt.ni p k).map fun y => (y.1, nS t y.2))) ∧ (Value.slice A (k + z.inn) c).ownBlock ≠ some G ∧
    Blk w' G (ofF (m * 2) (outC (lvF t ix z.srt p k o))) 46 ∧ Below base w w' ∧ base ≤ w'.heap.size ∧
    (∀ b, b < w.heap.size → b ≠ G → r ≠ some b → w'.heap[b]? = w.heap[b]?) ∧ ((Value.slice A (k + z.inn) c).ownBlock = r ∨ ∃ b, (Value.slice A (k + z.inn) c).ownBlock = some b ∧ w.heap.size ≤ b)
set_option maxRecDepth 100000 in
set_option maxHeartbeats 4000000 in
theorem rmeet_lf (t : List Nd) (ix : Nat → Int) (base G m v : Nat) (x : Rw) (w : World) (p : Int) (k : Nat) (o : Nat → Nd) (A : Option Addr) (c : Nat) (I : List Nd) (hx : x.2.1 = 0) (h0 : 0 ≤ ix v) (hm : ix v < m) (hm2 : m ≤ 1000) (hbG : base ≤ G) (hbw : base ≤ w.heap.size)
    (hG : Blk w G (ofF (m * 2) (outC o)) 46) (hI : w.ownsRow base 46 2 (.slice A k c) k (fl encNd I)) (hne : (Value.slice A k c).ownBlock ≠ some G) :
    Calls Tryz.prog 86 #[aggE (esOf t ix v x), .int .i64 p, .slice A k c, .slice (some ⟨G, 0, none⟩) m m] w (MeetPost t ix base G m (.lf v) p k o I (Value.slice A k c).ownBlock w) := by
  obtain ⟨Ax, nx, cx⟩ := x
  obtain rfl : nx = 0 := hx
  obtain ⟨j, hj⟩ : ∃ j, j = (ix v).toNat := ⟨_, rfl⟩
  have hij : ix v = (j : Int) := by omega
  have hjm : j < m := by omega
  show Calls Tryz.prog 86 #[.agg #[.string (nS t v), .int .i64 (ix v), .slice Ax 0 cx], .int .i64 p, .slice A k c, .slice (some ⟨G, 0, none⟩) m m] w _
  rw [hij]
  obtain ⟨s, hs⟩ : ∃ s, s = nS t v := ⟨_, rfl⟩
  rw [← hs]
  have hb := bl_alloc (Below.refl _ w) (.cells #[.string s, .int .i64 j, .slice Ax 0 cx] 102)
  have hG1 := hG.below hb
  have hI1 := owns_below hI hb
  have HFN : Hid (lvF t ix (Sh.lf v).srt p k o = fun i => if i = j then (p, s) else o i) := by
    show _ = _
    rw [hj, hs]; rfl
  obtain ⟨X, hX⟩ : ∃ X, X = w.heap.size := ⟨_, rfl⟩
  obtain ⟨w1, hw1⟩ : ∃ y, y = w.alloc (.cells #[.string s, .int .i64 j, .slice Ax 0 cx] 102) := ⟨_, rfl⟩
  have hX1 := Blk.new w #[.string s, .int .i64 j, .slice Ax 0 cx] 102
  have hB1 : Below base w w1 := by rw [hw1]; exact (Below.refl base w).alloc hbw _
  rw [← hw1] at hX1 hb hG1 hI1
  rw [← hX] at hX1
  have c0 : w1.cell? ⟨G, j * 2, none⟩ = some (outC o (j * 2)) := hG1.getF _ (by omega)
  have c1 : w1.cell? ⟨G, j * 2 + 1, none⟩ = some (outC o (j * 2 + 1)) := hG1.getF _ (by omega)
  have f0 := hG1.free (j * 2)
  have f1 := hG1.free (j * 2 + 1)
  have x0 : w1.cell? ⟨X, 0, none⟩ = some (.string s) := hX1.cell 0
  have x1 : w1.cell? ⟨X, 1, none⟩ = some (.int .i64 j) := hX1.cell 1
  have x2 : w1.cell? ⟨X, 2, none⟩ = some (.slice Ax 0 cx) := hX1.cell 2
  have hGX : G ≠ X := by have := hG.lt; omega
  have HG2 := Lib.hid ((hG1.setF (j * 2) (.int .i64 p)).setF (j * 2 + 1) (.string s))
  have HI2 := Lib.hid ((hI1.kept (grown_set _ G (j * 2) (.int .i64 p)) (.inr hne)).kept (grown_set _ G (j * 2 + 1) (.string s)) (.inr hne))
  have HB2 : Hid (Below base w ((w1.setCell ⟨G, j * 2, none⟩ (.int .i64 p)).setCell ⟨G, j * 2 + 1, none⟩ (.string s))) :=
    (hB1.setCell (p := ⟨G, j * 2, none⟩) hbG _).setCell (p := ⟨G, j * 2 + 1, none⟩) hbG _
  have HNE := Lib.hid hne
  have HS2 : Hid (base ≤ ((w1.setCell ⟨G, j * 2, none⟩ (.int .i64 p)).setCell ⟨G, j * 2 + 1, none⟩ (.string s)).heap.size) := by
    show _ ≤ _
    rw [World.size_setCell, World.size_setCell]
    exact Nat.le_trans hbw hb.size
  have HKP : Hid (∀ b, b < w.heap.size → b ≠ G → ((w1.setCell ⟨G, j * 2, none⟩ (.int .i64 p)).setCell ⟨G, j * 2 + 1, none⟩ (.string s)).heap[b]? = w.heap[b]?) := fun b hlb hne2 => by
    rw [Below.heap_setCell _ _ _ _ hne2, Below.heap_setCell _ _ _ _ hne2]
    exact hb.block b hlb
  clear hij h0 hm hb hG hI hG1 hI1 hj hs hne hbw hB1 hX1
  go_enter Tryz.func86, Tryz.ntmps86
  go_upto_region 1 with fail
  rw [← hw1, ← hX]
  clear hw1 hX
  go_wp2_with fail
  refine bodyPost_ret (v := .tuple #[.slice A k c, .slice (some ⟨G, 0, none⟩) m m]) (by simp [results, Tryz.results86, go_sem]) rfl ⟨A, c, rfl, ?_, HNE.out, ?_, HB2.out, HS2.out, fun b h1 h2 _ => HKP.out b h1 h2, .inl rfl⟩
  · show World.ownsRow _ _ _ _ _ _ (fl encNd (I ++ []))
    rw [List.append_nil]
    exact HI2.out
  · rw [HFN.out, ← outC_put o j (p, s)]
    exact HG2.out
end Go.Proofs.YtjmnakkkimgifaaGreatDoor
namespace Go.Proofs.YtjmnakkkimgifaaGreatDoor
open Go Go.RowKit Go.Shelf
/-- What a call of meet needs. -/
structure MeetIn (t : List Nd) (ix : Nat → Int) (base G m : Nat) (y : Sh) (x : Rw) (k : Nat) (o : Nat → Nd) (A : Option Addr) (c : Nat) (I : List Nd) (W : World) : Prop where
  sh : ShM t ix (fun b => b < base) W y x
  bw : base ≤ W.heap.size
  bg : Blk W G (ofF (m * 2) (outC o)) 46
  own : W.ownsRow base 46 2 (.slice A k c) k (fl encNd I)
  len : I.length = k
  ne : (Value.slice A k c).ownBlock ≠ some G
  few : k + y.inn ≤ 1000
set_option maxRecDepth 100000 in
set_option maxHeartbeats 4000000 in
theorem rmeet_nd (t : List Nd) (ix : Nat → Int) (base G m v : Nat) (a b : Sh) (x : Rw) (w : World) (p : Int) (k : Nat) (o : Nat → Nd) (A : Option Addr) (c : Nat) (I : List Nd) (hix : IxS ix (a.lvs ++ b.lvs)) (hm2 : m ≤ 1000) (hbG : base ≤ G) (hin : MeetIn t ix base G m (.nd v a b) x k o A c I w)
    (IH : ∀ y, y = a ∨ y = b → ∀ xy W p' k' o' A' c' I', MeetIn t ix base G m y xy k' o' A' c' I' W → Calls Tryz.prog 86 #[aggE (esOf t ix y.top xy), .int .i64 p', .slice A' k' c', .slice (some ⟨G, 0, none⟩) m m] W (MeetPost t ix base G m y p' k' o' I' (Value.slice A' k' c').ownBlock W)) :
    Calls Tryz.prog 86 #[aggE (esOf t ix v x), .int .i64 p, .slice A k c, .slice (some ⟨G, 0, none⟩) m m] w (MeetPost t ix base G m (.nd v a b) p k o I (Value.slice A k c).ownBlock w) := by
  obtain ⟨⟨h1, xa, xb, hP, hr, ha, hb⟩, hbw, hG, hI, hIl, hne, hfew⟩ := hin
  obtain ⟨Ax, nx, cx⟩ := x
  obtain rfl : nx = 2 := h1
  obtain ⟨g, oo, rfl, hg, g0, g1, g2, g3, g4, g5⟩ := rd_two (show Rd w Ax _ from hr)
  have hgb : g < base := hP g oo rfl
  have hfew2 : k + (a.inn + b.inn + 1) ≤ 1000 := hfew
  show Calls Tryz.prog 86 #[.agg #[.string (nS t v), .int .i64 (ix v), .slice (some ⟨g, oo, none⟩) 2 cx], .int .i64 p, .slice A k c, .slice (some ⟨G, 0, none⟩) m m] w _
  obtain ⟨Aa, na, ca⟩ := xa
  obtain ⟨Ab, nb, cb⟩ := xb
  change w.cell? ⟨g, oo, none⟩ = some (.string (nS t a.top)) at g0
  change w.cell? ⟨g, oo + 1, none⟩ = some (.int .i64 (ix a.top)) at g1
  change w.cell? ⟨g, oo + 2, none⟩ = some (.slice Aa na ca) at g2
  change w.cell? ⟨g, oo + 3, none⟩ = some (.string (nS t b.top)) at g3
  change w.cell? ⟨g, oo + 4, none⟩ = some (.int .i64 (ix b.top)) at g4
  change w.cell? ⟨g, oo + 5, none⟩ = some (.slice Ab nb cb) at g5
  obtain ⟨s, hs⟩ : ∃ s, s = nS t v := ⟨_, rfl⟩
  obtain ⟨iv, hiv⟩ : ∃ iv, iv = ix v := ⟨_, rfl⟩
  obtain ⟨sa, hsa⟩ : ∃ s, s = nS t a.top := ⟨_, rfl⟩
  obtain ⟨ia, hia⟩ : ∃ iv, iv = ix a.top := ⟨_, rfl⟩
  obtain ⟨sb, hsb⟩ : ∃ s, s = nS t b.top := ⟨_, rfl⟩
  obtain ⟨ib, hib⟩ : ∃ iv, iv = ix b.top := ⟨_, rfl⟩
  rw [← hs, ← hiv]
  rw [← hsa] at g0
  rw [← hia] at g1
  rw [← hsb] at g3
  rw [← hib] at g4
  have HG0 : Hid (∀ W : World, Below base w W → W.cell? ⟨g, oo, none⟩ = some (.string sa) ∧ W.cell? ⟨g, oo + 1, none⟩ = some (.int .i64 ia) ∧ W.cell? ⟨g, oo + 2, none⟩ = some (.slice Aa na ca) ∧ W.cell? ⟨g, oo + 3, none⟩ = some (.string sb) ∧ W.cell? ⟨g, oo + 4, none⟩ = some (.int .i64 ib) ∧ W.cell? ⟨g, oo + 5, none⟩ = some (.slice Ab nb cb)) := fun W hW =>
    ⟨(hW.cell (p := ⟨g, oo, none⟩) hgb).trans g0, (hW.cell (p := ⟨g, oo + 1, none⟩) hgb).trans g1, (hW.cell (p := ⟨g, oo + 2, none⟩) hgb).trans g2, (hW.cell (p := ⟨g, oo + 3, none⟩) hgb).trans g3, (hW.cell (p := ⟨g, oo + 4, none⟩) hgb).trans g4, (hW.cell (p := ⟨g, oo + 5, none⟩) hgb).trans g5⟩
  have HIH := Lib.hid IH
  have HA := Lib.hid ha
  have HB := Lib.hid hb
  have HIX := Lib.hid hix
  have HE : Hid (s = nS t v ∧ sa = nS t a.top ∧ ia = ix a.top ∧ sb = nS t b.top ∧ ib = ix b.top) := ⟨hs, hsa, hia, hsb, hib⟩
  have hb1 := bl_alloc (Below.refl _ w) (.cells #[.string s, .int .i64 iv, .slice (some ⟨g, oo, none⟩) 2 cx] 102)
  have hB1 : Below base w (w.alloc (.cells #[.string s, .int .i64 iv, .slice (some ⟨g, oo, none⟩) 2 cx] 102)) := (Below.refl base w).alloc hbw _
  have HX1 := Lib.hid (Blk.new w #[.string s, .int .i64 iv, .slice (some ⟨g, oo, none⟩) 2 cx] 102)
  obtain ⟨X, hX⟩ : ∃ X, X = w.heap.size := ⟨_, rfl⟩
  obtain ⟨w1, hw1⟩ : ∃ y, y = w.alloc (.cells #[.string s, .int .i64 iv, .slice (some ⟨g, oo, none⟩) 2 cx] 102) := ⟨_, rfl⟩
  rw [← hw1] at HX1 hb1 hB1
  rw [← hX] at HX1
  have HG1 := Lib.hid (hG.below hb1)
  have HI1 := Lib.hid (owns_below hI hb1)
  have HB1 := Lib.hid hB1
  have HBW1 := Lib.hid hb1
  have hXb : base ≤ X := by rw [hX]; exact hbw
  have hGX : G ≠ X := by have := hG.lt; omega
  have HBW := Lib.hid hbw
  have HNE := Lib.hid hne
  have HIL := Lib.hid hIl
  have HNX : Hid ((Value.slice A k c).ownBlock ≠ some X) := fun e => by have := (hI.lt X e).2; omega
  have x0 : w1.cell? ⟨X, 0, none⟩ = some (.string s) := HX1.out.cell 0
  have x1 : w1.cell? ⟨X, 1, none⟩ = some (.int .i64 iv) := HX1.out.cell 1
  have x2 : w1.cell? ⟨X, 2, none⟩ = some (.slice (some ⟨g, oo, none⟩) 2 cx) := HX1.out.cell 2
  have hw1b : base ≤ w1.heap.size := Nat.le_trans hbw hb1.size
  clear IH ha hb hr hP hix hs hiv hsa hia hsb hib g0 g1 g2 g3 g4 g5 hfew hG hI hIl hne hbw hb1 hB1
  go_enter Tryz.func86, Tryz.ntmps86
  go_upto_region 1 with fail
  rw [← hw1, ← hX]
  clear hw1 hX
  have hXw : X < w1.heap.size := HX1.out.lt
  go_upto_region 6 with (at_builtin; refine push_Nd rfl (.tmp 29) (.tmp 34) rfl base (.slice A k c) I k HIL.out.symm rfl (HI1.out.alloc _) _ _ (p, s) rfl (Blk.new _ _ _) (by omega) (by rw [World.size_alloc]; omega) ?_; intro g6 cap6 w6 h61 h62 h63 h64; have H61 := Lib.hid h61; have H62 := Lib.hid h62; have H63 := Lib.hid h63; clear h61 h62 h63)
  have HB6 : Hid (Below base w w6) := Below.grown (B := base) (a := w) (w := w1.alloc (.cells #[.int .i64 p, .string s] 46)) (HB1.out.alloc hw1b _) ⟨H62.out.os, H62.out.tape, H62.out.output, H62.out.size, H62.out.block⟩ (by rw [World.size_alloc]; omega) (fun r e => (HI1.out.lt r e).1)
  have HX6 := Lib.hid ((HX1.out.alloc (.cells #[.int .i64 p, .string s] 46)).grown H62.out (fun e => HNX.out e.symm))
  have HG6 := Lib.hid ((HG1.out.alloc (.cells #[.int .i64 p, .string s] 46)).grown H62.out (fun e => HNE.out e.symm))
  have hsz6 : w1.heap.size + 1 ≤ w6.heap.size := by have := H62.out.size; rw [World.size_alloc] at this; exact this
  have hG6 : g6 ≠ G := fun e => by
    rcases H63.out with h | h
    · exact HNE.out (by rw [h, e])
    · have := HG1.out.lt; rw [World.size_alloc] at h; omega
  have hX6 : g6 ≠ X := fun e => by
    rcases H63.out with h | h
    · exact HNX.out (by rw [h, e])
    · rw [World.size_alloc] at h; omega
  obtain ⟨k0, k1, k2, k3, k4, k5⟩ := HG0.out w6 HB6.out
  have x2 : w6.cell? ⟨X, 2, none⟩ = some (.slice (some ⟨g, oo, none⟩) 2 cx) := HX6.out.cell 2
  have HK6 : Hid (∀ b, b < w.heap.size → b ≠ G → (Value.slice A k c).ownBlock ≠ some b → w6.heap[b]? = w.heap[b]?) := fun b hlb _ hr => by
    have h1 := HBW1.out.size
    exact (H62.out.block b (by rw [World.size_alloc]; omega) (fun e => hr e.symm)).trans ((bl_alloc HBW1.out _).block b hlb)
  have HR6 : Hid ((Value.slice (some ⟨g6, 0, none⟩) (k + 1) cap6).ownBlock = (Value.slice A k c).ownBlock ∨ w.heap.size ≤ g6) := by
    rcases H63.out with h | h
    · exact .inl h.symm
    · rw [World.size_alloc] at h
      have := HBW1.out.size
      exact .inr (by omega)
  have hGl6 : G < w6.heap.size := HG6.out.lt
  have hg6l : g6 < w6.heap.size := (H61.out.lt g6 rfl).2
  have hww6 : w.heap.size ≤ w6.heap.size := by have := HBW1.out.size; omega
  have HIL2 : Hid ((I ++ [(p, s)]).length = k + 1) := by show _ = _; rw [List.length_append, HIL.out]; rfl
  clear H62 H63 HNX HNE HG1 HI1 HX1 HIL HBW1
  go_cut [11, 12] (fun s1 s2 wx => ∃ Y1 Y2, s1 = .pointer (some ⟨Y1, 0, none⟩) ∧ s2 = .pointer (some ⟨Y2, 0, none⟩) ∧ Hid (Y1 ≠ Y2 ∧ w6.heap.size ≤ Y1 ∧ w6.heap.size ≤ Y2) ∧ Hid (Blk wx Y1 #[.string sa, .int .i64 ia, .slice Aa na ca] 102) ∧ Hid (Blk wx Y2 #[.string sb, .int .i64 ib, .slice Ab nb cb] 102) ∧ Hid (Below w6.heap.size w6 wx))
  case first =>
    have hXl6 : X < w6.heap.size := by omega
    have hgl6 : g < w6.heap.size := by omega
    go_region_held3 (fun w' => w'.cell? ⟨X, 2, none⟩ = some (.slice (some ⟨g, oo, none⟩) 2 cx) ∧ w'.cell? ⟨g, oo, none⟩ = some (.string sa) ∧ w'.cell? ⟨g, oo + 1, none⟩ = some (.int .i64 ia) ∧ w'.cell? ⟨g, oo + 2, none⟩ = some (.slice Aa na ca) ∧ w'.cell? ⟨g, oo + 3, none⟩ = some (.string sb) ∧ w'.cell? ⟨g, oo + 4, none⟩ = some (.int .i64 ib) ∧ w'.cell? ⟨g, oo + 5, none⟩ = some (.slice Ab nb cb)) (go_keep) (fail)
    · go_wp2_with fail
      go_meet
      exact ⟨_, _, rfl, rfl, ⟨by omega, by omega, by omega⟩, ((Blk.new w6 _ _).alloc _).drewN 1, (Blk.new2 w6 _ _ _).drewN 1, bl_drewN (bl_alloc (bl_alloc (Below.refl _ _) _) _) 1⟩
    · go_wp2_with fail
      go_meet
      exact ⟨_, _, rfl, rfl, ⟨by omega, by omega, by omega⟩, (Blk.new2 w6 _ _ _).drewN 1, ((Blk.new w6 _ _).alloc _).drewN 1, bl_drewN (bl_alloc (bl_alloc (Below.refl _ _) _) _) 1⟩
  case rest =>
    obtain ⟨Y1, Y2, rfl, rfl, hYY, hb1, hb2, hBw⟩ := hcut
    clear k0 k1 k2 k3 k4 k5 x2
    have h6b : base ≤ w6.heap.size := by omega
    have HLO : Hid (∀ W : World, Below wc.heap.size wc W → Below base w W) := fun W hW => HB6.out.trans ((bl_trans hBw.out hW).mono h6b)
    have HBC : Hid (Below base w wc.drew) := HLO.out _ (bl_drewN (Below.refl _ wc) 1)
    have HLA : Hid (∀ W : World, Below base w W → Calls Tryz.prog 104 #[.agg #[.string sa, .int .i64 ia, .slice Aa na ca]] W fun e w' => e = .returned (.int .i64 (ix a.least)) ∧ Below W.heap.size W w') := fun W hW => by
      have h := rleast_any t ix _ a (Aa, na, ca) W (HIX.out.sub fun u hu => List.mem_append_left _ hu).mono (ShM.low hW HA.out)
      rw [HE.out.2.1, HE.out.2.2.1]; exact h
    have HLB : Hid (∀ W : World, Below base w W → Calls Tryz.prog 104 #[.agg #[.string sb, .int .i64 ib, .slice Ab nb cb]] W fun e w' => e = .returned (.int .i64 (ix b.least)) ∧ Below W.heap.size W w') := fun W hW => by
      have h := rleast_any t ix _ b (Ab, nb, cb) W (HIX.out.sub fun u hu => List.mem_append_right _ hu).mono (ShM.low hW HB.out)
      rw [HE.out.2.2.2.1, HE.out.2.2.2.2]; exact h
    have HALL : Hid (∀ W : World, Below wc.heap.size wc W → W.cell? ⟨Y1, 0, none⟩ = some (.string sa) ∧ W.cell? ⟨Y1, 1, none⟩ = some (.int .i64 ia) ∧ W.cell? ⟨Y1, 2, none⟩ = some (.slice Aa na ca) ∧ W.cell? ⟨Y2, 0, none⟩ = some (.string sb) ∧ W.cell? ⟨Y2, 1, none⟩ = some (.int .i64 ib) ∧ W.cell? ⟨Y2, 2, none⟩ = some (.slice Ab nb cb)) := fun W hW => ⟨(hb1.out.below hW).cell 0, (hb1.out.below hW).cell 1, (hb1.out.below hW).cell 2, (hb2.out.below hW).cell 0, (hb2.out.below hW).cell 1, (hb2.out.below hW).cell 2⟩
    have HLT : Hid (ix b.least < ix a.least ↔ b.least < a.least) := HIX.out.lt (List.mem_append_right _ (Sh.least_mem b)) (List.mem_append_left _ (Sh.least_mem a))
    obtain ⟨la, hla⟩ : ∃ l, l = ix a.least := ⟨_, rfl⟩
    obtain ⟨lb, hlb⟩ : ∃ l, l = ix b.least := ⟨_, rfl⟩
    rw [← hla] at HLA HLT
    rw [← hlb] at HLB HLT
    clear hla hlb
    obtain ⟨c0, c1, c2, c3, c4, c5⟩ := HALL.out wc (Below.refl _ _)
    by_cases hlt : lb < la
    · have hlt2 := Lib.hid (HLT.out.1 hlt)
      have d1 : decide (lb < la) = true := decide_eq_true hlt
      go_upto_region 7 with fail
      go_region_held3 (fun w' => w'.cell? ⟨Y1, 0, none⟩ = some (.string sa) ∧ w'.cell? ⟨Y1, 1, none⟩ = some (.int .i64 ia) ∧ w'.cell? ⟨Y1, 2, none⟩ = some (.slice Aa na ca) ∧ w'.cell? ⟨Y2, 0, none⟩ = some (.string sb) ∧ w'.cell? ⟨Y2, 1, none⟩ = some (.int .i64 ib) ∧ w'.cell? ⟨Y2, 2, none⟩ = some (.slice Ab nb cb)) (go_keep) (first
        | (go_at_call 104; (with_reducible refine (HLA.out wc.drew HBC.out).mono ?_); rintro e wk ⟨rfl, hbk⟩; obtain ⟨j0, j1, j2, j3, j4, j5⟩ := HALL.out wk (bl_trans (bl_drewN (Below.refl _ wc) 1) hbk); have HBK := Lib.hid (bl_trans (bl_drewN (Below.refl _ wc) 1) hbk); clear hbk)
        | (go_at_call 104; (with_reducible refine (HLB.out wk (HLO.out wk HBK.out)).mono ?_); rintro e wl ⟨rfl, hbl⟩; obtain ⟨m0, m1, m2, m3, m4, m5⟩ := HALL.out wl (bl_trans HBK.out hbl); have HBL := Lib.hid (bl_trans HBK.out hbl); clear hbl))
      clear j0 j1 j2 j3 j4 j5 c0 c1 c2 c3 c4 c5
      have hy1 := Lib.hid (hb1.out.below HBL.out)
      have hy2 := Lib.hid (hb2.out.below HBL.out)
      have f0 : wl.frozen? ⟨Y1, 0, none⟩ = false := hy1.out.free 0
      have f1 : wl.frozen? ⟨Y1, 1, none⟩ = false := hy1.out.free 1
      have f2 : wl.frozen? ⟨Y1, 2, none⟩ = false := hy1.out.free 2
      have f3 : wl.frozen? ⟨Y2, 0, none⟩ = false := hy2.out.free 0
      have f4 : wl.frozen? ⟨Y2, 1, none⟩ = false := hy2.out.free 1
      have f5 : wl.frozen? ⟨Y2, 2, none⟩ = false := hy2.out.free 2
      have hne12 : Y1 ≠ Y2 := hYY.out.1
      have hne21 : Y2 ≠ Y1 := fun e => hne12 e.symm
      go_upto_region 9 with fail
      have hb6l := bl_trans hBw.out HBL.out
      have hy12 := hYY.out
      have hGY1 : G ≠ Y1 := by omega
      have hGY2 : G ≠ Y2 := by omega
      have hr1 : (Value.slice (some ⟨g6, 0, none⟩) (k + 1) cap6).ownBlock ≠ some Y1 := fun e => by have := Option.some.inj (show some g6 = some Y1 from e); omega
      have hr2 : (Value.slice (some ⟨g6, 0, none⟩) (k + 1) cap6).ownBlock ≠ some Y2 := fun e => by have := Option.some.inj (show some g6 = some Y2 from e); omega
      have hY1b : base ≤ Y1 := by omega
      have hY2b : base ≤ Y2 := by omega
      obtain ⟨wz, hwz⟩ : ∃ y, y = (((((wl.setCell ⟨Y1, 0, none⟩ (.string sb)).setCell ⟨Y1, 1, none⟩ (.int .i64 ib)).setCell ⟨Y1, 2, none⟩ (.slice Ab nb cb)).setCell ⟨Y2, 0, none⟩ (.string sa)).setCell ⟨Y2, 1, none⟩ (.int .i64 ia)).setCell ⟨Y2, 2, none⟩ (.slice Aa na ca) := ⟨_, rfl⟩
      have HZ1 : Hid (Blk wz Y1 #[.string sb, .int .i64 ib, .slice Ab nb cb] 102) := by
        show Blk _ _ _ _
        rw [hwz]
        exact (((((hy1.out.set 0 _).set 1 _).set 2 _).other hne12 0 _).other hne12 1 _).other hne12 2 _
      have HZ2 : Hid (Blk wz Y2 #[.string sa, .int .i64 ia, .slice Aa na ca] 102) := by
        show Blk _ _ _ _
        rw [hwz]
        exact (((((hy2.out.other hne21 0 _).other hne21 1 _).other hne21 2 _).set 0 _).set 1 _).set 2 _
      have HGZ : Hid (Blk wz G (ofF (m * 2) (outC o)) 46) := by
        show Blk _ _ _ _
        rw [hwz]
        exact ((((((HG6.out.below hb6l).other hGY1 0 _).other hGY1 1 _).other hGY1 2 _).other hGY2 0 _).other hGY2 1 _).other hGY2 2 _
      have HRZ : Hid (wz.ownsRow base 46 2 (.slice (some ⟨g6, 0, none⟩) (k + 1) cap6) (k + 1) (fl encNd (I ++ [(p, s)]))) := by
        show World.ownsRow _ _ _ _ _ _ _
        rw [hwz]
        exact ((((((owns_below H61.out hb6l).kept (grown_set _ Y1 0 _) (.inr hr1)).kept (grown_set _ Y1 1 _) (.inr hr1)).kept (grown_set _ Y1 2 _) (.inr hr1)).kept (grown_set _ Y2 0 _) (.inr hr2)).kept (grown_set _ Y2 1 _) (.inr hr2)).kept (grown_set _ Y2 2 _) (.inr hr2)
      have HBZ : Hid (Below base w wz) := by
        show Below _ _ _
        rw [hwz]
        exact ((((((HLO.out wl HBL.out).setCell (p := ⟨Y1, 0, none⟩) hY1b _).setCell (p := ⟨Y1, 1, none⟩) hY1b _).setCell (p := ⟨Y1, 2, none⟩) hY1b _).setCell (p := ⟨Y2, 0, none⟩) hY2b _).setCell (p := ⟨Y2, 1, none⟩) hY2b _).setCell (p := ⟨Y2, 2, none⟩) hY2b _
      have hszZ : w6.heap.size ≤ wz.heap.size := by
        rw [hwz]
        simp only [World.size_setCell]
        exact hb6l.size
      have HKZ : Hid (∀ b, b < w6.heap.size → wz.heap[b]? = w6.heap[b]?) := fun b hlb => by
        have n1 : b ≠ Y1 := by omega
        have n2 : b ≠ Y2 := by omega
        rw [hwz, Below.heap_setCell _ _ _ _ n2, Below.heap_setCell _ _ _ _ n2, Below.heap_setCell _ _ _ _ n2, Below.heap_setCell _ _ _ _ n1, Below.heap_setCell _ _ _ _ n1, Below.heap_setCell _ _ _ _ n1]
        exact hb6l.block b hlb
      have hY2l : Y2 < wz.heap.size := HZ2.out.lt
      rw [← hwz]
      clear hb6l hwz m0 m1 m2 m3 m4 m5 f0 f1 f2 f3 f4 f5 hr1 hr2 hy1 hy2
      have z0 : wz.cell? ⟨Y1, 0, none⟩ = some (.string sb) := HZ1.out.cell 0
      have z1 : wz.cell? ⟨Y1, 1, none⟩ = some (.int .i64 ib) := HZ1.out.cell 1
      have z2 : wz.cell? ⟨Y1, 2, none⟩ = some (.slice Ab nb cb) := HZ1.out.cell 2
      have HM1 : Hid (Calls Tryz.prog 86 #[.agg #[.string sb, .int .i64 ib, .slice Ab nb cb], .int .i64 k, .slice (some ⟨g6, 0, none⟩) (k + 1) cap6, .slice (some ⟨G, 0, none⟩) m m] wz (MeetPost t ix base G m b k (k + 1) o (I ++ [(p, s)]) (some g6) wz)) := by
        have h := HIH.out b (.inr rfl) (Ab, nb, cb) wz k (k + 1) o (some ⟨g6, 0, none⟩) cap6 (I ++ [(p, s)]) ⟨ShM.low HBZ.out HB.out, by omega, HGZ.out, HRZ.out, HIL2.out, fun e => hG6 (Option.some.inj (show some g6 = some G from e)), by omega⟩
        rw [HE.out.2.2.2.1, HE.out.2.2.2.2]; exact h
      go_wp2_with fail
      refine HM1.out.mono ?_
      rintro e wq ⟨A2', c2', rfl, ho2, hne2, hg2, hbb2, hbs2, hk2, hr2⟩
      have HQ2 : Hid (Blk wq Y2 #[.string sa, .int .i64 ia, .slice Aa na ca] 102) := (hk2 Y2 (by omega) (by omega) (fun e => by have := Option.some.inj e; omega)).trans HZ2.out
      have q0 : wq.cell? ⟨Y2, 0, none⟩ = some (.string sa) := HQ2.out.cell 0
      have q1 : wq.cell? ⟨Y2, 1, none⟩ = some (.int .i64 ia) := HQ2.out.cell 1
      have q2 : wq.cell? ⟨Y2, 2, none⟩ = some (.slice Aa na ca) := HQ2.out.cell 2
      have HM2 : Hid (Calls Tryz.prog 86 #[.agg #[.string sa, .int .i64 ia, .slice Aa na ca], .int .i64 k, .slice A2' (k + 1 + b.inn) c2', .slice (some ⟨G, 0, none⟩) m m] wq (MeetPost t ix base G m a k (k + 1 + b.inn) (lvF t ix b.srt k (k + 1) o) (I ++ [(p, s)] ++ (b.srt.ni k (k + 1)).map fun y => (y.1, nS t y.2)) (Value.slice A2' (k + 1 + b.inn) c2').ownBlock wq)) := by
        have h := HIH.out a (.inl rfl) (Aa, na, ca) wq k (k + 1 + b.inn) (lvF t ix b.srt k (k + 1) o) A2' c2' (I ++ [(p, s)] ++ (b.srt.ni k (k + 1)).map fun y => (y.1, nS t y.2)) ⟨ShM.low (HBZ.out.trans hbb2) HA.out, hbs2, hg2, ho2, by rw [List.length_append, HIL2.out, List.length_map, Sh.ni_len, Sh.srt_inn], hne2, by omega⟩
        rw [HE.out.2.1, HE.out.2.2.1]; exact h
      have hzq := hbb2.size
      go_wp2_with fail
      refine HM2.out.mono ?_
      rintro e wr ⟨A3, c3, rfl, ho3, hne3, hg3, hbb3, hbs3, hk3, hr3⟩
      go_wp2_with fail
      have e : k + 1 + b.inn + a.inn = k + (Sh.nd v a b).inn := by show _ = k + (a.inn + b.inn + 1); omega
      have hsr : (Sh.nd v a b).srt = .nd v b.srt a.srt := by rw [Sh.srt_nd, if_pos hlt2.out]
      refine bodyPost_ret (v := .tuple #[.slice A3 (k + 1 + b.inn + a.inn) c3, .slice (some ⟨G, 0, none⟩) m m]) (by simp [results, Tryz.results86, go_sem]) rfl ?_
      rw [e] at ho3 hne3 hr3 ⊢
      refine ⟨A3, c3, rfl, ?_, hne3, ?_, HBZ.out.trans (hbb2.trans hbb3), hbs3, fun b' h1 h2 h3 => ?_, ?_⟩
      · have el : I ++ ((Sh.nd v a b).srt.ni p k).map (fun y => (y.1, nS t y.2)) = (I ++ [(p, s)] ++ (b.srt.ni k (k + 1)).map fun y => (y.1, nS t y.2)) ++ (a.srt.ni k (k + 1 + b.inn)).map fun y => (y.1, nS t y.2) := by
          rw [hsr]
          show I ++ ((p, v) :: (b.srt.ni k (k + 1) ++ a.srt.ni k (k + 1 + b.srt.inn))).map (fun y => (y.1, nS t y.2)) = _
          rw [Sh.srt_inn, List.map_cons, List.map_append, HE.out.1]
          simp
        rw [el]; exact ho3
      · rw [hsr]
        show Blk wr G (ofF (m * 2) (outC (lvF t ix a.srt k (k + 1 + b.srt.inn) (lvF t ix b.srt k (k + 1) o)))) _
        rw [Sh.srt_inn]; exact hg3
      · have hg6b : g6 ≠ b' := fun q => by
          rcases HR6.out with h | h
          · exact h3 (by rw [← h, q]; rfl)
          · omega
        have h4 : (Value.slice A2' (k + 1 + b.inn) c2').ownBlock ≠ some b' := fun q => by
          rcases hr2 with h | ⟨b2, h, hb2⟩
          · rw [q] at h; exact hg6b (Option.some.inj h).symm
          · rw [q] at h; have := Option.some.inj h; omega
        exact (hk3 b' (by omega) h2 h4).trans ((hk2 b' (by omega) h2 (fun q => hg6b (Option.some.inj q))).trans ((HKZ.out b' (by omega)).trans (HK6.out b' h1 h2 h3)))
      · rcases hr3 with h | ⟨b3, h, hb3⟩
        · rcases hr2 with h' | ⟨b2, h', hb2⟩
          · rcases HR6.out with h6 | h6
            · exact .inl (by rw [h, h', ← h6]; rfl)
            · exact .inr ⟨g6, by rw [h, h'], h6⟩
          · exact .inr ⟨b2, by rw [h, h'], by omega⟩
        · exact .inr ⟨b3, h, by omega⟩
    · have hlt2 := Lib.hid (fun h => hlt (HLT.out.2 h))
      have d1 : decide (lb < la) = false := decide_eq_false hlt
      go_upto_region 7 with fail
      go_region_held3 (fun w' => w'.cell? ⟨Y1, 0, none⟩ = some (.string sa) ∧ w'.cell? ⟨Y1, 1, none⟩ = some (.int .i64 ia) ∧ w'.cell? ⟨Y1, 2, none⟩ = some (.slice Aa na ca) ∧ w'.cell? ⟨Y2, 0, none⟩ = some (.string sb) ∧ w'.cell? ⟨Y2, 1, none⟩ = some (.int .i64 ib) ∧ w'.cell? ⟨Y2, 2, none⟩ = some (.slice Ab nb cb)) (go_keep) (first
        | (go_at_call 104; (with_reducible refine (HLA.out wc.drew HBC.out).mono ?_); rintro e wk ⟨rfl, hbk⟩; obtain ⟨j0, j1, j2, j3, j4, j5⟩ := HALL.out wk (bl_trans (bl_drewN (Below.refl _ wc) 1) hbk); have HBK := Lib.hid (bl_trans (bl_drewN (Below.refl _ wc) 1) hbk); clear hbk)
        | (go_at_call 104; (with_reducible refine (HLB.out wk (HLO.out wk HBK.out)).mono ?_); rintro e wl ⟨rfl, hbl⟩; obtain ⟨m0, m1, m2, m3, m4, m5⟩ := HALL.out wl (bl_trans HBK.out hbl); have HBL := Lib.hid (bl_trans HBK.out hbl); clear hbl))
      clear j0 j1 j2 j3 j4 j5 c0 c1 c2 c3 c4 c5
      go_upto_region 9 with fail
      obtain ⟨wz, hwz⟩ : ∃ y, y = wl := ⟨_, rfl⟩
      have hb6l := bl_trans hBw.out HBL.out
      have HZ1 := Lib.hid (hb1.out.below HBL.out)
      have HZ2 := Lib.hid (hb2.out.below HBL.out)
      have HGZ := Lib.hid (HG6.out.below hb6l)
      have HRZ := Lib.hid (owns_below H61.out hb6l)
      have HBZ := Lib.hid (HLO.out wl HBL.out)
      have hszZ := hb6l.size
      have HKZ : Hid (∀ b, b < w6.heap.size → wl.heap[b]? = w6.heap[b]?) := fun b hlb => hb6l.block b hlb
      have hy12 := hYY.out
      have hY2l : Y2 < wl.heap.size := HZ2.out.lt
      rw [← hwz] at HZ1 HZ2 HGZ HRZ HBZ hszZ HKZ hY2l ⊢
      clear hb6l hwz m0 m1 m2 m3 m4 m5
      have z0 : wz.cell? ⟨Y1, 0, none⟩ = some (.string sa) := HZ1.out.cell 0
      have z1 : wz.cell? ⟨Y1, 1, none⟩ = some (.int .i64 ia) := HZ1.out.cell 1
      have z2 : wz.cell? ⟨Y1, 2, none⟩ = some (.slice Aa na ca) := HZ1.out.cell 2
      have HM1 : Hid (Calls Tryz.prog 86 #[.agg #[.string sa, .int .i64 ia, .slice Aa na ca], .int .i64 k, .slice (some ⟨g6, 0, none⟩) (k + 1) cap6, .slice (some ⟨G, 0, none⟩) m m] wz (MeetPost t ix base G m a k (k + 1) o (I ++ [(p, s)]) (some g6) wz)) := by
        have h := HIH.out a (.inl rfl) (Aa, na, ca) wz k (k + 1) o (some ⟨g6, 0, none⟩) cap6 (I ++ [(p, s)]) ⟨ShM.low HBZ.out HA.out, by omega, HGZ.out, HRZ.out, HIL2.out, fun e => hG6 (Option.some.inj (show some g6 = some G from e)), by omega⟩
        rw [HE.out.2.1, HE.out.2.2.1]; exact h
      go_wp2_with fail
      refine HM1.out.mono ?_
      rintro e wq ⟨A2', c2', rfl, ho2, hne2, hg2, hbb2, hbs2, hk2, hr2⟩
      have HQ2 : Hid (Blk wq Y2 #[.string sb, .int .i64 ib, .slice Ab nb cb] 102) := (hk2 Y2 (by omega) (by omega) (fun e => by have := Option.some.inj e; omega)).trans HZ2.out
      have q0 : wq.cell? ⟨Y2, 0, none⟩ = some (.string sb) := HQ2.out.cell 0
      have q1 : wq.cell? ⟨Y2, 1, none⟩ = some (.int .i64 ib) := HQ2.out.cell 1
      have q2 : wq.cell? ⟨Y2, 2, none⟩ = some (.slice Ab nb cb) := HQ2.out.cell 2
      have HM2 : Hid (Calls Tryz.prog 86 #[.agg #[.string sb, .int .i64 ib, .slice Ab nb cb], .int .i64 k, .slice A2' (k + 1 + a.inn) c2', .slice (some ⟨G, 0, none⟩) m m] wq (MeetPost t ix base G m b k (k + 1 + a.inn) (lvF t ix a.srt k (k + 1) o) (I ++ [(p, s)] ++ (a.srt.ni k (k + 1)).map fun y => (y.1, nS t y.2)) (Value.slice A2' (k + 1 + a.inn) c2').ownBlock wq)) := by
        have h := HIH.out b (.inr rfl) (Ab, nb, cb) wq k (k + 1 + a.inn) (lvF t ix a.srt k (k + 1) o) A2' c2' (I ++ [(p, s)] ++ (a.srt.ni k (k + 1)).map fun y => (y.1, nS t y.2)) ⟨ShM.low (HBZ.out.trans hbb2) HB.out, hbs2, hg2, ho2, by rw [List.length_append, HIL2.out, List.length_map, Sh.ni_len, Sh.srt_inn], hne2, by omega⟩
        rw [HE.out.2.2.2.1, HE.out.2.2.2.2]; exact h
      have hzq := hbb2.size
      go_wp2_with fail
      refine HM2.out.mono ?_
      rintro e wr ⟨A3, c3, rfl, ho3, hne3, hg3, hbb3, hbs3, hk3, hr3⟩
      go_wp2_with fail
      have e : k + 1 + a.inn + b.inn = k + (Sh.nd v a b).inn := by show _ = k + (a.inn + b.inn + 1); omega
      have hsr : (Sh.nd v a b).srt = .nd v a.srt b.srt := by rw [Sh.srt_nd, if_neg hlt2.out]
      refine bodyPost_ret (v := .tuple #[.slice A3 (k + 1 + a.inn + b.inn) c3, .slice (some ⟨G, 0, none⟩) m m]) (by simp [results, Tryz.results86, go_sem]) rfl ?_
      rw [e] at ho3 hne3 hr3 ⊢
      refine ⟨A3, c3, rfl, ?_, hne3, ?_, HBZ.out.trans (hbb2.trans hbb3), hbs3, fun b' h1 h2 h3 => ?_, ?_⟩
      · have el : I ++ ((Sh.nd v a b).srt.ni p k).map (fun y => (y.1, nS t y.2)) = (I ++ [(p, s)] ++ (a.srt.ni k (k + 1)).map fun y => (y.1, nS t y.2)) ++ (b.srt.ni k (k + 1 + a.inn)).map fun y => (y.1, nS t y.2) := by
          rw [hsr]
          show I ++ ((p, v) :: (a.srt.ni k (k + 1) ++ b.srt.ni k (k + 1 + a.srt.inn))).map (fun y => (y.1, nS t y.2)) = _
          rw [Sh.srt_inn, List.map_cons, List.map_append, HE.out.1]
          simp
        rw [el]; exact ho3
      · rw [hsr]
        show Blk wr G (ofF (m * 2) (outC (lvF t ix b.srt k (k + 1 + a.srt.inn) (lvF t ix a.srt k (k + 1) o)))) _
        rw [Sh.srt_inn]; exact hg3
      · have hg6b : g6 ≠ b' := fun q => by
          rcases HR6.out with h | h
          · exact h3 (by rw [← h, q]; rfl)
          · omega
        have h4 : (Value.slice A2' (k + 1 + a.inn) c2').ownBlock ≠ some b' := fun q => by
          rcases hr2 with h | ⟨b2, h, hb2⟩
          · rw [q] at h; exact hg6b (Option.some.inj h).symm
          · rw [q] at h; have := Option.some.inj h; omega
        exact (hk3 b' (by omega) h2 h4).trans ((hk2 b' (by omega) h2 (fun q => hg6b (Option.some.inj q))).trans ((HKZ.out b' (by omega)).trans (HK6.out b' h1 h2 h3)))
      · rcases hr3 with h | ⟨b3, h, hb3⟩
        · rcases hr2 with h' | ⟨b2, h', hb2⟩
          · rcases HR6.out with h6 | h6
            · exact .inl (by rw [h, h', ← h6]; rfl)
            · exact .inr ⟨g6, by rw [h, h'], h6⟩
          · exact .inr ⟨b2, by rw [h, h'], by omega⟩
        · exact .inr ⟨b3, h, by omega⟩
/-- The document's numbering of a part of a shape. -/
theorem rmeet_any (t : List Nd) (ix : Nat → Int) (base G m : Nat) (hm2 : m ≤ 1000) (hbG : base ≤ G) : ∀ z : Sh, IxS ix z.lvs → (∀ u, u ∈ z.lvs → ix u < m) → ∀ (x : Rw) (w : World) (p : Int) (k : Nat) (o : Nat → Nd) (A : Option Addr) (c : Nat) (I : List Nd), MeetIn t ix base G m z x k o A c I w →
    Calls Tryz.prog 86 #[aggE (esOf t ix z.top x), .int .i64 p, .slice A k c, .slice (some ⟨G, 0, none⟩) m m] w (MeetPost t ix base G m z p k o I (Value.slice A k c).ownBlock w)
  | .lf v, hix, hlt, x, w, p, k, o, A, c, I, hin => rmeet_lf t ix base G m v x w p k o A c I hin.sh (hix.1 v (List.mem_singleton_self v)) (hlt v (List.mem_singleton_self v)) hm2 hbG hin.bw hin.bg hin.own hin.ne
  | .nd v a b, hix, hlt, x, w, p, k, o, A, c, I, hin => rmeet_nd t ix base G m v a b x w p k o A c I hix hm2 hbG hin (fun y hy xy W p' k' o' A' c' I' h => by
      rcases hy with e | e
      · subst e; exact rmeet_any t ix base G m hm2 hbG y (hix.sub fun u hu => List.mem_append_left _ hu) (fun u hu => hlt u (List.mem_append_left _ hu)) xy W p' k' o' A' c' I' h
      · subst e; exact rmeet_any t ix base G m hm2 hbG y (hix.sub fun u hu => List.mem_append_right _ hu) (fun u hu => hlt u (List.mem_append_right _ hu)) xy W p' k' o' A' c' I' h)
end Go.Proofs.YtjmnakkkimgifaaGreatDoor
namespace Go.Proofs.YtjmnakkkimgifaaGreatDoor
open Go Go.RowKit Go.Shelf
/-- What is laid out is the numbered tree. -/
theorem num_split {t : List Nd} {ix : Nat → Int} {L : List Nat} {z : Sh} {o : Nat → Nd} (hL : L.Perm z.lvs) (hx : ∀ v, v ∈ L → ix v = (L.idxOf v : Int)) (hix : IxS ix z.lvs) (hn : z.lvs.Nodup) :
    (List.range L.length).map (fun i => lvF t ix z (-1) 0 o i) = L.map fun v => (lkp (z.pl (-1) 0) v, nS t v) := by
  apply List.ext_getElem
  · simp
  · intro i h1 h2
    rw [List.getElem_map, List.getElem_map, List.getElem_range]
    have hi : i < L.length := by simpa using h2
    have hm : L[i] ∈ L := List.getElem_mem _
    have hnL : L.Nodup := hL.nodup_iff.2 hn
    have e1 := hx L[i] hm
    rw [idx_at hnL hi] at e1
    have e2 : (ix L[i]).toNat = i := by omega
    have h := lvF_leaf (t := t) (v := L[i]) z (-1) 0 o hix hn (hL.mem_iff.1 hm)
    rw [e2] at h
    exact h
theorem nds_madeR (n : Nat) : madeCells #[Value.int .i64 0, Value.string ByteArray.empty] (n * 2) = ofF (n * 2) (outC fun _ => (0, ByteArray.empty)) := by
  apply Array.ext
  · simp [madeCells, ofF]
  · intro i h1 h2
    have : i % 2 = 0 ∨ i % 2 = 1 := by omega
    rcases this with q | q <;> simp [madeCells, ofF, outC, q]
theorem encNd_oneR : ∀ x : Nd, ∀ u ∈ encNd x, u.oneCell' = true := by
  intro x u hu
  simp only [encNd, List.mem_cons, List.not_mem_nil, or_false] at hu
  rcases hu with rfl | rfl <;> rfl
theorem rd_blkR {w : World} {B : Nat} {cs : List Value} {t : TypeId} (h : Blk w B cs.toArray t) : Rd w (some ⟨B, 0, none⟩) cs := by
  intro h0
  refine ⟨B, 0, rfl, h.lt, fun i hi => ?_⟩
  rw [Nat.zero_add, h.cell i]
  simp [hi]
/-- A row of nodes, read as a list. -/
theorem outC_rd {w : World} {G m : Nat} {f : Nat → Nd} (h : Blk w G (ofF (m * 2) (outC f)) 46) : Rd w (some ⟨G, 0, none⟩) (fl encNd ((List.range m).map f)) := by
  have e : ofF (m * 2) (outC f) = (fl encNd ((List.range m).map f)).toArray := by
    have h1 := outC_fl ((List.range m).map f)
    rw [List.length_map, List.length_range] at h1
    rw [← h1]
    show _ = (ofF (m * 2) _)
    refine ofF_congr fun i hi => ?_
    unfold outC
    have h2 : ((List.range m).map f).getD (i / 2) (0, ByteArray.empty) = f (i / 2) := by
      rw [List.getD_eq_getElem?_getD, List.getElem?_map, List.getElem?_range (by omega)]; rfl
    dsimp only
    rw [h2]
  rw [e] at h
  exact rd_blkR h
theorem idx_lt {L : List Nat} (hp : L.Pairwise (· < ·)) {u v : Nat} (hu : u ∈ L) (hv : v ∈ L) (h : u < v) : L.idxOf u < L.idxOf v := by
  have hn : L.Nodup := hp.imp (fun h => Nat.ne_of_lt h)
  obtain ⟨i, hi, ei⟩ := List.mem_iff_getElem.1 hu
  obtain ⟨j, hj, ej⟩ := List.mem_iff_getElem.1 hv
  rw [← ei, ← ej, idx_at hn hi, idx_at hn hj]
  rcases Nat.lt_trichotomy i j with q | q | q
  · exact q
  · subst q; rw [ei] at ej; omega
  · have := List.pairwise_iff_getElem.1 hp j i hj hi q
    omega
/-- The leaves' numbers, by their list. -/
theorem ixs_of {L : List Nat} {ix : Nat → Int} {l : List Nat} (hp : L.Pairwise (· < ·)) (hx : ∀ v, v ∈ L → ix v = (L.idxOf v : Int)) (hl : ∀ v, v ∈ l → v ∈ L) : IxS ix l :=
  ⟨fun u hu => by rw [hx u (hl u hu)]; omega, fun u v hu hv h => by
    have := idx_lt hp (hl u hu) (hl v hv) h
    rw [hx u (hl u hu), hx v (hl v hv)]; omega⟩
set_option maxRecDepth 100000 in
set_option maxHeartbeats 4000000 in
theorem rnumber_any (t : List Nd) (ix : Nat → Int) (L : List Nat) (z : Sh) (x : Rw) (w : World) (hp : L.Pairwise (· < ·)) (hL : L.Perm z.lvs) (hx : ∀ v, v ∈ L → ix v = (L.idxOf v : Int)) (hsh : ShM t ix (fun b => b < w.heap.size) w z x) (hfew : L.length ≤ 500) :
    Calls Tryz.prog 64 #[aggE (esOf t ix z.top x)] w fun e w' => ∃ v, e = .returned v ∧ w'.ownsRow w.heap.size 46 2 v (z.inn + L.length) (fl encNd (numL t L z)) ∧ Below w.heap.size w w' := by
  have hnd : L.Nodup := hp.imp (fun h => Nat.ne_of_lt h)
  have hzn : z.lvs.Nodup := hL.nodup_iff.1 hnd
  have hix : IxS ix z.lvs := ixs_of hp hx (fun v hv => hL.mem_iff.2 hv)
  obtain ⟨m, hm⟩ : ∃ m, m = L.length := ⟨_, rfl⟩
  have hzm : z.lvs.length = m := by rw [hm, hL.length_eq]
  have hinn : z.inn + 1 = m := by rw [← Sh.lvs_inn, hzm]
  have hlt : ∀ u, u ∈ z.lvs → ix u < m := fun u hu => by
    have h := hL.mem_iff.2 hu
    rw [hx u h, hm]
    have := List.idxOf_lt_length_of_mem h
    omega
  rw [← hm] at hfew ⊢
  have hb0 := bl_alloc (Below.refl _ w) (.cells #[.string (nS t z.top), .int .i64 (ix z.top), .slice x.1 x.2.1 x.2.2] 102)
  have hsh0 := ShM.bl hb0 hsh
  have HCT := Lib.hid (fun (W : World) (hW : Below w.heap.size w W) => rcount_any t ix (fun b => b < w.heap.size) z x W (by omega) (ShM.bl hW hsh))
  rw [hzm] at HCT
  have HME := Lib.hid (fun (W : World) (G : Nat) (hG : Blk W G (ofF (m * 2) (outC fun _ => (0, ByteArray.empty))) 46) (hW : Below w.heap.size w W) (hGb : w.heap.size ≤ G) =>
    rmeet_any t ix w.heap.size G m (by omega) hGb z hix hlt x W (-1) 0 (fun _ => (0, ByteArray.empty)) none 0 [] ⟨ShM.bl hW hsh, hW.size, hG, World.ownsRow_nil _ _ _ _, rfl, (fun e => by cases e), by omega⟩)
  have HSP := Lib.hid (num_split (t := t) (z := z.srt) (o := fun _ => (0, ByteArray.empty)) (hL.trans (Sh.srt_lvs z).symm) hx (ixs_of hp hx fun v hv => hL.mem_iff.2 ((Sh.srt_lvs z).mem_iff.1 hv)) ((Sh.srt_lvs z).nodup_iff.2 hzn))
  rw [← hm] at HSP
  show Calls Tryz.prog 64 #[.agg #[.string (nS t z.top), .int .i64 (ix z.top), .slice x.1 x.2.1 x.2.2]] w _
  have HCT1 : Hid (∀ (W : World), Below w.heap.size w W → Calls Tryz.prog 87 #[.agg #[.string (nS t z.top), .int .i64 (ix z.top), .slice x.1 x.2.1 x.2.2]] W fun e w' => e = .returned (.int .i64 (m : Nat)) ∧ Below W.heap.size W w') := HCT.out
  have HME1 : Hid (∀ (W : World) (G : Nat), Blk W G (ofF (m * 2) (outC fun _ => (0, ByteArray.empty))) 46 → Below w.heap.size w W → w.heap.size ≤ G → Calls Tryz.prog 86 #[.agg #[.string (nS t z.top), .int .i64 (ix z.top), .slice x.1 x.2.1 x.2.2], .int .i64 (-1), .slice none 0 0, .slice (some ⟨G, 0, none⟩) m m] W (MeetPost t ix w.heap.size G m z (-1) 0 (fun _ => (0, ByteArray.empty)) [] none W)) := HME.out
  clear HCT HME
  obtain ⟨x1, x2, x3⟩ := x
  generalize nS t z.top = s at *
  generalize ix z.top = iv at *
  have hX1 := Blk.new w #[.string s, .int .i64 iv, .slice x1 x2 x3] 102
  obtain ⟨X, hX⟩ : ∃ X, X = w.heap.size := ⟨_, rfl⟩
  obtain ⟨w1, hw1⟩ : ∃ y, y = w.alloc (.cells #[.string s, .int .i64 iv, .slice x1 x2 x3] 102) := ⟨_, rfl⟩
  have hb0 : Below w.heap.size w w1 := by rw [hw1]; exact hb0
  have hX1 : Blk w1 w.heap.size #[.string s, .int .i64 iv, .slice x1 x2 x3] 102 := by rw [hw1]; exact hX1
  rw [← hX] at hX1
  have HB0 := Lib.hid hb0
  have HX1 := Lib.hid hX1
  have x0 : w1.cell? ⟨X, 0, none⟩ = some (.string s) := hX1.cell 0
  have x1' : w1.cell? ⟨X, 1, none⟩ = some (.int .i64 iv) := hX1.cell 1
  have x2' : w1.cell? ⟨X, 2, none⟩ = some (.slice x1 x2 x3) := hX1.cell 2
  have hXl : X < w1.heap.size := hX1.lt
  have HXE := Lib.hid hX
  have HIN := Lib.hid hinn
  have HM := Lib.hid hm
  clear hnd hzn hix hzm hinn hlt hm hsh0 hsh hx hL hp hb0 hX1
  obtain ⟨i0, hi0, hz0, hz1, hz2⟩ := info_parts info_Nd
  have HMK : Hid (∀ W : World, _) := fun W : World => by
    have hmk := run_make (P := Tryz.prog) W 25 46 i0 _ Tryz.underlying25 hi0 hz0 .i64 .i64 (m : Int) (m : Int) (by omega) (by omega) (by rw [hz2]; omega) (by omega)
    simp only [hz1, Int.toNat_natCast] at hmk
    have e : madeCells (Value.agg #[Value.int .i64 0, Value.string ByteArray.empty]).cells (m * 2) = ofF (m * 2) (outC fun _ => (0, ByteArray.empty)) := nds_madeR m
    rw [e] at hmk
    exact hmk
  clear hi0 hz0 hz1 hz2
  go_enter Tryz.func64, Tryz.ntmps64
  go_upto_region 1 with fail
  rw [← hw1, ← hX]
  clear hw1 hX
  have HB1 : Hid (Below w.heap.size w w1.drew) := bl_drewN HB0.out 1
  have HX1D := Lib.hid (HX1.out.drewN 1)
  go_region_held3 (fun w' => w'.cell? ⟨X, 0, none⟩ = some (.string s) ∧ w'.cell? ⟨X, 1, none⟩ = some (.int .i64 iv) ∧ w'.cell? ⟨X, 2, none⟩ = some (.slice x1 x2 x3)) (go_keep) (first
    | (go_at_call 87; (with_reducible refine (HCT1.out w1.drew HB1.out).mono ?_); rintro e wk ⟨rfl, hbk⟩; have HXK := Lib.hid (HX1D.out.below hbk); have j0 : wk.cell? ⟨X, 0, none⟩ = some (.string s) := HXK.out.cell 0; have j1 : wk.cell? ⟨X, 1, none⟩ = some (.int .i64 iv) := HXK.out.cell 1; have j2 : wk.cell? ⟨X, 2, none⟩ = some (.slice x1 x2 x3) := HXK.out.cell 2; have hXk : X < wk.heap.size := HXK.out.lt; have HBK := Lib.hid (bl_trans HB1.out hbk); have hmk := HMK.out wk; clear hbk)
    | (go_at_call 86; have hbA := bl_alloc HBK.out (.cells (ofF (m * 2) (outC fun _ => (0, ByteArray.empty))) 46); (with_reducible refine (HME1.out (wk.alloc (.cells (ofF (m * 2) (outC fun _ => (0, ByteArray.empty))) 46)) wk.heap.size (Blk.new wk _ _) hbA HBK.out.size).mono ?_); rintro e wm ⟨A, c, rfl, ho, hne, hg, hbb, hbs, hk, hr⟩; have HXM : Hid (Blk wm X #[.string s, .int .i64 iv, .slice x1 x2 x3] 102) := (hk X (by rw [World.size_alloc]; omega) (by omega) (fun e => by cases e)).trans (HXK.out.alloc _); have m0 : wm.cell? ⟨X, 0, none⟩ = some (.string s) := HXM.out.cell 0; have m1 : wm.cell? ⟨X, 1, none⟩ = some (.int .i64 iv) := HXM.out.cell 1; have m2 : wm.cell? ⟨X, 2, none⟩ = some (.slice x1 x2 x3) := HXM.out.cell 2; have HO : Hid (wm.ownsRow w.heap.size 46 2 (.slice A z.inn c) z.inn (fl encNd ((z.srt.ni (-1) 0).map fun y => (y.1, nS t y.2)))) := (by have h := ho; rw [Nat.zero_add, List.nil_append] at h; exact h); have HG := Lib.hid (outC_rd hg); rw [HSP.out] at HG; have HBM := Lib.hid (hbA.trans hbb); have HBS := hbs; clear ho hne hg hbb hbs hk hr hbA))
  have HLI : Hid (z.inn = ((z.srt.ni (-1) 0).map fun y => (y.1, nS t y.2)).length) := by show _ = _; rw [List.length_map, Sh.ni_len, Sh.srt_inn]
  have HLL : Hid (m = (L.map fun v => (lkp (z.srt.pl (-1) 0) v, nS t v)).length) := by show _ = _; rw [List.length_map]; exact HM.out
  clear m0 m1 m2 j0 j1 j2 x0 x1' x2' hmk
  have hin9 := HIN.out
  go_wp2_with (at_builtin; refine wpList_pushs (enc := encNd) (k := 2) (bytes := 24) rfl encNd_len (by decide) encNd_oneR (base := w.heap.size) Tryz.underlying25 info_Nd rfl (.tmp 13) (.tmp 14) rfl (.slice A z.inn c) ((z.srt.ni (-1) 0).map fun y => (y.1, nS t y.2)) z.inn HLI.out rfl HO.out (some ⟨wk.heap.size, 0, none⟩) m m (L.map fun v => (lkp (z.srt.pl (-1) 0) v, nS t v)) HLL.out rfl HG.out (by intro e; cases e) (by omega) (by decide) HBS ?_; intro v' w' h2 h3 h4; have H2 := Lib.hid h2; have HB' := Lib.hid (Below.grown HBM.out h3 HBS (fun r e => (HO.out.lt r e).1)); clear h2 h3 h4)
  go_ret
  exact ⟨v', rfl, H2.out, HB'.out⟩
end Go.Proofs.YtjmnakkkimgifaaGreatDoor
namespace Go.Proofs.YtjmnakkkimgifaaGreatDoor
open Go Go.RowKit Go.Shelf
/-- The place of a leaf. -/
theorem ixL_idx {t : List Nd} {v : Nat} (h : v ∈ lvT t) : ixL t v = ((lvT t).idxOf v : Int) := by
  unfold ixL idxF
  rw [if_pos (List.any_eq_true.2 ⟨v, h, by simp⟩)]
  rfl
/-- The two children of a node's parent. -/
theorem sib_sum {t : List Nd} {n c : Nat} (hn : t.length = n) (hok : TreeOk t) (hb : BinT t n) (h0 : 0 < c) (hc : c < n) :
    ∃ p : Nat, nP t c = p ∧ p < c ∧ (famL t n p).length = 2 ∧ vA (famL t n p) 0 + vA (famL t n p) 1 = c + sibT t n c ∧ vA (famL t n p) 0 < n ∧ vA (famL t n p) 1 < n ∧ 0 < sibT t n c ∧ sibT t n c < n := by
  have hP := tok_par hn hok
  obtain ⟨p0, p1⟩ := hP c h0 hc
  obtain ⟨p, hp⟩ : ∃ p : Nat, nP t c = p := ⟨(nP t c).toNat, by omega⟩
  have hcm : c ∈ famL t n p := fam_mem.2 ⟨hc, h0, hp⟩
  have h2 : (famL t n p).length = 2 := by
    rcases hb p (by omega) with h | h
    · rw [List.eq_nil_of_length_eq_zero h] at hcm; cases hcm
    · exact h
  obtain ⟨a, b, hk⟩ := len_two h2
  have hs : sibT t n c = if a = c then b else a := by
    unfold sibT sibK
    rw [hp, Int.toNat_natCast, hk]
  have ha : a ∈ famL t n p := by rw [hk]; simp
  have hb : b ∈ famL t n p := by rw [hk]; simp
  obtain ⟨a1, a2, _⟩ := fam_mem.1 ha
  obtain ⟨b1, b2, _⟩ := fam_mem.1 hb
  rw [hk] at hcm
  have hcm : c = a ∨ c = b := by simpa using hcm
  refine ⟨p, hp, by omega, h2, ?_, ?_, ?_, ?_, ?_⟩
  · rw [hs, hk]
    show a + b = _
    by_cases e : a = c
    · rw [if_pos e]; omega
    · rw [if_neg e]; omega
  · rw [hk]; exact a1
  · rw [hk]; exact b1
  · rw [hs]; split <;> assumption
  · rw [hs]; split <;> assumption
/-- The shape of a neighbour, and the tree that it is numbered to. -/
theorem rnear_one (a : Option Addr) (n d c x : Nat) (t : List Nd) (hn : t.length = n) (hok : TreeOk t) (hb : BinT t n) (hS : ∀ v, v < n → (nS t v).size ≤ 9223372036854775807) (h0 : 0 < c) (hc : c < n) (hx : x ∈ famL t n c) :
    (∀ w, Rd w a (fl encNd t) → Calls Tryz.prog 65 #[.slice a n d, .int .i64 0, .int .i64 x, .int .i64 (sibT t n c : Nat)] w (BelOk t (ixL t) (exS t n c x) w)) ∧
    ∀ w0 (y : Rw) (w : World), ShM t (ixL t) (fun b => w0 ≤ b) w (exS t n c x) y → Calls Tryz.prog 64 #[aggE (esOf t (ixL t) (exS t n c x).top y)] w fun e w' => ∃ v, e = .returned v ∧ w'.ownsRow w.heap.size 46 2 v n (fl encNd (nearAt t n c x)) ∧ Below w.heap.size w w' := by
  have hn63 : n ≤ 63 := by have := hok.2.1; omega
  have hN := nni_of hn hok hb h0 hc hx
  obtain ⟨s, hs⟩ := shT_of hn hok hb
  obtain ⟨X, Y, hE⟩ := ex_ok hn hok hb hs hN rfl
  have hlv := tok_lv hn hok
  have hL : (lvT t).Perm (exS t n c x).lvs := by rw [hlv]; exact (hs.lvs hn).trans hE.lvs.symm
  have hmem : ∀ u, u ∈ (exS t n c x).all → u < n := fun u hu => List.mem_range.1 (hE.perm.mem_iff.1 hu)
  have hlen : (exS t n c x).inn + (lvT t).length = n := by
    have h1 := hE.perm.length_eq
    rw [Sh.all_len, List.length_range] at h1
    have h2 := hL.length_eq
    rw [Sh.lvs_inn] at h2
    omega
  constructor
  · intro w hA
    have h := rturned_any a n d x (sibT t n c) t hn hok hS (exS t n c x) hE.sub hmem w hA
    have e : swp x (sibT t n c) (exS t n c x).top = 0 := by
      rw [hE.top]
      unfold swp
      have h1 := hN.xc
      have h2 := hN.yp
      rw [if_neg (by omega), if_neg (by omega)]
    rw [e] at h
    exact h
  · intro w0 y w hsh
    have h := rnumber_any t (ixL t) (lvT t) (exS t n c x) y w (by rw [hlv]; exact lvs_pw t n) hL (fun v hv => ixL_idx hv) (hsh.weak fun b hb _ => hb) (by omega)
    rw [hlen] at h
    have e : numL t (lvT t) (exS t n c x) = nearAt t n c x := by rw [hlv]; rfl
    rw [e] at h
    exact h
/-- Rows of elements of two types lie apart. -/
theorem owns_ne {W : World} {base e k n base' e' k' n' : Nat} {v v' : Value} {xs xs' : List Value} (h : W.ownsRow base e k v n xs) (h' : W.ownsRow base' e' k' v' n' xs') (he : e ≠ e') : v.ownBlock = none ∨ v.ownBlock ≠ v'.ownBlock := by
  rcases h.2 with ⟨rfl, _⟩ | ⟨g, cap, cur, rfl, _, hgb, _⟩
  · exact .inl rfl
  · rcases h'.2 with ⟨rfl, _⟩ | ⟨g', cap', cur', rfl, _, hgb', _⟩
    · exact .inr (fun q => by cases q)
    · refine .inr fun q => he ?_
      have : g = g' := Option.some.inj q
      subst this
      rw [hgb] at hgb'
      cases hgb'
      rfl
theorem own_lenN {W : World} {base e n m : Nat} {v : Value} {T : List Nd} (h : W.ownsRow base e 2 v n (fl encNd T)) (hm : n = m) : T.length = m := by
  have h1 := h.1
  rw [fl_length encNd_len] at h1; omega
set_option maxRecDepth 100000 in
set_option maxHeartbeats 4000000 in
theorem rnear_any (a : Option Addr) (n d : Nat) (t : List Nd) (w : World) (hn : t.length = n) (hok : TreeOk t) (hbin : BinT t n) (hA : Rd w a (fl encNd t)) (hS : ∀ v, v < n → (nS t v).size ≤ 9223372036854775807) :
    Calls Tryz.prog 42 #[.slice a n d] w fun e w' => ∃ v rs, e = .returned v ∧ TsW w' w.heap.size v (nearL t n).length (vT (nearL t n)) rs ∧ Below w.heap.size w w' := by
  have h63 : n ≤ 63 := by have := hok.2.1; omega
  have h1n : 1 ≤ n := by have := hok.1; omega
  have HN := Lib.hid hn
  have HOK := Lib.hid hok
  have HBT := Lib.hid hbin
  have HA := Lib.hid hA
  have HS := Lib.hid hS
  have HNL : Hid ((nearL t n).length = n - 3) := near_len hn hok hbin
  clear hn hok hbin hA hS
  go_enter Tryz.func42, Tryz.ntmps42
  go_wp2_with fail
  go_loopw [3, 4] (fun x y wr => ∃ (c : Nat) (rs : Nat → Rw), 1 ≤ c ∧ c ≤ n ∧ y = .int .i64 c ∧ Hid (TsW wr w.heap.size x (befL t n c).length (vT (nearL t n)) rs) ∧ Hid (Below w.heap.size w wr)) (fun _ y _ => n - (intOf y).toNat)
  case atStart => exact ⟨1, fun _ => (none, 0, 0), by omega, h1n, rfl, TsW.zero _ _ _ _, Below.refl _ _⟩
  case round =>
    obtain ⟨c, rs, hc1, hcn, rfl, hT, hB⟩ := hrel
    by_cases hlt : c < n
    · obtain ⟨p, p1, p2, p3, p4, p5, p6, p7, p8⟩ := sib_sum HN.out HOK.out HBT.out hc1 hlt
      obtain ⟨bt, ot, rfl, hbt, hct⟩ := rdNd HA.out (by rw [HN.out]; omega)
      have G0 := (hct c (by rw [HN.out]; exact hlt)).1
      rw [p1] at G0
      have HG0 : Hid (∀ W : World, Below w.heap.size w W → W.cell? ⟨bt, ot + c * 2, none⟩ = some (.int .i64 p)) := fun W hW => (hW.cell (p := ⟨bt, ot + c * 2, none⟩) hbt).trans G0
      have HSR := Lib.hid hB.out.size
      have HC1 := Lib.hid (rChildren_any (some ⟨bt, ot, none⟩) n d c t wr HN.out HOK.out hlt (HA.out.bl hB.out) HS.out)
      have HC2 := Lib.hid (fun (W : World) (hW : Below w.heap.size w W) => rChildren_any (some ⟨bt, ot, none⟩) n d p t W HN.out HOK.out (by omega) (HA.out.bl hW) HS.out)
      obtain ⟨y, hy⟩ : ∃ y, y = sibT t n c := ⟨_, rfl⟩
      have HY := Lib.hid hy
      obtain ⟨z0, hz0⟩ : ∃ z, z = vA (famL t n p) 0 := ⟨_, rfl⟩
      obtain ⟨z1, hz1⟩ : ∃ z, z = vA (famL t n p) 1 := ⟨_, rfl⟩
      rw [← hy, ← hz0, ← hz1] at p4
      rw [← hz0] at p5
      rw [← hz1] at p6
      rw [← hy] at p7 p8
      have HZ : Hid (z0 = vA (famL t n p) 0 ∧ z1 = vA (famL t n p) 1 ∧ (famL t n p).length = 2) := ⟨hz0, hz1, p3⟩
      obtain ⟨m, hm⟩ : ∃ m, m = (famL t n c).length := ⟨_, rfl⟩
      have HM := Lib.hid hm
      have hm63 : m ≤ n := by rw [hm]; exact famL_le t n c
      rw [← hm] at HC1
      rw [p3] at HC2
      have w1 : IntKind.i64.wrap ((z0 : Int) + (z1 : Int)) = (c : Int) + (y : Int) := by have := wrap_nat ((z0 : Int) + (z1 : Int)) (c + y) (by omega) (by omega); rw [this]; omega
      have w2 : IntKind.i64.wrap ((c : Int) + (y : Int) - (c : Int)) = (y : Int) := wrap_nat _ _ (by omega) (by omega)
      clear hct G0 hy hz0 hz1 hm p1 p3
      go_wp2_with fail
      refine HC1.out.mono ?_
      rintro e wa ⟨xa, rfl, hoa, hba⟩
      obtain ⟨A1, c1, rfl, _⟩ := owns_slice hoa
      have HBA := Lib.hid (bl_trans hB.out hba)
      have HOA := Lib.hid hoa
      have HTA := Lib.hid (hT.out.bl hba)
      have g0 := HG0.out wa HBA.out
      have HC3 := Lib.hid (HC2.out wa HBA.out)
      clear hoa hba HC1 HC2 hT hB
      go_wp2_with fail
      refine HC3.out.mono ?_
      rintro e wb ⟨xb, rfl, hob, hbb⟩
      obtain ⟨A2, c2, rfl, _⟩ := owns_slice hob
      have HBB := Lib.hid (bl_trans HBA.out hbb)
      have HOA2 := Lib.hid (owns_below HOA.out hbb)
      have HTB := Lib.hid (HTA.out.bl hbb)
      obtain ⟨b2, o2, rfl, _, hc2⟩ := rdI (rd_of_owns hob) (by rw [iN_len, HZ.out.2.2]; omega)
      have G1 := hc2 0 (by rw [iN_len, HZ.out.2.2]; omega)
      have G2 := hc2 1 (by rw [iN_len, HZ.out.2.2]; omega)
      rw [iN_get, ← HZ.out.1] at G1
      have G1 : wb.cell? ⟨b2, o2, none⟩ = some (.int .i64 z0) := G1
      rw [iN_get, ← HZ.out.2.1] at G2
      clear hob hbb hc2 HC3 g0 HOA HTA HBA
      go_wp2_with fail
      go_quiet (fail)
      have HQB : Hid (Below wb.heap.size wb (wb.drewN nq)) := bl_drewN (Below.refl _ wb) nq
      obtain ⟨wq, hwq⟩ : ∃ x, x = wb.drewN nq := ⟨_, rfl⟩
      rw [← hwq] at HQB ⊢
      have HTQ := Lib.hid (HTB.out.bl HQB.out)
      have HBQ := Lib.hid (bl_trans HBB.out HQB.out)
      have HOQ := Lib.hid (owns_mono (owns_below HOA2.out HQB.out) HSR.out)
      clear G1 G2 hwq HQB HTB HBB HOA2 w1 w2 p5 p6
      go_wp2_with fail
      have HNR := Lib.hid (fun (i : Nat) (hi : i < m) => rnear_one (some ⟨bt, ot, none⟩) n d c (vA (famL t n c) i) t HN.out HOK.out HBT.out HS.out hc1 hlt (by rw [vA_get (by rw [← HM.out]; exact hi)]; exact List.getElem_mem _))
      rw [← HY.out] at HNR
      have HAT := Lib.hid (fun (i : Nat) (hi : i < m) => near_at (t := t) (n := n) hc1 hlt (by rw [← HM.out]; exact hi : i < (famL t n c).length))
      obtain ⟨K, hK⟩ : ∃ K, K = (befL t n c).length := ⟨_, rfl⟩
      rw [← hK] at HTQ HAT
      have HKE := Lib.hid hK
      clear hK
      go_loopw [3, 10] (fun x z wx => ∃ (i : Nat) (rs' : Nat → Rw), i ≤ m ∧ z = .int .i64 i ∧ Hid (TsW wx w.heap.size x (K + i) (vT (nearL t n)) rs') ∧ Hid (wx.ownsRow w.heap.size 3 1 (.slice A1 m c1) m (fl encI (iN (famL t n c)))) ∧ Hid (Below w.heap.size w wx)) (fun _ z _ => m - (intOf z).toNat)
      case atStart => exact ⟨0, rs, by omega, rfl, HTQ.out, HOQ.out, HBQ.out⟩
      case round =>
        clear HTQ HOQ HBQ
        obtain ⟨i, rs2, him, rfl, hT, HOL, hB⟩ := hrel
        by_cases hlt2 : i < m
        · obtain ⟨b1, o1, rfl, _, hc1'⟩ := rdI (rd_of_owns HOL.out) (by rw [iN_len, ← HM.out]; omega)
          have G := hc1' i (by rw [iN_len, ← HM.out]; exact hlt2)
          rw [iN_get] at G
          obtain ⟨h1, h2⟩ := HNR.out i hlt2
          obtain ⟨k1, k2⟩ := HAT.out i hlt2
          have HK1 := Lib.hid k1
          have HK2 := Lib.hid k2
          have HBX := hB
          have H1 := Lib.hid (h1 wr (HA.out.bl HBX.out))
          have H2 := Lib.hid h2
          obtain ⟨x, hx⟩ : ∃ x, x = vA (famL t n c) i := ⟨_, rfl⟩
          rw [← hx] at G H1 H2 HK2
          clear hc1' h1 h2 k1 k2 hx
          obtain ⟨Av, cv, rfl, _⟩ := owns_slice hT.out.rows
          go_wp2_with fail
          refine H1.out.mono ?_
          rintro e wt ⟨yr, rfl, hsh, hbt'⟩
          have H3 := Lib.hid (H2.out _ yr wt hsh)
          have HBT2 := Lib.hid (bl_trans hB.out hbt')
          have HT2 := Lib.hid (hT.out.bl hbt')
          have HL2 := Lib.hid (owns_below HOL.out hbt')
          clear hsh hbt' H1 H2 G
          go_wp2_with fail
          refine H3.out.mono ?_
          rintro e wn ⟨vn, rfl, hon, hbn⟩
          obtain ⟨An, cn, rfl, _⟩ := owns_slice hon
          have HON := Lib.hid hon
          have HBN := Lib.hid (bl_trans HBT2.out hbn)
          have HTN := Lib.hid (HT2.out.bl hbn)
          have HLN := Lib.hid (owns_below HL2.out hbn)
          have HAP := Lib.hid (HT2.out.apart (x := (An, n, cn)) hon (Nat.le_refl _))
          have hszn : w.heap.size ≤ wn.heap.size := HBN.out.size
          have hszt : w.heap.size ≤ wt.heap.size := HBT2.out.size
          have hKi := HK1.out
          have hNL := HNL.out
          clear hon hbn H3 HBT2 HT2 hT hB HL2 HOL
          go_wp2_with (at_builtin; refine push_T rfl (.tmp 48) (.tmp 57) rfl w.heap.size (.slice Av (K + i) cv) ((List.range (K + i)).map rs2) (K + i) (by simp) rfl (HTN.out.rows.alloc _) _ _ (An, n, cn) rfl (Blk.new _ _ _) (by omega) (by rw [World.size_alloc]; omega) ?_; intro g8 cap8 w8 h81 h82 h83 h84; have H81 := Lib.hid h81; have H82 := Lib.hid h82; have H83 := Lib.hid h83; clear h81 h82 h83)
          have hal := bl_alloc (Below.refl _ wn) (.cells #[.slice An n cn] 25)
          have hlX : (nearAt t n c x).length = n := own_lenN HON.out rfl
          have hp2 := (HTN.out.bl hal).push (v' := .slice (some ⟨g8, 0, none⟩) (K + i + 1) cap8) (x := (An, n, cn)) (X := nearAt t n c x) H81.out H82.out
            (by rcases H83.out with h | h
                · exact .inl h.symm
                · exact .inr (by rw [h]; rfl))
            (by rw [hlX]; exact owns_mono (owns_below HON.out hal) hszt) hlX.symm HAP.out.1 HAP.out.2
          have HT8 : Hid (TsW w8 w.heap.size (.slice (some ⟨g8, 0, none⟩) (K + (i + 1)) cap8) (K + (i + 1)) (vT (nearL t n)) (fun j => if j = K + i then (An, n, cn) else rs2 j)) := hp2.congr fun j hj => by
            by_cases e : j = K + i
            · rw [if_pos e, e, HK2.out]
            · rw [if_neg e]
          have HB8 : Hid (Below w.heap.size w w8) := bl_grown (bl_trans HBN.out hal) H82.out (fun r e => (HTN.out.rows.lt r e).1)
          have HL8 : Hid (w8.ownsRow w.heap.size 3 1 (.slice (some ⟨b1, o1, none⟩) m c1) m (fl encI (iN (famL t n c)))) := (owns_below HLN.out hal).kept H82.out (owns_ne HLN.out HTN.out.rows (by decide))
          clear hal hp2 H81 H82 H83 HON HTN HAP HLN
          go_roundw
          case rel => exact ⟨i + 1, _, by omega, by go_num, HT8, HL8, HB8⟩
          case measure => simp [intOf]; omega
        · obtain rfl : i = m := by omega
          have HE : Hid (K + i = (befL t n (c + 1)).length) := by show _ = _; rw [befL_succ hc1, List.length_append, List.length_map, HKE.out, HM.out]
          have HT2 := Lib.hid hT.out
          rw [HE.out] at HT2
          have HBX := hB
          clear hT HOL hB
          go_wp2_with fail
          go_roundw
          case rel => exact ⟨c + 1, rs2, by omega, by omega, by go_num, HT2, HBX⟩
          case measure => simp [intOf]; omega
    · obtain rfl : c = n := by omega
      have HT2 : Hid (TsW wr w.heap.size u3 (nearL t c).length (vT (nearL t c)) rs) := hT.out
      clear hT
      obtain ⟨Av, cv, rfl, _⟩ := owns_slice HT2.out.rows
      go_wp2_with fail
      go_ret
      exact ⟨_, rs, rfl, HT2.out, hB.out⟩
end Go.Proofs.YtjmnakkkimgifaaGreatDoor
namespace Go.Proofs.YtjmnakkkimgifaaGreatDoor
open Go Go.RowKit Go.Shelf
/-- A list of parents, each before its children. -/
def PsOk (ps : List Int) : Prop := 1 ≤ ps.length ∧ iA ps 0 = -1 ∧ ∀ v, 0 < v → v < ps.length → 0 ≤ iA ps v ∧ iA ps v < v
theorem nd_names (M : Nat) (h : M < 5) : ((List.range 9).all fun v => nmB (ndN M v) && (List.range 9).all fun u => decide (ndN M u = ndN M v) == decide (u = v)) = true := by
  match M, h with
  | 0, _ => decide +kernel
  | 1, _ => decide +kernel
  | 2, _ => decide +kernel
  | 3, _ => decide +kernel
  | 4, _ => decide +kernel
theorem nd_nm {M v : Nat} (h : M < 5) (hv : v < 9) : nmB (ndN M v) = true ∧ ∀ u, u < 9 → (ndN M u = ndN M v ↔ u = v) := by
  have h1 := List.all_eq_true.1 (nd_names M h) v (List.mem_range.2 hv)
  rw [Bool.and_eq_true, List.all_eq_true] at h1
  refine ⟨h1.1, fun u hu => ?_⟩
  have h2 := h1.2 u (List.mem_range.2 hu)
  have h3 : decide (ndN M u = ndN M v) = decide (u = v) := by simpa using h2
  exact decide_eq_decide.1 h3
theorem ndL_len (M : Nat) (ps : List Int) : (ndL M ps).length = ps.length := by simp [ndL]
theorem ndL_at (M : Nat) (ps : List Int) {v : Nat} (hv : v < ps.length) : nP (ndL M ps) v = iA ps v ∧ nS (ndL M ps) v = ndN M v := by
  unfold nP nS ndL
  rw [List.getD_eq_getElem?_getD, List.getElem?_map, List.getElem?_range hv]
  exact ⟨rfl, rfl⟩
theorem ndL_push (M : Nat) (ps : List Int) (p : Int) : ndL M (ps ++ [p]) = ndL M ps ++ [(p, ndN M ps.length)] := by
  have h := ndL_snoc (m := M) (P := ps ++ [p]) (k := ps.length) (by simp)
  rw [List.take_of_length_le (by simp), List.take_left' rfl] at h
  rw [h]
  congr 3
  unfold iA
  rw [List.getD_eq_getElem?_getD, List.getElem?_append_right (Nat.le_refl _), Nat.sub_self]; rfl
theorem mkN_at (ps : List Int) (v : Nat) : nP (mkN ps) v = if v < ps.length then iA ps v else 0 := by
  unfold nP mkN iA
  rw [List.getD_eq_getElem?_getD, List.getElem?_map, List.getD_eq_getElem?_getD]
  by_cases h : v < ps.length
  · rw [if_pos h, List.getElem?_eq_getElem h]; rfl
  · rw [if_neg h, List.getElem?_eq_none (by omega)]; rfl
theorem fam_mkN (M : Nat) (ps : List Int) {n v : Nat} (hn : n ≤ ps.length) : famL (mkN ps) n v = famL (ndL M ps) n v := by
  unfold famL
  refine List.filter_congr fun u hu => ?_
  have hu := List.mem_range.1 hu
  unfold kidB
  rw [mkN_at, if_pos (by omega), (ndL_at M ps (by omega)).1]
theorem nd_tree {M : Nat} {ps : List Int} (hM : M < 5) (hl : ps.length ≤ 9) (h : PsOk ps) : TreeOk (ndL M ps) := by
  obtain ⟨h0, h1, h2⟩ := h
  refine ⟨by rw [ndL_len]; exact h0, by rw [ndL_len]; omega, fun v hv => ?_⟩
  rw [ndL_len] at hv
  obtain ⟨e1, e2⟩ := ndL_at M ps hv
  obtain ⟨n1, n2⟩ := nd_nm hM (show v < 9 by omega)
  unfold NodeOk
  rw [e1, e2]
  refine ⟨?_, ?_, n1, ?_⟩
  · by_cases e : v = 0
    · subst e; rw [h1]; omega
    · exact (h2 v (by omega) hv).2
  · by_cases e : v = 0
    · subst e; rw [if_pos rfl, h1]; omega
    · rw [if_neg e]; exact (h2 v (by omega) hv).1
  · unfold seenB
    rw [List.any_eq_false]
    intro u hu
    have hu := List.mem_range.1 hu
    rw [(ndL_at M ps (show u < ps.length by omega)).2, decide_eq_true_eq]
    intro e
    have := (n2 u (by omega)).1 e
    omega
theorem pair_ext {l l' : List Nd} : l = l' ↔ l.map (·.1) = l'.map (·.1) ∧ l.map (·.2) = l'.map (·.2) := by
  constructor
  · intro h; rw [h]; exact ⟨rfl, rfl⟩
  · rintro ⟨h1, h2⟩
    have hlen : l.length = l'.length := by have := congrArg List.length h1; simpa using this
    refine List.ext_getElem hlen fun i i1 i2 => ?_
    have e1 := List.getElem_of_eq h1 (show i < (l.map (·.1)).length by simpa using i1)
    have e2 := List.getElem_of_eq h2 (show i < (l.map (·.2)).length by simpa using i1)
    rw [List.getElem_map, List.getElem_map] at e1 e2
    exact Prod.ext e1 e2
theorem map_inj_on {f : Nat → ByteArray} {n : Nat} (hf : ∀ u v, u < n → v < n → f u = f v → u = v) : ∀ {l l' : List Nat}, (∀ u, u ∈ l → u < n) → (∀ u, u ∈ l' → u < n) → l.map f = l'.map f → l = l'
  | [], [], _, _, _ => rfl
  | [], _ :: _, _, _, h => by cases h
  | _ :: _, [], _, _, h => by cases h
  | a :: l, b :: l', h1, h2, h => by
    rw [List.map_cons, List.map_cons] at h
    injection h with e1 e2
    rw [hf a b (h1 a List.mem_cons_self) (h2 b List.mem_cons_self) e1, map_inj_on hf (fun u hu => h1 u (List.mem_cons_of_mem _ hu)) (fun u hu => h2 u (List.mem_cons_of_mem _ hu)) e2]
/-- A full list of parents is kept exactly if its tree is numbered well. -/
theorem can_iff {M : Nat} {ps : List Int} (hM : M < 5) (hl : ps.length = 2 * M + 1) (h : PsOk ps) {s : Sh} (hs : ShT (ndL M ps) ps.length s) :
    decide (numL (ndL M ps) (lvT (ndL M ps)) s = ndL M ps) = canB (mkN ps) := by
  obtain ⟨n, hn⟩ : ∃ n, n = ps.length := ⟨_, rfl⟩
  obtain ⟨t, ht⟩ : ∃ t, t = ndL M ps := ⟨_, rfl⟩
  have htl : t.length = n := by rw [ht, ndL_len, hn]
  have hok : TreeOk t := by rw [ht]; exact nd_tree hM (by omega) h
  rw [← hn, ← ht] at hs
  rw [← ht]
  have hlv : lvT t = lvsL t n := tok_lv htl hok
  obtain ⟨L, hL⟩ : ∃ L, L = lvT t := ⟨_, rfl⟩
  rw [← hL]
  have hLp : L.Perm s.lvs := by rw [hL, hlv]; exact hs.lvs htl
  have hLw : L.Pairwise (· < ·) := by rw [hL, hlv]; exact List.Pairwise.filter _ List.pairwise_lt_range
  have hml : (mkN ps).length = n := by rw [hn]; simp [mkN]
  have hfam : famL (mkN ps) n = famL t n := by funext v; rw [ht]; exact fam_mkN M ps (by omega)
  have hsl : s.inn ≤ n := by have := hs.len; rw [Sh.all_len] at this; omega
  have hsD : shD (mkN ps) = s := by
    unfold shD
    rw [hml, hfam]
    have := shF_sub s hs.sub n hsl
    rw [hs.top] at this; exact this
  have hK : lvK (famL (mkN ps) (mkN ps).length) (mkN ps).length = L := by
    rw [hml, hfam, hL, hlv]
    unfold lvK lvsL
    refine List.filter_congr fun v _ => ?_
    unfold leafB
    rw [htl]
  unfold canB
  rw [hK, hsD, ← Bool.decide_and]
  refine decide_eq_decide.2 ?_
  rw [pair_ext]
  have e1 : (numL t L s).map (·.1) = (numL (mkN ps) L s).map (·.1) := by
    unfold numL numS
    simp only [List.map_append, List.map_map]
    rfl
  have e2 : t.map (·.1) = (mkN ps).map (·.1) := by
    rw [ht]
    apply List.ext_getElem?
    intro i
    by_cases hi : i < ps.length
    · have h1 := (ndL_at M ps hi).1
      unfold nP at h1
      rw [List.getD_eq_getElem?_getD] at h1
      simp only [ndL, mkN, List.getElem?_map, List.getElem?_range hi, List.getElem?_eq_getElem hi]
      simp [iA, hi]
    · rw [List.getElem?_eq_none (by rw [List.length_map, ndL_len]; omega), List.getElem?_eq_none (by simp [mkN]; omega)]
  have e3 : (numL t L s).map (·.2) = (s.srt.pre ++ L).map (nS t) := by
    unfold numL numS
    rw [List.map_append, List.map_append, List.map_map, List.map_map, ← Sh.ni_snd s.srt (-1) 0, List.map_map]
    rfl
  have e4 : t.map (·.2) = (List.range n).map (nS t) := by
    apply List.ext_getElem?
    intro i
    by_cases hi : i < n
    · rw [List.getElem?_map, List.getElem?_map, List.getElem?_range hi, List.getElem?_eq_getElem (by omega)]
      simp [nS, htl, hi]
    · rw [List.getElem?_eq_none (by rw [List.length_map]; omega), List.getElem?_eq_none (by simp; omega)]
  rw [e1, e2, e3, e4]
  have hinj : ∀ u v, u < n → v < n → nS t u = nS t v → u = v := fun u v hu hv e => by
    rw [ht, (ndL_at M ps (by omega)).2, (ndL_at M ps (by omega)).2] at e
    exact ((nd_nm hM (show v < 9 by omega)).2 u (by omega)).1 e
  have hsp : s.srt.all.Perm (List.range n) := (Sh.srt_all s).trans hs.perm
  have hLs : L.Perm s.srt.lvs := hLp.trans (Sh.srt_lvs s).symm
  have hperm : (s.srt.pre ++ L).Perm (List.range n) := ((List.Perm.refl _).append hLs).trans ((Sh.pre_all s.srt).trans hsp)
  have hpl : s.srt.pre.length = s.inn := by rw [Sh.pre_len, Sh.srt_inn]
  refine and_congr_right fun _ => ⟨fun e => ?_, fun e => ?_⟩
  · have e5 := map_inj_on hinj (fun u hu => List.mem_range.1 (hperm.mem_iff.1 hu)) (fun u hu => List.mem_range.1 hu) e
    have e6 := congrArg (List.take s.inn) e5
    rw [List.take_left' hpl, List.take_range, Nat.min_eq_left hsl] at e6
    exact e6
  · have hlen := hperm.length_eq
    rw [List.length_append, hpl, List.length_range] at hlen
    have hnd := hperm.nodup_iff.2 List.nodup_range
    have hb : ∀ x, x ∈ L → s.inn ≤ x ∧ x < s.inn + L.length := fun x hx => by
      have h1 := List.mem_range.1 (hperm.mem_iff.1 (List.mem_append_right _ hx))
      refine ⟨?_, by omega⟩
      by_cases q : x < s.inn
      · exact absurd rfl ((List.nodup_append.1 hnd).2.2 x (by rw [e]; exact List.mem_range.2 q) x hx)
      · omega
    have e5 := asc_range L s.inn hLw hb
    rw [e, e5]
    congr 1
    rw [List.range_eq_range', List.range_eq_range', ← hlen, ← List.range'_append_1, Nat.zero_add]
end Go.Proofs.YtjmnakkkimgifaaGreatDoor
namespace Go.Proofs.YtjmnakkkimgifaaGreatDoor
open Go Go.RowKit Go.Shelf
theorem run_oneB (w : World) (a : UInt8) : (convert 90 9 (.slice (some ⟨w.heap.size, 0, none⟩) 1 1)).run Tryz.prog (w.alloc (.cells #[.int .u8 (a.toNat : Int)] 5)) = .ok (.string ⟨#[a]⟩) (w.alloc (.cells #[.int .u8 (a.toNat : Int)] 5)) := by
  refine run_convert_bytes_back _ 90 9 5 ⟨w.heap.size, 0, none⟩ 1 [a] Tryz.underlying90 Tryz.underlying5 Tryz.underlying9 fun j hj => ?_
  have h1 := (Blk.new w #[.int .u8 (a.toNat : Int)] 5).cell j
  rcases j with _ | j
  · simp [Addr.add]
  · simp at hj
set_option maxHeartbeats 1000000 in
theorem rdigit_any (k : Nat) (w : World) (hk : k < 10) : Calls Tryz.prog 72 #[.int .i64 k] w fun e w' => e = .returned (.string ⟨#[UInt8.ofNat (48 + k)]⟩) ∧ Below w.heap.size w w' := by
  have q1 := run_oneB w (UInt8.ofNat (48 + k))
  rw [toNat_dig hk] at q1
  have e48 : ((48 + k : Nat) : Int) = 48 + (k : Int) := by omega
  rw [e48] at q1
  have hb := Lib.hid (bl_alloc (Below.refl _ w) (.cells #[.int .u8 (48 + (k : Int))] 5))
  obtain ⟨s, hs⟩ : ∃ s : ByteArray, s = ⟨#[UInt8.ofNat (48 + k)]⟩ := ⟨_, rfl⟩
  rw [← hs] at q1 ⊢
  clear hs e48
  go_enter Tryz.func72, Tryz.ntmps72
  go_wp2_with fail
  go_ret
  exact ⟨rfl, hb.out⟩
/-- A row whose own block is as it was. -/
theorem owns_same {W W' : World} {base e k n : Nat} {v : Value} {xs : List Value} (h : W.ownsRow base e k v n xs) (hs : W.heap.size ≤ W'.heap.size) (hk : ∀ g, v.ownBlock = some g → W'.heap[g]? = W.heap[g]?) : W'.ownsRow base e k v n xs := by
  refine ⟨h.1, ?_⟩
  rcases h.2 with h2 | ⟨g, cap, cur, rfl, h3, h4, h5⟩
  · exact .inl h2
  · exact .inr ⟨g, cap, cur, rfl, h3, (hk g rfl).trans h4, h5⟩
theorem TsW.same {w w' : World} {base n : Nat} {v : Value} {T : Nat → List Nd} {rs : Nat → Rw} (h : TsW w base v n T rs) (hs : w.heap.size ≤ w'.heap.size) (hk : ∀ g, g < w.heap.size → w'.heap[g]? = w.heap[g]?) : TsW w' base v n T rs :=
  ⟨owns_same h.rows hs (fun g e => hk g (h.rows.lt g e).2), fun i hi => owns_same (h.row i hi) hs (fun g e => hk g ((h.row i hi).lt g e).2), h.len, h.dis, h.far⟩
/-- What trees answers: the list with the trees that go on with ps. -/
def RtPost (M f : Nat) (ps : List Int) (L : List (List Nd)) (base : Nat) (v : Value) (w : World) (e : Ending) (w' : World) : Prop :=
  ∃ v' rs', e = .returned v' ∧ TsW w' base v' (L ++ (rtr (M + 1) f ps).map (ndL M)).length (vT (L ++ (rtr (M + 1) f ps).map (ndL M))) rs' ∧ Below base w w' ∧ base ≤ w'.heap.size ∧
    (∀ b, b < w.heap.size → v.ownBlock ≠ some b → w'.heap[b]? = w.heap[b]?) ∧ (v'.ownBlock = v.ownBlock ∨ ∃ b, v'.ownBlock = some b ∧ w.heap.size ≤ b)
theorem vT_snoc (L : List (List Nd)) (X : List Nd) : ∀ j, j < L.length + 1 → (if j = L.length then X else vT L j) = vT (L ++ [X]) j := fun j hj => by
  unfold vT
  by_cases e : j = L.length
  · rw [if_pos e, e, List.getD_eq_getElem?_getD, List.getElem?_append_right (Nat.le_refl _), Nat.sub_self]; rfl
  · rw [if_neg e, List.getD_eq_getElem?_getD, List.getD_eq_getElem?_getD, List.getElem?_append_left (by omega)]
theorem rtr_len (m : Nat) (hm : m ≤ 5) : ∀ f ps, (rtr m f ps).length ≤ 4 ^ f := by
  intro f
  induction f with
  | zero =>
    intro ps
    show (if _ then [ps] else []).length ≤ 1
    split <;> simp
  | succ f ih =>
    intro ps
    show ((List.range (min (m - 1) ps.length)).flatMap fun p : Nat => rtr m f (ps ++ [(p : Int)])).length ≤ _
    rw [List.length_flatMap]
    have key : ∀ k, ((List.range k).map fun p : Nat => (rtr m f (ps ++ [(p : Int)])).length).sum ≤ k * 4 ^ f := by
      intro k
      induction k with
      | zero => simp
      | succ k ihk =>
        rw [List.range_succ, List.map_append, List.sum_append, List.map_cons, List.map_nil, List.sum_cons, List.sum_nil, Nat.add_mul, Nat.one_mul]
        have := ih (ps ++ [(k : Int)])
        omega
    refine Nat.le_trans (key _) ?_
    rw [Nat.pow_succ, Nat.mul_comm]
    exact Nat.mul_le_mul_left _ (by omega)
end Go.Proofs.YtjmnakkkimgifaaGreatDoor
