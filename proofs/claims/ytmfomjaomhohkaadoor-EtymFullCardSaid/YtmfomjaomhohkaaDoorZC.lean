/- The key of a word. A graph of words in memory: what it owns, what changes and what is kept. What is asked of a graph: made, Len, has, check. A region that draws its order, in which each of the first n operations leaves something good whatever came before it, and the others are forced; edges that do not bind may lead backwards (no program in sight). What is asked of a graph: Find. (Printed by gQC.py.) A graph to which a word was added: what lies in memory. phylo.nodes: the iterator over the nodes and their sets. slices.Clone of sounds, of links, of numbers. What is asked of a graph: At, Links, Find. The words above a word, in the order in which they are found (plain). A row of ints that is cut at its front and grows at its end. A range over an iterator whose elements stand in memory (no program in sight). A range over an iterator that keeps its state in blocks of its own, and that may be left early (no program in sight). -/
import Derived.Test.YtmfomjaomhohkaaDoorZA
import Derived.Test.YtmfomjaomhohkaaDoorZB
import Derived.Lib.UnsafeStr
import Derived.Deep.QuietTactic
import Derived.BigQuiet
import Derived.Laws.Cover3
import Derived.Lib.SliceRun
import Derived.OwnWalk
import Derived.ArgAppend
namespace Go.Proofs.YtmfomjaomhohkaaDoor
open Go Go.RowKit Go.Shelf
def keyW (w : List Sd) : List UInt8 := w.flatMap fun s => 32 :: (Lib.decDigits s.1 ++ 44 :: Lib.decDigits s.2)
def keyL (lang : ByteArray) (w : List Sd) : List UInt8 := Lib.decDigits lang.size ++ 32 :: (lang.data.toList ++ keyW w)
def keyB (lang : ByteArray) (w : List Sd) : ByteArray := ⟨(keyL lang w).toArray⟩
/-- A length is printed here and in all later worlds. -/
def ItAt (w : World) (n : Nat) : Prop := ∀ W, Below w.heap.size w W → Calls Tryd.prog 53 #[.int .i64 n] W fun e W' => e = .returned (.string (fmtU n)) ∧ Below W.heap.size W W'
theorem ItAt.small (w : World) {n : Nat} (h : n < 100) : ItAt w n := fun W _ => (Tryd.strconv_Itoa_small n h W).mono (by rintro e W' ⟨rfl, rfl⟩; exact ⟨rfl, Below.refl _ _⟩)
theorem ItAt.bl {w w' : World} {n : Nat} (h : ItAt w n) (hb : Below w.heap.size w w') : ItAt w' n := fun W hW => h W (bl_trans hb hW)
theorem nDig_le : ∀ (k n : Nat), n < 10 ^ (k + 1) → Lib.nDigits n ≤ k + 1
  | 0, n, h => by rw [Lib.nDigits_small (by simpa using h)]; omega
  | k + 1, n, h => by
    by_cases q : n < 10
    · rw [Lib.nDigits_small q]; omega
    · rw [Lib.nDigits_big q]
      have := nDig_le k (n / 10) (by rw [Nat.pow_succ] at h; omega)
      omega
theorem dig_le {n : Nat} (h : n < 4294967296) : (Lib.decDigits n).length ≤ 10 := by
  rw [Lib.decDigits_length]; exact nDig_le 9 n (by omega)
theorem fmtU_le {n : Nat} (h : n < 4294967296) : (fmtU n).size ≤ 10 := dig_le h
theorem keyW_le {w : List Sd} (h : FitS w) : (keyW w).length ≤ 22 * w.length := by
  have key : ∀ l : List Sd, (∀ s ∈ l, s.1 < 4294967296 ∧ s.2 < 4294967296) → (keyW l).length ≤ 22 * l.length := by
    intro l
    induction l with
    | nil => intro _; simp [keyW]
    | cons s l ih =>
      intro h
      have h1 := h s (by simp)
      have h2 := ih fun t ht => h t (by simp [ht])
      have h3 := dig_le h1.1
      have h4 := dig_le h1.2
      unfold keyW at h2 ⊢
      simp only [List.flatMap_cons, List.length_append, List.length_cons] at h2 ⊢
      omega
  refine key w fun s hs => ?_
  obtain ⟨i, hi, rfl⟩ := List.getElem_of_mem hs
  have := h i hi
  unfold sP sM at this
  rwa [List.getD_eq_getElem?_getD, List.getElem?_eq_getElem hi] at this
theorem keyW_snoc (w : List Sd) (i : Nat) (h : i < w.length) : keyW (w.take (i + 1)) = keyW (w.take i) ++ (32 :: (Lib.decDigits (sP w i) ++ 44 :: Lib.decDigits (sM w i))) := by
  unfold keyW
  rw [List.take_add_one, List.getElem?_eq_getElem h, List.flatMap_append]
  simp [sP, sM, h]
def dsK : List Nat := [21, 22, 23, 24, 25, 26, 27, 28, 29, 30, 31]
def GdK (X : Nat) (p m : Nat) (s3 s4 s5 s9 s10 : ByteArray) : Nat → Value → Prop
  | 0, v => v = .pointer (some ⟨X, 0, none⟩)
  | 1, v => v = .int .u32 p
  | 2, v => v = .int .u64 p
  | 3, v => v = .string s3
  | 4, v => v = .string s4
  | 5, v => v = .string s5
  | 6, v => v = .pointer (some ⟨X, 1, none⟩)
  | 7, v => v = .int .u32 m
  | 8, v => v = .int .u64 m
  | 9, v => v = .string s9
  | 10, v => v = .string s10
  | _, _ => True
def GdKW (X : Nat) (p m : Nat) (s3 s4 s5 s9 s10 : ByteArray) (k : Nat) (v : Value) (_ : World) : Prop := GdK X p m s3 s4 s5 s9 s10 k v
theorem BuilderAt_bl {T e : TypeId} {B b : Nat} {p : Value} {bs : List Value} {w w' : World} (h : Lib.BuilderAt T e B b p bs w) (hb : Below w.heap.size w w') : Lib.BuilderAt T e B b p bs w' := by
  have hl := h.lt
  obtain ⟨h1, v, h2, h3, h4⟩ := h
  exact ⟨h1, v, (hb.block b hl).trans h2, owns_below h3 hb, h4⟩
set_option maxHeartbeats 4000000 in
set_option maxRecDepth 100000 in
theorem key_any (lang : ByteArray) (a : Option Addr) (n c : Nat) (l : List Sd) (w : World) (hl : lang.size ≤ 1048576) (hI : ItAt w lang.size) (hln : n = l.length) (hn : n ≤ 1048576) (hA : Rd w a (fl encSd l)) (hF : FitS l) (hP : ∀ i, i < n → FmtAt w (sP l i) ∧ FmtAt w (sM l i)) :
    Calls Tryd.prog 43 #[.string lang, .slice a n c] w fun e w' => e = .returned (.string (keyB lang l)) ∧ Below w.heap.size w w' := by
  have HI := Lib.hid hI
  have HLN : Hid (l.length = n) := hln.symm
  have HA := Lib.hid hA
  have HF := Lib.hid hF
  have HP := Lib.hid hP
  obtain ⟨B, hB⟩ : ∃ B, B = w.heap.size := ⟨_, rfl⟩
  have HKL := Lib.hid (keyW_le hF)
  have hB0 := bl_alloc (Below.refl _ w) (.cells #[.pointer none, .slice none 0 0] 105)
  have hI0 := Lib.fresh_isBuilder 105 5 w
  have HB0 := Lib.hid hB0
  have HI0 := Lib.hid hI0
  have zf : (fmtU lang.size).size ≤ 10 := fmtU_le (by omega)
  have nb1 : ¬ 9223372036854775807 < (fmtU lang.size).size + 1 := by omega
  have nb2 : ¬ 9223372036854775807 < (fmtU lang.size).size + 1 + lang.size := by omega
  have hs3l : (fmtU lang.size ++ (⟨#[32]⟩ : ByteArray) ++ lang).data.toList = Lib.decDigits lang.size ++ 32 :: lang.data.toList := by simp [fmtU]
  have hs3z : (fmtU lang.size ++ (⟨#[32]⟩ : ByteArray) ++ lang).size ≤ 1048587 := by
    rw [ByteArray.size_append, ByteArray.size_append]; show (fmtU lang.size).size + 1 + _ ≤ _; omega
  have HS3 := Lib.hid hs3l
  have HZ3 := Lib.hid hs3z
  clear hI hln hA hF hP zf hs3l hs3z hB0 hI0
  go_enter Tryd.func43, Tryd.ntmps43
  go_wp2_with first | fail | (refine (HI.out _ (by first | exact HB0.out)).mono ?_; rintro e w1 ⟨rfl, hb1⟩; have HB1 := Lib.hid hb1; clear hb1)
  obtain ⟨s3, hs3⟩ : ∃ s, s = fmtU lang.size ++ (⟨#[32]⟩ : ByteArray) ++ lang := ⟨_, rfl⟩
  rw [← hs3] at HS3 HZ3 ⊢
  have hi1 : Lib.IsBuilder 105 5 w.heap.size w.heap.size [] w1 := HI0.out.imp (fun h => BuilderAt_bl h HB1.out) (fun h => BuilderAt_bl h HB1.out)
  have hbw1 : Below w.heap.size w w1 := bl_trans HB0.out HB1.out
  have HBW1 := Lib.hid hbw1
  refine (writeString_any w.heap.size w.heap.size [] s3 w1 hi1 (by have := HZ3.out; simp; omega) hbw1.size).mono ?_
  rintro e w2 ⟨rfl, hi2, hb2⟩
  have hbw2 : Below w.heap.size w w2 := hbw1.trans hb2
  have hk2 : Lib.BuilderAt 105 5 w.heap.size w.heap.size (.pointer (some ⟨w.heap.size, 0, none⟩)) (Lib.byteCells (Lib.decDigits lang.size ++ 32 :: (lang.data.toList ++ keyW (l.take 0)))) w2 := by
    have e : Lib.byteCells (Lib.decDigits lang.size ++ 32 :: (lang.data.toList ++ keyW (l.take 0))) = [] ++ Lib.strCells s3 := by
      rw [Lib.strCells_eq, HS3.out]; simp [keyW]
    rw [e]; exact hi2
  have HK2 := Lib.hid hk2
  have HB2 := Lib.hid hbw2
  have HZB : Hid (∀ i, (Lib.byteCells (Lib.decDigits lang.size ++ 32 :: (lang.data.toList ++ keyW (l.take i)))).length ≤ 33554432) := fun i => by
    rw [Lib.byteCells_length]
    have h1 : (keyW (l.take i)).length ≤ 22 * n := by
      have h2 : FitS (l.take i) := fun j hj => by
        have hj' : j < l.length := by rw [List.length_take] at hj; omega
        have h3 := HF.out j hj'
        unfold sP sM at h3 ⊢
        rw [List.length_take] at hj
        have e : (l.take i).getD j (0, 0) = l.getD j (0, 0) := by
          rw [List.getD_eq_getElem?_getD, List.getD_eq_getElem?_getD, List.getElem?_take, if_pos (by omega)]
        rw [e]; exact h3
      have h4 := keyW_le h2
      rw [List.length_take, HLN.out] at h4
      omega
    have h5 := dig_le (show lang.size < 4294967296 by omega)
    have h6 : lang.data.toList.length = lang.size := rfl
    simp only [List.length_append, List.length_cons]
    omega
  clear hi2 hb2 hbw2 hk2 hbw1 hi1 HB1 HBW1 HI0 HS3 HZ3 hs3 nb1 nb2
  go_wp2_with fail
  go_loopw [17] (fun x wr => ∃ i : Nat, i ≤ n ∧ x = .int .i64 i ∧ Hid (Lib.BuilderAt 105 5 w.heap.size w.heap.size (.pointer (some ⟨w.heap.size, 0, none⟩)) (Lib.byteCells (Lib.decDigits lang.size ++ 32 :: (lang.data.toList ++ keyW (l.take i)))) wr) ∧ Hid (Below w.heap.size w wr)) (fun x _ => n - (intOf x).toNat)
  case atStart => exact ⟨0, by omega, rfl, HK2, HB2⟩
  case round =>
    clear HK2 HB2
    obtain ⟨i, hi, rfl, hK, hB⟩ := hrel
    by_cases hlt : i < n
    · obtain ⟨ba, oa, rfl, hba, hca⟩ := rdSd (HA.out.bl hB.out) (by rw [HLN.out]; omega)
      obtain ⟨c0, c1⟩ := hca i (by rw [HLN.out]; exact hlt)
      have hf := HF.out i (by rw [HLN.out]; exact hlt)
      have hp := HP.out i hlt
      have hsn := keyW_snoc l i (by rw [HLN.out]; exact hlt)
      obtain ⟨p, hpe⟩ : ∃ p, p = sP l i := ⟨_, rfl⟩
      obtain ⟨m, hme⟩ : ∃ m, m = sM l i := ⟨_, rfl⟩
      rw [← hpe, ← hme] at hf hp hsn
      rw [← hpe] at c0
      rw [← hme] at c1
      have HP1 := Lib.hid hp.1
      have HP2 := Lib.hid hp.2
      have HSN := Lib.hid hsn
      have wp : IntKind.u64.wrap (p : Int) = (p : Int) := by rw [IntKind.wrap_u64]; omega
      have wm : IntKind.u64.wrap (m : Int) = (m : Int) := by rw [IntKind.wrap_u64]; omega
      have fz1 := fmtU_le hf.1
      have fz2 := fmtU_le hf.2
      obtain ⟨s4, hs4⟩ : ∃ s, s = (⟨#[32]⟩ : ByteArray) ++ fmtU p := ⟨_, rfl⟩
      obtain ⟨s5, hs5⟩ : ∃ s, s = s4 ++ (⟨#[44]⟩ : ByteArray) := ⟨_, rfl⟩
      obtain ⟨s10, hs10⟩ : ∃ s, s = s5 ++ fmtU m := ⟨_, rfl⟩
      have y4 : s4.size ≤ 11 := by rw [hs4, ByteArray.size_append]; show 1 + _ ≤ 11; omega
      have y5 : s5.size ≤ 12 := by rw [hs5, ByteArray.size_append]; show _ + 1 ≤ 12; omega
      have y10 : s10.size ≤ 22 := by rw [hs10, ByteArray.size_append]; omega
      have had4 : ∀ W, (Op.stringOp .add (⟨#[32]⟩ : ByteArray) (fmtU p)).run Tryd.prog W = .ok (.string s4) W := fun W => by rw [hs4]; exact run_string_add_sum W _ _ (by show 1 + _ ≤ _; omega)
      have had5 : ∀ W, (Op.stringOp .add s4 (⟨#[44]⟩ : ByteArray)).run Tryd.prog W = .ok (.string s5) W := fun W => by rw [hs5]; exact run_string_add_sum W _ _ (by show _ + 1 ≤ _; omega)
      have had10 : ∀ W, (Op.stringOp .add s5 (fmtU m)).run Tryd.prog W = .ok (.string s10) W := fun W => by rw [hs10]; exact run_string_add_sum W _ _ (by omega)
      have h10 : s10.data.toList = 32 :: (Lib.decDigits p ++ 44 :: Lib.decDigits m) := by rw [hs10, hs5, hs4]; simp [fmtU]
      have H10 := Lib.hid h10
      have Z10 := Lib.hid y10
      clear hca hpe hme hp hsn hs4 hs5 hs10 y4 y5 y10 h10 fz1 fz2 hf
      go_upto_region 6 with fail
      have hbx := bl_alloc (Below.refl _ wr) (.cells #[.int .u32 p, .int .u32 m] 57)
      have hXb := Blk.new wr #[.int .u32 p, .int .u32 m] 57
      obtain ⟨X, hX⟩ : ∃ x, x = wr.heap.size := ⟨_, rfl⟩
      obtain ⟨w2, hw2⟩ : ∃ x, x = wr.alloc (.cells #[.int .u32 p, .int .u32 m] 57) := ⟨_, rfl⟩
      rw [← hX, ← hw2] at hXb
      rw [← hw2] at hbx
      rw [← hX, ← hw2]
      have hbd := bl_drewN (Below.refl w2.heap.size w2) 1
      have HXD := Lib.hid (hXb.below hbd)
      have HBW := Lib.hid (bl_trans hbx hbd)
      have HBX := Lib.hid (bl_trans hB.out (bl_trans hbx hbd))
      have hXl : X < w2.drew.heap.size := HXD.out.lt
      clear hbx hXb hw2 hX hbd
      refine wp_region_goodT 11 dsK (GdKW X p m (fmtU p) s4 s5 (fmtU m) s10) (fun a b => Below a.heap.size a b) rfl (by kernel_rfl) (Below.refl _ _) (fun a b c => bl_trans) (fun k v W W' h hb => h) ?_ ?_
      · intro a0 ops0 ha0 ho
        have z : a0.tmps.size = 35 := by rw [ha0]; rfl
        have z7 : a0.tmps.getD 7 undef = .pointer (some ⟨X, 0, none⟩) := by rw [ha0]; rfl
        clear ha0
        refine ⟨fun u W hW hg => ?_, ?_⟩
        · refine good_run (d := 21) (v := .pointer (some ⟨X, 0, none⟩)) (w' := W) (by rw [ho]; rfl) rfl rfl rfl rfl ?_ ⟨rfl, Below.refl _ _⟩
          have q1 : (frmV a0 u dsK).eval (.tmp 7) = a0.tmps.getD 7 undef := frmV_out (by rw [z]; decide) rfl
          rw [z7] at q1
          revert q1
          generalize (frmV a0 u dsK).eval = ρ
          intro q1
          simp [execOp, go_sem, q1]
        refine ⟨fun u W hW hg => ?_, ?_⟩
        · have G : u 21 = .pointer (some ⟨X, 0, none⟩) := hg 0 (by decide)
          have g1 : W.cell? ⟨X, 0, none⟩ = some (.int .u32 p) := (hW.cell (p := ⟨X, 0, none⟩) hXl).trans (HXD.out.cell 0)
          refine good_run (d := 22) (v := .int .u32 p) (w' := W) (by rw [ho]; rfl) rfl rfl rfl rfl ?_ ⟨rfl, Below.refl _ _⟩
          have q1 : (frmV a0 u dsK).eval (.tmp 21) = u 21 := frmV_in (by rw [z]; decide) rfl
          rw [G] at q1
          revert q1
          generalize (frmV a0 u dsK).eval = ρ
          intro q1
          simp [execOp, go_sem, q1, g1]
        refine ⟨fun u W hW hg => ?_, ?_⟩
        · have G : u 22 = .int .u32 p := hg 1 (by decide)
          refine good_run (d := 23) (v := .int .u64 p) (w' := W) (by rw [ho]; rfl) rfl rfl rfl rfl ?_ ⟨rfl, Below.refl _ _⟩
          have q1 : (frmV a0 u dsK).eval (.tmp 22) = u 22 := frmV_in (by rw [z]; decide) rfl
          rw [G] at q1
          revert q1
          generalize (frmV a0 u dsK).eval = ρ
          intro q1
          simp [execOp, go_sem, q1, wp]
        refine ⟨fun u W hW hg => ?_, ?_⟩
        · have G : u 23 = .int .u64 p := hg 2 (by decide)
          have q1 : (frmV a0 u dsK).eval (.tmp 23) = u 23 := frmV_in (by rw [z]; decide) rfl
          rw [G] at q1
          refine good_call (d := 24) (f := 54) (args := #[.int .u64 p, .int .i64 10]) (by rw [ho]; rfl) rfl rfl rfl rfl ?_ ((HP1.out W (bl_trans HBX.out hW)).mono ?_)
          · have q2 : (frmV a0 u dsK).eval (.func 54) = .func (.func 54) #[] #[] := rfl
            have q3 : (frmV a0 u dsK).eval (.const (.int .i64 10)) = .int .i64 10 := rfl
            revert q1 q2 q3
            generalize (frmV a0 u dsK).eval = ρ
            intro q1 q2 q3
            simp [execOp, go_sem, q1, q2, q3]
          · rintro e W' ⟨rfl, hb⟩
            exact ⟨_, rfl, rfl, hb⟩
        refine ⟨fun u W hW hg => ?_, ?_⟩
        · have G24 : u 24 = .string (fmtU p) := hg 3 (by decide)
          have q24 : (frmV a0 u dsK).eval (.tmp 24) = u 24 := frmV_in (by rw [z]; decide) rfl
          rw [G24] at q24
          refine good_run (d := 25) (v := .string s4) (w' := W) (by rw [ho]; rfl) rfl rfl rfl rfl ?_ ⟨rfl, Below.refl _ _⟩
          have z1 := had4 W
          have c1 : (frmV a0 u dsK).eval (.const (.string ⟨#[32]⟩)) = .string ⟨#[32]⟩ := rfl
          have c2 : (frmV a0 u dsK).eval (.const (.string ⟨#[44]⟩)) = .string ⟨#[44]⟩ := rfl
          revert q24 z1 c1 c2
          generalize (frmV a0 u dsK).eval = ρ
          intro q24 z1 c1 c2
          simp [execOp, go_sem, c1, z1, q24]
        refine ⟨fun u W hW hg => ?_, ?_⟩
        · have G25 : u 25 = .string s4 := hg 4 (by decide)
          have q25 : (frmV a0 u dsK).eval (.tmp 25) = u 25 := frmV_in (by rw [z]; decide) rfl
          rw [G25] at q25
          refine good_run (d := 26) (v := .string s5) (w' := W) (by rw [ho]; rfl) rfl rfl rfl rfl ?_ ⟨rfl, Below.refl _ _⟩
          have z1 := had5 W
          have c1 : (frmV a0 u dsK).eval (.const (.string ⟨#[32]⟩)) = .string ⟨#[32]⟩ := rfl
          have c2 : (frmV a0 u dsK).eval (.const (.string ⟨#[44]⟩)) = .string ⟨#[44]⟩ := rfl
          revert q25 z1 c1 c2
          generalize (frmV a0 u dsK).eval = ρ
          intro q25 z1 c1 c2
          simp [execOp, go_sem, c2, z1, q25]
        refine ⟨fun u W hW hg => ?_, ?_⟩
        · refine good_run (d := 27) (v := .pointer (some ⟨X, 1, none⟩)) (w' := W) (by rw [ho]; rfl) rfl rfl rfl rfl ?_ ⟨rfl, Below.refl _ _⟩
          have q1 : (frmV a0 u dsK).eval (.tmp 7) = a0.tmps.getD 7 undef := frmV_out (by rw [z]; decide) rfl
          rw [z7] at q1
          revert q1
          generalize (frmV a0 u dsK).eval = ρ
          intro q1
          simp [execOp, go_sem, q1]
        refine ⟨fun u W hW hg => ?_, ?_⟩
        · have G : u 27 = .pointer (some ⟨X, 1, none⟩) := hg 6 (by decide)
          have g1 : W.cell? ⟨X, 1, none⟩ = some (.int .u32 m) := (hW.cell (p := ⟨X, 1, none⟩) hXl).trans (HXD.out.cell 1)
          refine good_run (d := 28) (v := .int .u32 m) (w' := W) (by rw [ho]; rfl) rfl rfl rfl rfl ?_ ⟨rfl, Below.refl _ _⟩
          have q1 : (frmV a0 u dsK).eval (.tmp 27) = u 27 := frmV_in (by rw [z]; decide) rfl
          rw [G] at q1
          revert q1
          generalize (frmV a0 u dsK).eval = ρ
          intro q1
          simp [execOp, go_sem, q1, g1]
        refine ⟨fun u W hW hg => ?_, ?_⟩
        · have G : u 28 = .int .u32 m := hg 7 (by decide)
          refine good_run (d := 29) (v := .int .u64 m) (w' := W) (by rw [ho]; rfl) rfl rfl rfl rfl ?_ ⟨rfl, Below.refl _ _⟩
          have q1 : (frmV a0 u dsK).eval (.tmp 28) = u 28 := frmV_in (by rw [z]; decide) rfl
          rw [G] at q1
          revert q1
          generalize (frmV a0 u dsK).eval = ρ
          intro q1
          simp [execOp, go_sem, q1, wm]
        refine ⟨fun u W hW hg => ?_, ?_⟩
        · have G : u 29 = .int .u64 m := hg 8 (by decide)
          have q1 : (frmV a0 u dsK).eval (.tmp 29) = u 29 := frmV_in (by rw [z]; decide) rfl
          rw [G] at q1
          refine good_call (d := 30) (f := 54) (args := #[.int .u64 m, .int .i64 10]) (by rw [ho]; rfl) rfl rfl rfl rfl ?_ ((HP2.out W (bl_trans HBX.out hW)).mono ?_)
          · have q2 : (frmV a0 u dsK).eval (.func 54) = .func (.func 54) #[] #[] := rfl
            have q3 : (frmV a0 u dsK).eval (.const (.int .i64 10)) = .int .i64 10 := rfl
            revert q1 q2 q3
            generalize (frmV a0 u dsK).eval = ρ
            intro q1 q2 q3
            simp [execOp, go_sem, q1, q2, q3]
          · rintro e W' ⟨rfl, hb⟩
            exact ⟨_, rfl, rfl, hb⟩
        refine ⟨fun u W hW hg => ?_, trivial⟩
        · have G26 : u 26 = .string s5 := hg 5 (by decide)
          have q26 : (frmV a0 u dsK).eval (.tmp 26) = u 26 := frmV_in (by rw [z]; decide) rfl
          rw [G26] at q26
          have G30 : u 30 = .string (fmtU m) := hg 9 (by decide)
          have q30 : (frmV a0 u dsK).eval (.tmp 30) = u 30 := frmV_in (by rw [z]; decide) rfl
          rw [G30] at q30
          refine good_run (d := 31) (v := .string s10) (w' := W) (by rw [ho]; rfl) rfl rfl rfl rfl ?_ ⟨rfl, Below.refl _ _⟩
          have z1 := had10 W
          have c1 : (frmV a0 u dsK).eval (.const (.string ⟨#[32]⟩)) = .string ⟨#[32]⟩ := rfl
          have c2 : (frmV a0 u dsK).eval (.const (.string ⟨#[44]⟩)) = .string ⟨#[44]⟩ := rfl
          revert q26 q30 z1 c1 c2
          generalize (frmV a0 u dsK).eval = ρ
          intro q26 q30 z1 c1 c2
          simp [execOp, go_sem, z1, q26, q30]
      · intro u W hW hg
        have e10 : u 31 = .string s10 := hg 10 (by decide)
        have HK2 : Hid (Lib.BuilderAt 105 5 w.heap.size w.heap.size (.pointer (some ⟨w.heap.size, 0, none⟩)) (Lib.byteCells (Lib.decDigits lang.size ++ 32 :: (lang.data.toList ++ keyW (l.take i)))) W) := BuilderAt_bl (BuilderAt_bl hK.out HBW.out) hW
        have HBU : Hid (Below w.heap.size w W) := bl_trans HBX.out hW
        clear hg hW hK
        simp only [dsK, frmV, Act.put, List.setIfInBounds_toArray, List.set_cons_zero, List.set_cons_succ]
        rw [e10]
        clear e10
        simp only [List.drop_succ_cons, List.drop_zero]
        go_wp2_with fail
        refine (writeString_any w.heap.size w.heap.size _ s10 W (.inr HK2.out) (by have := HZB.out i; have := Z10.out; omega) HBU.out.size).mono ?_
        rintro e w3 ⟨rfl, hi3, hb3⟩
        have hbw3 : Below w.heap.size w w3 := HBU.out.trans hb3
        have hk3 : Lib.BuilderAt 105 5 w.heap.size w.heap.size (.pointer (some ⟨w.heap.size, 0, none⟩)) (Lib.byteCells (Lib.decDigits lang.size ++ 32 :: (lang.data.toList ++ keyW (l.take (i + 1))))) w3 := by
          have e : Lib.byteCells (Lib.decDigits lang.size ++ 32 :: (lang.data.toList ++ keyW (l.take (i + 1)))) = Lib.byteCells (Lib.decDigits lang.size ++ 32 :: (lang.data.toList ++ keyW (l.take i))) ++ Lib.strCells s10 := by
            rw [Lib.strCells_eq, H10.out, HSN.out, ← Lib.byteCells_append]; simp
          rw [e]; exact hi3
        have HK3 := Lib.hid hk3
        have HBW3 := Lib.hid hbw3
        clear hi3 hb3 hbw3 hk3 HK2 HBU
        have hw1 : IntKind.i64.wrap ((i : Int) + 1) = ((i + 1 : Nat) : Int) := wrap_nat _ _ (by omega) (by omega)
        go_wp2_with fail
        refine NoPanic.normal ?_
        go_wp2_with fail
        exact ⟨⟨i + 1, by omega, by rw [Int.natCast_succ], HK3, HBW3⟩, by simp only [intOf]; omega⟩
    · obtain rfl : i = n := by omega
      have HKE : Hid (Lib.IsBuilder 105 5 w.heap.size w.heap.size (Lib.byteCells (keyL lang l)) wr) := by
        have h := hK.out
        rw [← HLN.out, List.take_length] at h
        exact .inr h
      have hs := hB.out.size
      have HST := Lib.hid (Tryd.Builder_String_any w.heap.size w.heap.size (keyL lang l) wr HKE.out hs)
      clear hK HKE hs
      go_wp2_with fail
      refine HST.out.mono ?_
      rintro e w3 ⟨rfl, hb3⟩
      have HB3 := Lib.hid (hB.out.trans hb3)
      clear hb3 HST hB
      go_wp2_with fail
      go_ret
      exact ⟨rfl, HB3.out⟩
end Go.Proofs.YtmfomjaomhohkaaDoor
namespace Go.Proofs.YtmfomjaomhohkaaDoor
open Go Go.RowKit Go.Shelf Go.Maps
/-- Only blocks of O changed. -/
structure Keeps (O : Nat → Prop) (w w' : World) : Prop where
  os : w'.os = w.os
  tape : w'.tape = w.tape
  output : w'.output = w.output
  size : w.heap.size ≤ w'.heap.size
  block : ∀ k, k < w.heap.size → ¬ O k → w'.heap[k]? = w.heap[k]?
theorem Keeps.refl (O : Nat → Prop) (w : World) : Keeps O w w := ⟨rfl, rfl, rfl, Nat.le_refl _, fun _ _ _ => rfl⟩
theorem Keeps.of_below {O : Nat → Prop} {w w' : World} (h : Below w.heap.size w w') : Keeps O w w' := ⟨h.os, h.tape, h.output, h.size, fun k hk _ => h.block k hk⟩
theorem Keeps.of_grown {O : Nat → Prop} {w w' : World} {row : Option Nat} (h : w.grownBy w' row) (hO : ∀ k, row = some k → O k) : Keeps O w w' := ⟨h.os, h.tape, h.output, h.size, fun k hk hn => h.block k hk fun e => hn (hO k e.symm)⟩
theorem Keeps.of_set {O : Nat → Prop} (w : World) (b o : Nat) (v : Value) (hO : O b) : Keeps O w (w.setCell ⟨b, o, none⟩ v) := ⟨rfl, rfl, rfl, by simp, fun k _ hn => heap_setCell_other w ⟨b, o, none⟩ k v fun e => hn (by have e' : k = b := e; rw [e']; exact hO)⟩
theorem Keeps.trans {O O' : Nat → Prop} {a b c : World} (h : Keeps O a b) (k : Keeps O' b c) (hO : ∀ x, O' x → O x ∨ a.heap.size ≤ x) : Keeps O a c :=
  ⟨k.os.trans h.os, k.tape.trans h.tape, k.output.trans h.output, Nat.le_trans h.size k.size, fun x hx hn => (k.block x (Nat.lt_of_lt_of_le hx h.size) fun e => (hO x e).elim hn (fun h2 => by omega)).trans (h.block x hx hn)⟩
theorem Keeps.mono {O O' : Nat → Prop} {a b : World} (h : Keeps O a b) (hO : ∀ x, x < a.heap.size → O x → O' x) : Keeps O' a b := ⟨h.os, h.tape, h.output, h.size, fun x hx hn => h.block x hx fun e => hn (hO x hx e)⟩
theorem Keeps.bl {O : Nat → Prop} {a w w' : World} (h : Below a.heap.size a w) (k : Keeps O w w') (hO : ∀ x, O x → a.heap.size ≤ x) : Below a.heap.size a w' :=
  ⟨k.os.trans h.os, k.tape.trans h.tape, k.output.trans h.output, Nat.le_trans h.size k.size, fun x hx => (k.block x (Nat.lt_of_lt_of_le hx h.size) fun e => by have := hO x e; omega).trans (h.block x hx)⟩
theorem owns_at {W W' : World} {base e k n : Nat} {v : Value} {xs : List Value} (h : W.ownsRow base e k v n xs) (hk : ∀ g, v.ownBlock = some g → W'.heap[g]? = W.heap[g]?) : W'.ownsRow base e k v n xs := by
  refine ⟨h.1, ?_⟩
  rcases h.2 with h2 | ⟨g, cap, cur, rfl, h3, h4, h5⟩
  · exact .inl h2
  · exact .inr ⟨g, cap, cur, rfl, h3, (hk g rfl).trans h4, h5⟩
theorem owns_kp {O : Nat → Prop} {W W' : World} {base e k n : Nat} {v : Value} {xs : List Value} (h : W.ownsRow base e k v n xs) (hk : Keeps O W W') (hO : ∀ g, v.ownBlock = some g → ¬ O g) : W'.ownsRow base e k v n xs := owns_at h fun g e => hk.block g (h.lt g e).2 (hO g e)
theorem Blk.kp {O : Nat → Prop} {W W' : World} {B : Nat} {cs : Array Value} {t : TypeId} (h : Blk W B cs t) (hk : Keeps O W W') (hO : ¬ O B) : Blk W' B cs t := (hk.block B h.lt hO).trans h
theorem MH.at {w w' : World} {b n : Nat} {F : ByteArray → Int} {G : ByteArray → Bool} (h : MH w b n F G) (hb : w'.heap[b]? = w.heap[b]?) : MH w' b n F G := by
  obtain ⟨D, ⟨es, clock, h1, h2⟩, h3⟩ := h
  exact ⟨D, ⟨es, clock, hb.trans h1, h2⟩, h3⟩
theorem MH.kp {O : Nat → Prop} {w w' : World} {b n : Nat} {F : ByteArray → Int} {G : ByteArray → Bool} (h : MH w b n F G) (hk : Keeps O w w') (hO : ¬ O b) : MH w' b n F G := h.at (hk.block b h.lt hO)
theorem Rd.kp {O : Nat → Prop} {w w' : World} {a : Option Addr} {cs : List Value} (h : Rd w a cs) (hk : Keeps O w w') (hO : ∀ b o s, a = some ⟨b, o, s⟩ → ¬ O b) : Rd w' a cs := fun h0 => by
  obtain ⟨b, o, e, hb, hc⟩ := h h0
  have h1 := hk.block b hb (hO b o none e)
  refine ⟨b, o, e, Nat.lt_of_lt_of_le hb hk.size, fun i hi => ?_⟩
  rw [World.cell?_of_block (w := w) (w' := w') (a := ⟨b, o + i, none⟩) h1]
  exact hc i hi
/-- What the map answers. -/
def gG (ks : List ByteArray) (s : ByteArray) : Bool := ks.any fun t => decide (t = s)
def gF (ks : List ByteArray) (s : ByteArray) : Int := if gG ks s = true then ((ks.findIdx (fun t => decide (t = s)) : Nat) : Int) else 0
theorem gG_iff {ks : List ByteArray} {s : ByteArray} : gG ks s = true ↔ s ∈ ks := by unfold gG; simp
theorem gG_snoc (ks : List ByteArray) (s : ByteArray) : updS (gG ks) s true = gG (ks ++ [s]) := by
  funext t
  unfold updS gG
  rw [List.any_append]
  by_cases e : t = s
  · subst e; simp
  · have e' : s ≠ t := fun h => e h.symm
    rw [if_neg e]; simp [e']
theorem gF_snoc (ks : List ByteArray) (s : ByteArray) (h : gG ks s = false) : updS (gF ks) s (ks.length : Int) = gF (ks ++ [s]) := by
  funext t
  have h1 := congrFun (gG_snoc ks s) t
  unfold updS at h1
  unfold updS gF
  rw [← h1]
  by_cases e : t = s
  · subst e
    rw [if_pos rfl, if_pos rfl, if_pos rfl, List.findIdx_append]
    have h2 : ks.findIdx (fun x => decide (x = t)) = ks.length := List.findIdx_eq_length_of_false (fun x hx => by
      unfold gG at h
      rw [List.any_eq_false] at h
      simpa using h x hx)
    rw [h2, if_neg (by omega)]
    simp
  · rw [if_neg e, if_neg e]
    by_cases q : gG ks t = true
    · rw [if_pos q, if_pos q, List.findIdx_append, if_pos (List.findIdx_lt_length_of_exists ⟨t, gG_iff.1 q, by simp⟩)]
    · rw [if_neg q, if_neg q]
/-- An entry: its language, its sounds. -/
abbrev Et := ByteArray × List Sd
def eK (x : Et) : ByteArray := keyB x.1 x.2
/-- The numbers of the links to a word, from a word. -/
def frI (ls : List Lk) (i : Nat) : List Int := ((List.range ls.length).filter fun k => decide (lT ls k = (i : Int))).map Int.ofNat
def toI (ls : List Lk) (i : Nat) : List Int := ((List.range ls.length).filter fun k => decide (lF ls k = (i : Int))).map Int.ofNat
theorem frI_snoc (ls : List Lk) (x : Lk) (i : Nat) : frI (ls ++ [x]) i = frI ls i ++ (if x.2.2 = (i : Int) then [(ls.length : Int)] else []) := by
  unfold frI
  rw [List.length_append, List.length_singleton, List.range_succ, List.filter_append, List.map_append]
  congr 1
  · congr 1
    refine List.filter_congr fun k hk => ?_
    have := List.mem_range.1 hk
    unfold lT
    rw [List.getD_eq_getElem?_getD, List.getElem?_append_left this, ← List.getD_eq_getElem?_getD]
  · have e : lT (ls ++ [x]) ls.length = x.2.2 := by unfold lT; simp
    by_cases q : x.2.2 = (i : Int)
    · rw [if_pos q, List.filter_cons, if_pos (by simp [e, q])]; rfl
    · rw [if_neg q, List.filter_cons, if_neg (by simp [e, q])]; rfl
theorem toI_snoc (ls : List Lk) (x : Lk) (i : Nat) : toI (ls ++ [x]) i = toI ls i ++ (if x.2.1 = (i : Int) then [(ls.length : Int)] else []) := by
  unfold toI
  rw [List.length_append, List.length_singleton, List.range_succ, List.filter_append, List.map_append]
  congr 1
  · congr 1
    refine List.filter_congr fun k hk => ?_
    have := List.mem_range.1 hk
    unfold lF
    rw [List.getD_eq_getElem?_getD, List.getElem?_append_left this, ← List.getD_eq_getElem?_getD]
  · have e : lF (ls ++ [x]) ls.length = x.2.1 := by unfold lF; simp
    by_cases q : x.2.1 = (i : Int)
    · rw [if_pos q, List.filter_cons, if_pos (by simp [e, q])]; rfl
    · rw [if_neg q, List.filter_cons, if_neg (by simp [e, q])]; rfl
def etD : Et := (ByteArray.empty, [])
/-- Where a graph lies. -/
structure GrA where
  A : Option Addr
  c : Nat
  B : Option Addr
  d : Nat
  mb : Nat
  ens : List En
/-- The graph at g; what it owns is in O. -/
structure GrAt (w : World) (O : Nat → Prop) (g : Nat) (r : GrA) (es : List Et) (ls : List Lk) : Prop where
  blk : Blk w g #[.slice r.A es.length r.c, .slice r.B ls.length r.d, .map (some r.mb)] 74
  list : w.ownsRow 0 82 4 (.slice r.A es.length r.c) es.length (fl encEn r.ens)
  lks : w.ownsRow 0 33 3 (.slice r.B ls.length r.d) ls.length (fl encLk ls)
  map : MH w r.mb es.length (gF (es.map eK)) (gG (es.map eK))
  len : r.ens.length = es.length
  lang : ∀ i, i < es.length → (r.ens.getD i enD).lang = (es.getD i etD).1
  snd : ∀ i, i < es.length → w.ownsRow 0 57 2 (slR (r.ens.getD i enD).w) (es.getD i etD).2.length (fl encSd (es.getD i etD).2)
  frs : ∀ i, i < es.length → w.ownsRow 0 3 1 (slR (r.ens.getD i enD).frs) (frI ls i).length (fl encI (frI ls i))
  tos : ∀ i, i < es.length → w.ownsRow 0 3 1 (slR (r.ens.getD i enD).tos) (toI ls i).length (fl encI (toI ls i))
  dff : ∀ i j b, i < es.length → j < es.length → i ≠ j → (slR (r.ens.getD i enD).frs).ownBlock = some b → (slR (r.ens.getD j enD).frs).ownBlock ≠ some b
  dtt : ∀ i j b, i < es.length → j < es.length → i ≠ j → (slR (r.ens.getD i enD).tos).ownBlock = some b → (slR (r.ens.getD j enD).tos).ownBlock ≠ some b
  dft : ∀ i j b, i < es.length → j < es.length → (slR (r.ens.getD i enD).frs).ownBlock = some b → (slR (r.ens.getD j enD).tos).ownBlock ≠ some b
  oG : O g
  oM : O r.mb
  oL : ∀ b, (Value.slice r.A es.length r.c).ownBlock = some b → O b
  oK : ∀ b, (Value.slice r.B ls.length r.d).ownBlock = some b → O b
  oF : ∀ i b, i < es.length → (slR (r.ens.getD i enD).frs).ownBlock = some b → O b
  oT : ∀ i b, i < es.length → (slR (r.ens.getD i enD).tos).ownBlock = some b → O b
  oS : ∀ i b, i < es.length → (slR (r.ens.getD i enD).w).ownBlock = some b → ¬ O b
  lt : ∀ k, O k → k < w.heap.size
  nE : es.length ≤ 1024
  nL : ls.length ≤ 4096
  inr : ∀ k, k < ls.length → (0 ≤ lF ls k ∧ lF ls k < (es.length : Int)) ∧ 0 ≤ lT ls k ∧ lT ls k < (es.length : Int)
  fit : ∀ i, i < es.length → FitS (es.getD i etD).2 ∧ (es.getD i etD).2.length ≤ 32 ∧ (es.getD i etD).1.size ≤ 24
  nod : (es.map eK).Nodup
theorem GrAt.at {w w' : World} {O : Nat → Prop} {g : Nat} {r : GrA} {es : List Et} {ls : List Lk} (h : GrAt w O g r es ls) (hz : w.heap.size ≤ w'.heap.size) (hO : ∀ k, O k → w'.heap[k]? = w.heap[k]?)
    (hS : ∀ i b, i < es.length → (slR (r.ens.getD i enD).w).ownBlock = some b → w'.heap[b]? = w.heap[b]?) : GrAt w' O g r es ls where
  blk := (hO g h.oG).trans h.blk
  list := owns_at h.list fun b e => hO b (h.oL b e)
  lks := owns_at h.lks fun b e => hO b (h.oK b e)
  map := h.map.at (hO _ h.oM)
  len := h.len
  lang := h.lang
  snd := fun i hi => owns_at (h.snd i hi) fun b e => hS i b hi e
  frs := fun i hi => owns_at (h.frs i hi) fun b e => hO b (h.oF i b hi e)
  tos := fun i hi => owns_at (h.tos i hi) fun b e => hO b (h.oT i b hi e)
  dff := h.dff
  dtt := h.dtt
  dft := h.dft
  oG := h.oG
  oM := h.oM
  oL := h.oL
  oK := h.oK
  oF := h.oF
  oT := h.oT
  oS := h.oS
  lt := fun k hk => Nat.lt_of_lt_of_le (h.lt k hk) hz
  nE := h.nE
  nL := h.nL
  inr := h.inr
  fit := h.fit
  nod := h.nod
theorem GrAt.bl {w w' : World} {O : Nat → Prop} {g : Nat} {r : GrA} {es : List Et} {ls : List Lk} (h : GrAt w O g r es ls) (hb : Below w.heap.size w w') : GrAt w' O g r es ls :=
  h.at hb.size (fun k hk => hb.block k (h.lt k hk)) fun i b hi e => hb.block b ((h.snd i hi).lt b e).2
/-- A graph that is not there, or was not made. -/
def GrNo (w : World) (v : Value) : Prop := v = .pointer none ∨ ∃ g, v = .pointer (some ⟨g, 0, none⟩) ∧ Blk w g #[.slice none 0 0, .slice none 0 0, .map none] 74
theorem GrNo.bl {w w' : World} {v : Value} (h : GrNo w v) (hb : Below w.heap.size w w') : GrNo w' v := h.imp id fun ⟨g, e, h⟩ => ⟨g, e, h.below hb⟩
end Go.Proofs.YtmfomjaomhohkaaDoor
namespace Go.Proofs.YtmfomjaomhohkaaDoor
open Go Go.RowKit Go.Shelf
set_option maxHeartbeats 1000000 in
set_option maxRecDepth 100000 in
theorem made_yes {w : World} {O : Nat → Prop} {g : Nat} {r : GrA} {es : List Et} {ls : List Lk} (h : GrAt w O g r es ls) :
    Calls Tryd.prog 34 #[.pointer (some ⟨g, 0, none⟩)] w fun e w' => e = .returned (.bool true) ∧ w' = w := by
  have c2 : w.cell? ⟨g, 2, none⟩ = some (.map (some r.mb)) := h.blk.cell 2
  have q2 : ∀ w : World, (binOp .neq 72 (.map (some r.mb)) (.map none)).run Tryd.prog w = .ok (.bool true) w := fun w => run_neq_map_nil w 72 9 3 (some r.mb) Tryd.underlying72
  clear h
  go_enter Tryd.func34, Tryd.ntmps34
  go_wp2_with fail
  go_ret
  exact ⟨rfl, rfl⟩
set_option maxHeartbeats 1000000 in
set_option maxRecDepth 100000 in
theorem made_no {w : World} {v : Value} (h : GrNo w v) :
    Calls Tryd.prog 34 #[v] w fun e w' => e = .returned (.bool false) ∧ w' = w := by
  rcases h with rfl | ⟨g, rfl, h⟩
  · go_enter Tryd.func34, Tryd.ntmps34
    go_wp2_with fail
    go_ret
    exact ⟨rfl, rfl⟩
  · have c2 : w.cell? ⟨g, 2, none⟩ = some (.map none) := h.cell 2
    have q2 : ∀ w : World, (binOp .neq 72 (.map none) (.map none)).run Tryd.prog w = .ok (.bool false) w := fun w => run_neq_map_nil w 72 9 3 none Tryd.underlying72
    clear h
    go_enter Tryd.func34, Tryd.ntmps34
    go_wp2_with fail
    go_ret
    exact ⟨rfl, rfl⟩
set_option maxHeartbeats 1000000 in
set_option maxRecDepth 100000 in
theorem len_yes {w : World} {O : Nat → Prop} {g : Nat} {r : GrA} {es : List Et} {ls : List Lk} (h : GrAt w O g r es ls) :
    Calls Tryd.prog 11 #[.pointer (some ⟨g, 0, none⟩)] w fun e w' => e = .returned (.int .i64 (es.length : Nat)) ∧ w' = w := by
  have c0 : w.cell? ⟨g, 0, none⟩ = some (.slice r.A es.length r.c) := h.blk.cell 0
  have HM := Lib.hid (made_yes h)
  clear h
  go_enter Tryd.func11, Tryd.ntmps11
  go_wp2_with first | fail | (refine HM.out.mono ?_; rintro e w1 ⟨rfl, rfl⟩)
  go_ret
  exact ⟨rfl, rfl⟩
set_option maxHeartbeats 1000000 in
set_option maxRecDepth 100000 in
theorem len_no {w : World} {v : Value} (h : GrNo w v) :
    Calls Tryd.prog 11 #[v] w fun e w' => e = .returned (.int .i64 0) ∧ w' = w := by
  have HM := Lib.hid (made_no h)
  clear h
  go_enter Tryd.func11, Tryd.ntmps11
  go_wp2_with first | fail | (refine HM.out.mono ?_; rintro e w1 ⟨rfl, rfl⟩)
  go_ret
  exact ⟨rfl, rfl⟩
def hasB (n : Int) (N : Nat) : Bool := decide (0 ≤ n) && decide (n < (N : Int))
set_option maxHeartbeats 1000000 in
set_option maxRecDepth 100000 in
theorem has_yes {w : World} {O : Nat → Prop} {g : Nat} {r : GrA} {es : List Et} {ls : List Lk} (h : GrAt w O g r es ls) (n : Int) :
    Calls Tryd.prog 44 #[.pointer (some ⟨g, 0, none⟩), .int .i64 n] w fun e w' => e = .returned (.bool (hasB n es.length)) ∧ w' = w := by
  have HL := Lib.hid (len_yes h)
  clear h
  by_cases h0 : 0 ≤ n
  · go_enter Tryd.func44, Tryd.ntmps44
    go_wp2_with first | fail | (refine HL.out.mono ?_; rintro e w1 ⟨rfl, rfl⟩)
    all_goals (go_ret; refine ⟨?_, rfl⟩; simp [hasB] <;> omega)
  · go_enter Tryd.func44, Tryd.ntmps44
    go_wp2_with first | fail | (refine HL.out.mono ?_; rintro e w1 ⟨rfl, rfl⟩)
    all_goals (go_ret; refine ⟨?_, rfl⟩; simp [hasB] <;> omega)
set_option maxHeartbeats 1000000 in
set_option maxRecDepth 100000 in
theorem has_no {w : World} {v : Value} (h : GrNo w v) (n : Int) :
    Calls Tryd.prog 44 #[v, .int .i64 n] w fun e w' => e = .returned (.bool false) ∧ w' = w := by
  have HL := Lib.hid (len_no h)
  clear h
  by_cases h0 : 0 ≤ n
  · have h1 : ¬ n < 0 := by omega
    go_enter Tryd.func44, Tryd.ntmps44
    go_wp2_with first | fail | (refine HL.out.mono ?_; rintro e w1 ⟨rfl, rfl⟩)
    go_ret
    refine ⟨?_, rfl⟩
    simp [h1]
  · go_enter Tryd.func44, Tryd.ntmps44
    go_wp2_with first | fail | (refine HL.out.mono ?_; rintro e w1 ⟨rfl, rfl⟩)
    go_ret
    exact ⟨rfl, rfl⟩
end Go.Proofs.YtmfomjaomhohkaaDoor
namespace Go.Proofs.YtmfomjaomhohkaaDoor
open Go Go.RowKit Go.Shelf
section
variable {P : Program} {ops : Array Oper} {Q : Exit → Act → World → Prop} {md : Region.Mode}
/-- Each operation waits for earlier ones alone. -/
def backU (l : List Oper) : Bool := (List.range l.length).all fun k => match l[k]? with
  | some o => o.after.all fun e => (!Region.binds .any e || decide (e.on < k))
  | none => true
theorem ready_allU {ops : Array Oper} {listed : Array Bool} (hs : listed.size = ops.size) (hb : ∀ (k : Nat) (o : Oper), ops[k]? = some o → ∀ e ∈ o.after, Region.binds md e = true → e.on < k) (hr : Region.ready md ops listed = []) : ∀ k, k < ops.size → listed.getD k true = true := by
  intro k
  induction k using Nat.strongRecOn with
  | ind k ih =>
    intro hk
    by_cases q : listed.getD k true = true
    · exact q
    · exfalso
      have q' : listed.getD k true = false := by simpa using q
      have hm : k ∈ Region.ready md ops listed := by
        unfold Region.ready
        rw [List.mem_filter]
        refine ⟨List.mem_range.2 hk, ?_⟩
        rw [q', Array.getElem?_eq_getElem hk]
        simp only [Bool.not_false, Bool.true_and, Option.map_some, Option.getD_some]
        rw [Array.all_eq_true']
        intro e he
        rcases Bool.eq_false_or_eq_true (Region.binds md e) with hbi | hbi
        rotate_left
        · rw [hbi]; rfl
        have h1 := hb k _ (Array.getElem?_eq_getElem hk) e he hbi
        have h2 := ih e.on h1 (by omega)
        have h3 : listed.getD e.on false = true := by
          have : e.on < listed.size := by omega
          simpa [Array.getD_eq_getD_getElem?, this] using h2
        rw [h3, Bool.or_true]
      rw [hr] at hm
      cases hm
theorem wpAny_goodU {n : Nat} (F : (Nat → Value) → Act) (dst : Nat → Nat) (Good : Nat → Value → World → Prop) (R : World → World → Prop) (w0 : World) (l : List Oper) (hl : l.toArray = ops)
    (hb : ∀ (k : Nat) (o : Oper), ops[k]? = some o → ∀ e ∈ o.after, Region.binds md e = true → e.on < k)
    (hs : Region.sinkB md ops n = true) (hc : Region.chainB md ops n = true) (hn : n < ops.size) (hseq : Region.seqB md ops (ops.size - n) n (fullA n ops.size) = true)
    (hinj : ∀ j k, j < n → k < n → dst j = dst k → j = k)
    (hR : ∀ a b c, R a b → R b c → R a c) (hmono : ∀ k v w w', Good k v w → R w w' → Good k v w')
    (hstep : ∀ (k : Nat) (o : Oper), k < n → ops[k]? = some o → ∀ u w, R w0 w → (∀ e ∈ o.after, Region.binds md e = true → Good e.on (u (dst e.on)) w) →
      wpOp P ops Q k (fun a' w' => ∃ v, a' = F (updV u (dst k) v) ∧ Good k v w' ∧ R w w') (F u) w)
    (hend : ∀ u w, R w0 w → (∀ k, k < n → Good k (u (dst k)) w) → wpList P ops Q (l.drop n) (F u) w) :
    ∀ (f : Nat) (listed : Array Bool) (u : Nat → Value) (w : World), HeadInv md ops n listed → R w0 w → (∀ k, k < n → listed.getD k true = true → Good k (u (dst k)) w) →
      unlC n listed = f → wpAny P md ops Q (f + (ops.size - n)) listed (F u) w := by
  have hsz : l.length = ops.size := by rw [← hl]; simp
  intro f
  induction f with
  | zero =>
    intro listed u w inv hw hg hf
    have hall : ∀ k, k < n → listed.getD k true = true := fun k hk => by
      have h0 : ((List.range n).filter fun k => !listed.getD k true) = [] := List.eq_nil_of_length_eq_zero hf
      rw [List.filter_eq_nil_iff] at h0
      have := h0 k (List.mem_range.2 hk)
      simpa using this
    have e := full_of (by omega) inv hall
    have h1 := wpAny_of_seq (md := md) (Q' := Q) (P := P) (ops := ops) (l.drop n) n listed (F u) w (fun j => by rw [← hl]; simp [List.getElem?_drop]) (by
      rw [List.length_drop, hsz, e]; exact hseq) (hend u w hw fun k hk => hg k hk (hall k hk))
    rw [List.length_drop, hsz] at h1
    rw [Nat.zero_add]; exact h1
  | succ f ih =>
    intro listed u w inv hw hg hf
    have hex : ∃ i0, i0 < n ∧ listed.getD i0 true = false := by
      have h0 : 0 < ((List.range n).filter fun k => !listed.getD k true).length := by unfold unlC at hf; omega
      obtain ⟨i0, hi0⟩ := List.exists_mem_of_length_pos h0
      rw [List.mem_filter, List.mem_range] at hi0
      exact ⟨i0, hi0.1, by simpa using hi0.2⟩
    obtain ⟨i0, hi0, hu0⟩ := hex
    rw [show f + 1 + (ops.size - n) = (f + (ops.size - n)) + 1 by omega]
    refine ⟨fun hr => ?_, fun i hi => ?_⟩
    · have := ready_allU inv.size hb hr i0 (by omega)
      rw [this] at hu0; cases hu0
    have hin : i < n := by
      rcases Nat.lt_or_ge i n with h | h
      · exact h
      · exact absurd hi (tail_waits hs hc hn inv _ i0 rfl hi0 hu0 i h)
    obtain ⟨hnl, oi, hoi, hall⟩ := mem_ready.1 hi
    refine wpOp_mono ?_ (hstep i oi hin hoi u w hw fun e he hbi => ?_)
    · rintro a' w' ⟨v, rfl, hgv, hr⟩
      refine ih _ _ _ (inv.set hi hin) (hR _ _ _ hw hr) (fun k hk hl2 => ?_) ?_
      · by_cases e : k = i
        · subst e
          unfold updV
          rw [if_pos rfl]; exact hgv
        · have hl' : listed.getD k true = true := by
            rw [← getD_set_ne (fun h => e h.symm)]; exact hl2
          have hne : dst k ≠ dst i := fun h => e (hinj k i hk hin h)
          unfold updV
          rw [if_neg hne]
          exact hmono _ _ _ _ (hg k hk hl') hr
      · have key : ∀ m, i < m → ((List.range m).filter fun k => !(listed.setIfInBounds i true).getD k true).length + 1 = ((List.range m).filter fun k => !listed.getD k true).length := by
          intro m
          induction m with
          | zero => intro h; omega
          | succ m ihm =>
            intro h
            rw [List.range_succ, List.filter_append, List.filter_append, List.length_append, List.length_append]
            by_cases e : m = i
            · subst e
              have e1 : ((List.range m).filter fun k => !(listed.setIfInBounds m true).getD k true) = ((List.range m).filter fun k => !listed.getD k true) := List.filter_congr fun k hk => by
                have := List.mem_range.1 hk
                rw [getD_set_ne (by omega)]
              have hlt : m < listed.size := by have := inv.size; omega
              have e2 : (listed.setIfInBounds m true).getD m true = true := by simp [Array.getD_eq_getD_getElem?, hlt]
              have e3 : (List.filter (fun k => !listed.getD k true) [m]) = [m] := by rw [List.filter_cons, if_pos (by rw [hnl]; rfl)]; rfl
              have e4 : (List.filter (fun k => !(listed.setIfInBounds m true).getD k true) [m]) = [] := by rw [List.filter_cons, if_neg (by rw [e2]; simp)]; rfl
              rw [e1, e3, e4]; rfl
            · have e2 : (listed.setIfInBounds i true).getD m true = listed.getD m true := getD_set_ne (fun h => e h.symm)
              have h3 := ihm (by omega)
              have e3 : (List.filter (fun k => !(listed.setIfInBounds i true).getD k true) [m]).length = (List.filter (fun k => !listed.getD k true) [m]).length := by
                simp only [List.filter_cons, e2, List.filter_nil]
              rw [e3]; omega
        have h4 := key n hin
        unfold unlC at hf ⊢
        omega
    · have h3 := hall e he hbi
      have hlt := hb i _ hoi e he hbi
      refine hg e.on (by omega) ?_
      have : e.on < listed.size := by have := inv.size; omega
      simpa [Array.getD_eq_getD_getElem?, this] using h3
/-- The closed facts that the law wants. -/
def goodUB (l : List Oper) (n : Nat) (ds : List Nat) : Bool := backU l && decide (ds.length = n) && decide ds.Nodup && Region.sinkB .any l.toArray n && Region.chainB .any l.toArray n && decide (n < l.length) && Region.seqB .any l.toArray (l.length - n) n (fullA n l.length)
/-- The region: in whatever order the first n come, what is left is good; then the others. -/
theorem wp_region_goodU {id : Nat} {a : Act} {w : World} {l : List Oper} (n : Nat) (ds : List Nat) (Good : Nat → Value → World → Prop) (R : World → World → Prop) (hm : P.follows .mixedOrders = true) (hB : goodUB l n ds = true)
    (h0 : R w.drew w.drew) (hR : ∀ a b c, R a b → R b c → R a c) (hmono : ∀ k v w w', Good k v w → R w w' → Good k v w')
    (hs : ∀ (a0 : Act) (ops0 : Array Oper), a0 = a → ops0 = l.toArray → StepsG P ops0 (NoPanic Q) a0 ds Good R w.drew (l.take n) 0)
    (hend : ∀ u w', R w.drew w' → (∀ k, k < n → Good k (u (ds.getD k 0)) w') → wpList P l.toArray (NoPanic Q) (l.drop n) (frmV a u ds) w') : (Code.region id l.toArray true).wp P Q a w := by
  unfold goodUB at hB
  simp only [Bool.and_eq_true, decide_eq_true_eq] at hB
  obtain ⟨⟨⟨⟨⟨⟨hb, hl⟩, hnd⟩, hsk⟩, hch⟩, hn⟩, hsq⟩ := hB
  refine wp_region_noPanic (wp_region_any hm ?_)
  have hself := frmV_self a ds
  have hsz : l.toArray.size = l.length := by simp
  have inv0 : HeadInv .any l.toArray n (Array.replicate l.toArray.size false) :=
    ⟨by simp, fun j oj _ hl => (by rw [getD_replicate_false] at hl; cases hl), fun t _ ht => getD_in (by simpa using ht) (getD_replicate_false _ _)⟩
  have hgo := wpAny_goodU (P := P) (ops := l.toArray) (Q := NoPanic Q) (md := .any) (n := n) (fun u => frmV a u ds) (fun k => ds.getD k 0) Good R w.drew l rfl
    (fun k o ho e he hbi => by
      unfold backU at hb
      rw [List.all_eq_true] at hb
      have hk : k < l.length := by
        have := (Array.getElem?_eq_some_iff.1 ho).1
        simpa using this
      have h1 := hb k (List.mem_range.2 hk)
      have ho' : l[k]? = some o := by simpa using ho
      rw [ho'] at h1
      have h2 : (o.after.all fun e => (!Region.binds .any e || decide (e.on < k))) = true := h1
      rw [Array.all_eq_true'] at h2
      have h3 := h2 e he
      rw [hbi] at h3
      simpa using h3)
    hsk hch (by rw [hsz]; exact hn) (by rw [hsz]; exact hsq)
    (fun j k hj hk e => by
      have hj' : j < ds.length := by omega
      have hk' : k < ds.length := by omega
      have e' : ds[j] = ds[k] := by
        simpa [List.getD_eq_getElem?_getD, hj', hk'] using e
      exact (List.getElem_inj hnd).1 e')
    hR hmono
    (fun k o hk ho u w' hw hg => by
      have ho' : (l.take n)[k]? = some o := by rw [List.getElem?_take, if_pos hk]; simpa using ho
      have h1 := stepsG_at (l.take n) 0 (hs a l.toArray rfl rfl) k o ho' u w' hw (fun j hj => by
        unfold depsL at hj
        rw [List.mem_map] at hj
        obtain ⟨e, he, rfl⟩ := hj
        rw [List.mem_filter] at he
        exact hg e (by simpa using he.1) he.2)
      rw [Nat.zero_add] at h1
      exact h1)
    hend
    (unlC n (Array.replicate l.toArray.size false)) (Array.replicate l.toArray.size false) (fun t => a.tmps.getD t undef) w.drew inv0 h0
    (fun k hk hl => by
      have : k < (Array.replicate l.toArray.size false).size := by simp; omega
      rw [getD_in this (getD_replicate_false _ _)] at hl
      cases hl)
    rfl
  have hself2 : frmV a (fun t => a.tmps.getD t undef) ds = a := hself.symm
  simp only [hself2] at hgo
  have hcnt : unlC n (Array.replicate l.toArray.size false) = n := by
    unfold unlC
    have : ((List.range n).filter fun k => !(Array.replicate l.toArray.size false).getD k true) = List.range n := List.filter_eq_self.2 fun k hk => by
      have := List.mem_range.1 hk
      rw [getD_in (by simp; omega) (getD_replicate_false _ _)]; rfl
    rw [this, List.length_range]
  rw [hcnt, hsz, show n + (l.length - n) = l.length by omega] at hgo
  rw [hsz]
  exact hgo
end
end Go.Proofs.YtmfomjaomhohkaaDoor
namespace Go.Proofs.YtmfomjaomhohkaaDoor
open Go Go.RowKit Go.Shelf
/-- What a text of a word asks of the world. -/
structure KyAt (w : World) (lang : ByteArray) (l : List Sd) : Prop where
  len : lang.size ≤ 1048576
  num : l.length ≤ 1048576
  it : ItAt w lang.size
  fit : FitS l
  fmt : ∀ i, i < l.length → FmtAt w (sP l i) ∧ FmtAt w (sM l i)
theorem KyAt.bl {w w' : World} {lang : ByteArray} {l : List Sd} (h : KyAt w lang l) (hb : Below w.heap.size w w') : KyAt w' lang l := ⟨h.len, h.num, h.it.bl hb, h.fit, fun i hi => ⟨(h.fmt i hi).1.bl hb, (h.fmt i hi).2.bl hb⟩⟩
theorem KyAt.size {w : World} {lang : ByteArray} {l : List Sd} (h : KyAt w lang l) : (keyB lang l).size ≤ maxLen := by
  have h1 := keyW_le h.fit
  have h2 := dig_le (show lang.size < 4294967296 by have := h.len; omega)
  have h3 := h.len
  have h4 := h.num
  have h5 : lang.data.toList.length = lang.size := rfl
  show (keyL lang l).toArray.size ≤ _
  unfold keyL maxLen
  simp only [List.size_toArray, List.length_append, List.length_cons]
  omega
def dsF : List Nat := [14, 15, 16, 17, 18, 19, 20, 21, 13, 22, 23, 8]
def GdF (g mb : Nat) (lang : ByteArray) (a : Option Addr) (n c : Nat) (key : ByteArray) (F : Int) (b : Bool) : Nat → Value → World → Prop
  | 0, v, _ => v = .pointer (some ⟨g, 0, none⟩)
  | 1, v, _ => v = .pointer (some ⟨g, 0, none⟩)
  | 2, v, _ => v = .pointer (some ⟨g, 2, none⟩)
  | 3, v, _ => v = .map (some mb)
  | 4, v, _ => v = .string lang
  | 5, v, _ => v = .slice a n c
  | 6, v, _ => v = .string key
  | 7, v, _ => v = .tuple #[.int .i64 F, .bool b]
  | 8, v, _ => v = .tuple #[.int .i64 F, .bool b]
  | 9, v, _ => v = .int .i64 F
  | 10, v, _ => v = .bool b
  | 11, v, _ => v = .int .i64 F
  | _, _, _ => True
theorem GdF.bl {g mb : Nat} {lang : ByteArray} {a : Option Addr} {n c : Nat} {key : ByteArray} {F : Int} {b : Bool} : ∀ (k : Nat) (v : Value) (W W' : World), GdF g mb lang a n c key F b k v W → GdF g mb lang a n c key F b k v W'
  | 0, _, _, _, h => h
  | 1, _, _, _, h => h
  | 2, _, _, _, h => h
  | 3, _, _, _, h => h
  | 4, _, _, _, h => h
  | 5, _, _, _, h => h
  | 6, _, _, _, h => h
  | 7, _, _, _, h => h
  | 8, _, _, _, h => h
  | 9, _, _, _, h => h
  | 10, _, _, _, h => h
  | 11, _, _, _, h => h
  | _ + 12, _, _, _, _ => trivial
set_option maxHeartbeats 2000000 in
set_option maxRecDepth 100000 in
theorem find_yes {w : World} {O : Nat → Prop} {g : Nat} {r : GrA} {es : List Et} {ls : List Lk} (h : GrAt w O g r es ls) (lang : ByteArray) (a : Option Addr) (n c : Nat) (l : List Sd) (hl : n = l.length) (hA : Rd w a (fl encSd l)) (hK : KyAt w lang l) :
    Calls Tryd.prog 29 #[.pointer (some ⟨g, 0, none⟩), .string lang, .slice a n c] w fun e w' => e = .returned (.tuple #[.int .i64 (gF (es.map eK) (keyB lang l)), .bool (gG (es.map eK) (keyB lang l))]) ∧ Below w.heap.size w w' := by
  have c2' : w.cell? ⟨g, 2, none⟩ = some (.map (some r.mb)) := h.blk.cell 2
  have HM := Lib.hid (made_yes h)
  have HK : Hid (∀ W, Below w.drew.heap.size w.drew W → Calls Tryd.prog 43 #[.string lang, .slice a n c] W fun e w' => e = .returned (.string (keyB lang l)) ∧ Below W.heap.size W w') := fun W hW => by
    have hb : Below w.heap.size w W := bl_trans (bl_drewN (Below.refl _ w) 1) hW
    have hk := hK.bl hb
    exact key_any lang a n c l W hk.len hk.it hl (by rw [hl]; exact hk.num) (hA.bl hb) hk.fit (by rw [hl]; exact hk.fmt)
  obtain ⟨mb, hmb⟩ : ∃ x, x = r.mb := ⟨_, rfl⟩
  obtain ⟨F, hF⟩ : ∃ x, x = gF (es.map eK) (keyB lang l) := ⟨_, rfl⟩
  obtain ⟨b, hb⟩ : ∃ x, x = gG (es.map eK) (keyB lang l) := ⟨_, rfl⟩
  have HA : Hid (∀ W, Below w.drew.heap.size w.drew W → (Instr.lookup 72 (.map (some mb)) (.string (keyB lang l)) true).run Tryd.prog W = .ok (.tuple #[.int .i64 F, .bool b]) W) := fun W hW => by
    have hb2 : Below w.heap.size w W := bl_trans (bl_drewN (Below.refl _ w) 1) hW
    rw [hF, hb, hmb]
    exact (h.map.bl hb2).ask Tryd.underlying72 _ hK.size
  have hgl : g < w.drew.heap.size := h.blk.lt
  rw [← hmb] at c2'
  have c2 : w.drew.cell? ⟨g, 2, none⟩ = some (.map (some mb)) := c2'
  rw [← hF, ← hb]
  obtain ⟨key, hkey⟩ : ∃ x, x = keyB lang l := ⟨_, rfl⟩
  rw [← hkey] at HA HK
  clear h hK hA hl hF hb hmb hkey c2'
  go_enter Tryd.func29, Tryd.ntmps29
  go_wp2_with first | fail | (refine HM.out.mono ?_; rintro e w1 ⟨rfl, hw⟩; subst w1)
  refine wp_region_goodU 12 dsF (GdF g mb lang a n c key F b) (fun a b => Below a.heap.size a b) rfl (by kernel_rfl) (Below.refl _ _) (fun a b c => bl_trans) (fun k v W W' h hb => GdF.bl k v W W' h) ?_ ?_
  · intro a0 ops0 ha0 ho
    have z : a0.tmps.size = 26 := by rw [ha0]; rfl
    have z0 : a0.tmps.getD 0 undef = .pointer (some ⟨g, 0, none⟩) := by rw [ha0]; rfl
    have z1 : a0.tmps.getD 1 undef = .string lang := by rw [ha0]; rfl
    have z2 : a0.tmps.getD 2 undef = .slice a n c := by rw [ha0]; rfl
    clear ha0
    refine ⟨fun u W hW hg => ?_, ?_⟩
    · refine good_run (d := 14) (v := .pointer (some ⟨g, 0, none⟩)) (w' := W) (by rw [ho]; rfl) rfl rfl rfl rfl ?_ ⟨rfl, Below.refl _ _⟩
      have q0 : (frmV a0 u dsF).eval (.tmp 0) = a0.tmps.getD 0 undef := frmV_out (by rw [z]; decide) rfl
      rw [z0] at q0
      revert q0
      generalize (frmV a0 u dsF).eval = ρ
      intro q0
      simp [execOp, go_sem, q0]
    refine ⟨fun u W hW hg => ?_, ?_⟩
    · refine good_run (d := 15) (v := .pointer (some ⟨g, 0, none⟩)) (w' := W) (by rw [ho]; rfl) rfl rfl rfl rfl ?_ ⟨rfl, Below.refl _ _⟩
      have G14 : u 14 = .pointer (some ⟨g, 0, none⟩) := hg 0 (by decide)
      have q14 : (frmV a0 u dsF).eval (.tmp 14) = u 14 := frmV_in (by rw [z]; decide) rfl
      rw [G14] at q14
      revert q14
      generalize (frmV a0 u dsF).eval = ρ
      intro q14
      simp [execOp, go_sem, q14]
    refine ⟨fun u W hW hg => ?_, ?_⟩
    · refine good_run (d := 16) (v := .pointer (some ⟨g, 2, none⟩)) (w' := W) (by rw [ho]; rfl) rfl rfl rfl rfl ?_ ⟨rfl, Below.refl _ _⟩
      have G15 : u 15 = .pointer (some ⟨g, 0, none⟩) := hg 1 (by decide)
      have q15 : (frmV a0 u dsF).eval (.tmp 15) = u 15 := frmV_in (by rw [z]; decide) rfl
      rw [G15] at q15
      revert q15
      generalize (frmV a0 u dsF).eval = ρ
      intro q15
      simp [execOp, go_sem, q15]
    refine ⟨fun u W hW hg => ?_, ?_⟩
    · have g1 : W.cell? ⟨g, 2, none⟩ = some (.map (some mb)) := (hW.cell (p := ⟨g, 2, none⟩) hgl).trans c2
      refine good_run (d := 17) (v := .map (some mb)) (w' := W) (by rw [ho]; rfl) rfl rfl rfl rfl ?_ ⟨rfl, Below.refl _ _⟩
      have G16 : u 16 = .pointer (some ⟨g, 2, none⟩) := hg 2 (by decide)
      have q16 : (frmV a0 u dsF).eval (.tmp 16) = u 16 := frmV_in (by rw [z]; decide) rfl
      rw [G16] at q16
      revert q16
      generalize (frmV a0 u dsF).eval = ρ
      intro q16
      simp [execOp, go_sem, q16, g1]
    refine ⟨fun u W hW hg => ?_, ?_⟩
    · refine good_run (d := 18) (v := .string lang) (w' := W) (by rw [ho]; rfl) rfl rfl rfl rfl ?_ ⟨rfl, Below.refl _ _⟩
      have q1 : (frmV a0 u dsF).eval (.tmp 1) = a0.tmps.getD 1 undef := frmV_out (by rw [z]; decide) rfl
      rw [z1] at q1
      revert q1
      generalize (frmV a0 u dsF).eval = ρ
      intro q1
      simp [execOp, go_sem, q1]
    refine ⟨fun u W hW hg => ?_, ?_⟩
    · refine good_run (d := 19) (v := .slice a n c) (w' := W) (by rw [ho]; rfl) rfl rfl rfl rfl ?_ ⟨rfl, Below.refl _ _⟩
      have q2 : (frmV a0 u dsF).eval (.tmp 2) = a0.tmps.getD 2 undef := frmV_out (by rw [z]; decide) rfl
      rw [z2] at q2
      revert q2
      generalize (frmV a0 u dsF).eval = ρ
      intro q2
      simp [execOp, go_sem, q2]
    refine ⟨fun u W hW hg => ?_, ?_⟩
    · refine good_call (d := 20) (f := 43) (args := #[.string lang, .slice a n c]) (by rw [ho]; rfl) rfl rfl rfl rfl ?_ ((HK.out W hW).mono ?_)
      · skip
        have G18 : u 18 = .string lang := hg 4 (by decide)
        have q18 : (frmV a0 u dsF).eval (.tmp 18) = u 18 := frmV_in (by rw [z]; decide) rfl
        rw [G18] at q18
        have G19 : u 19 = .slice a n c := hg 5 (by decide)
        have q19 : (frmV a0 u dsF).eval (.tmp 19) = u 19 := frmV_in (by rw [z]; decide) rfl
        rw [G19] at q19
        have kf : (frmV a0 u dsF).eval (.func 43) = .func (.func 43) #[] #[] := rfl
        revert q18 q19 kf
        generalize (frmV a0 u dsF).eval = ρ
        intro q18 q19 kf
        simp [execOp, go_sem, q18, q19, kf]
      · rintro e W' ⟨rfl, hb⟩; exact ⟨_, rfl, rfl, hb⟩
    refine ⟨fun u W hW hg => ?_, ?_⟩
    · refine good_run (d := 21) (v := .tuple #[.int .i64 F, .bool b]) (w' := W) (by rw [ho]; rfl) rfl rfl rfl rfl ?_ ⟨rfl, Below.refl _ _⟩
      have G17 : u 17 = .map (some mb) := hg 3 (by decide)
      have q17 : (frmV a0 u dsF).eval (.tmp 17) = u 17 := frmV_in (by rw [z]; decide) rfl
      rw [G17] at q17
      have G20 : u 20 = .string key := hg 6 (by decide)
      have q20 : (frmV a0 u dsF).eval (.tmp 20) = u 20 := frmV_in (by rw [z]; decide) rfl
      rw [G20] at q20
      revert q17 q20
      generalize (frmV a0 u dsF).eval = ρ
      intro q17 q20
      simp [execOp, go_sem, q17, q20, HA.out W hW]
    refine ⟨fun u W hW hg => ?_, ?_⟩
    · refine good_run (d := 13) (v := .tuple #[.int .i64 F, .bool b]) (w' := W) (by rw [ho]; rfl) rfl rfl rfl rfl ?_ ⟨rfl, Below.refl _ _⟩
      have G21 : u 21 = .tuple #[.int .i64 F, .bool b] := hg 7 (by decide)
      have q21 : (frmV a0 u dsF).eval (.tmp 21) = u 21 := frmV_in (by rw [z]; decide) rfl
      rw [G21] at q21
      revert q21
      generalize (frmV a0 u dsF).eval = ρ
      intro q21
      simp [execOp, go_sem, q21]
    refine ⟨fun u W hW hg => ?_, ?_⟩
    · refine good_run (d := 22) (v := .int .i64 F) (w' := W) (by rw [ho]; rfl) rfl rfl rfl rfl ?_ ⟨rfl, Below.refl _ _⟩
      have G13 : u 13 = .tuple #[.int .i64 F, .bool b] := hg 8 (by decide)
      have q13 : (frmV a0 u dsF).eval (.tmp 13) = u 13 := frmV_in (by rw [z]; decide) rfl
      rw [G13] at q13
      revert q13
      generalize (frmV a0 u dsF).eval = ρ
      intro q13
      simp [execOp, go_sem, q13]
    refine ⟨fun u W hW hg => ?_, ?_⟩
    · refine good_run (d := 23) (v := .bool b) (w' := W) (by rw [ho]; rfl) rfl rfl rfl rfl ?_ ⟨rfl, Below.refl _ _⟩
      have G13 : u 13 = .tuple #[.int .i64 F, .bool b] := hg 8 (by decide)
      have q13 : (frmV a0 u dsF).eval (.tmp 13) = u 13 := frmV_in (by rw [z]; decide) rfl
      rw [G13] at q13
      revert q13
      generalize (frmV a0 u dsF).eval = ρ
      intro q13
      simp [execOp, go_sem, q13]
    refine ⟨fun u W hW hg => ?_, trivial⟩
    · refine good_run (d := 8) (v := .int .i64 F) (w' := W) (by rw [ho]; rfl) rfl rfl rfl rfl ?_ ⟨rfl, Below.refl _ _⟩
      have G22 : u 22 = .int .i64 F := hg 9 (by decide)
      have q22 : (frmV a0 u dsF).eval (.tmp 22) = u 22 := frmV_in (by rw [z]; decide) rfl
      rw [G22] at q22
      revert q22
      generalize (frmV a0 u dsF).eval = ρ
      intro q22
      simp [execOp, go_sem, q22]
  · intro u W hW hg
    have e10 : u 23 = .bool b := hg 10 (by decide)
    have e11 : u 8 = .int .i64 F := hg 11 (by decide)
    have HBU : Hid (Below w.heap.size w W) := bl_trans (bl_drewN (Below.refl _ w) 1) hW
    clear hg hW
    simp only [dsF, frmV, Act.put, List.setIfInBounds_toArray, List.set_cons_zero, List.set_cons_succ]
    rw [e10, e11]
    clear e10 e11
    simp only [List.drop_succ_cons, List.drop_zero]
    go_wp2_with fail
    refine NoPanic.normal ?_
    go_wp2_with fail
    go_ret2
    exact ⟨rfl, HBU.out⟩
set_option maxHeartbeats 1000000 in
set_option maxRecDepth 100000 in
theorem find_no {w : World} {v : Value} (h : GrNo w v) (x y : Value) :
    Calls Tryd.prog 29 #[v, x, y] w fun e w' => e = .returned (.tuple #[.int .i64 0, .bool false]) ∧ w' = w := by
  have HM := Lib.hid (made_no h)
  clear h
  go_enter Tryd.func29, Tryd.ntmps29
  go_wp2_with first | fail | (refine HM.out.mono ?_; rintro e w1 ⟨rfl, hw⟩; subst w1)
  go_ret2
  exact ⟨rfl, rfl⟩
end Go.Proofs.YtmfomjaomhohkaaDoor
namespace Go.Proofs.YtmfomjaomhohkaaDoor
open Go Go.RowKit Go.Shelf Go.Maps
theorem rd_of_blkQ {w : World} {B : Nat} {cs : List Value} {t : TypeId} (h : Blk w B cs.toArray t) : Rd w (some ⟨B, 0, none⟩) cs := by
  intro h0
  refine ⟨B, 0, rfl, h.lt, fun i hi => ?_⟩
  rw [Nat.zero_add, h.cell i]
  simp [hi]
set_option maxHeartbeats 1000000 in
/-- What kind of block: cells of a type, or a map. -/
def kind (w : World) (k : Nat) : Option (Option TypeId) := match w.heap[k]? with
  | some (.cells _ t _) => some (some t)
  | some (.map _ _) => some none
  | _ => none
theorem Blk.kind {w : World} {b : Nat} {cs : Array Value} {t : TypeId} (h : Blk w b cs t) : kind w b = some (some t) := by
  unfold Blk at h
  unfold Go.Proofs.YtmfomjaomhohkaaDoor.kind
  rw [h]
theorem own_kind {w : World} {base e k n : Nat} {v : Value} {xs : List Value} (h : w.ownsRow base e k v n xs) {b : Nat} (hb : v.ownBlock = some b) : kind w b = some (some e) := by
  rcases h.2 with ⟨rfl, _⟩ | ⟨g, cap, cur, rfl, _, h4, _⟩
  · cases hb
  · obtain rfl : g = b := Option.some.inj hb
    unfold kind
    rw [h4]
theorem MH.kind {w : World} {b n : Nat} {F : ByteArray → Int} {G : ByteArray → Bool} (h : MH w b n F G) : kind w b = some none := by
  obtain ⟨D, ⟨es, clock, h1, h2⟩, h3⟩ := h
  unfold Go.Proofs.YtmfomjaomhohkaaDoor.kind
  rw [h1]
theorem kind_ne {w : World} {a b : Nat} {x y : Option (Option TypeId)} (ha : kind w a = x) (hb : kind w b = y) (h : x ≠ y) : a ≠ b := fun e => h (by rw [← ha, ← hb, e])
theorem owns_neQ {W : World} {base e k n base' e' k' n' : Nat} {v v' : Value} {xs xs' : List Value} (h : W.ownsRow base e k v n xs) (h' : W.ownsRow base' e' k' v' n' xs') (he : e ≠ e') : v.ownBlock = none ∨ v.ownBlock ≠ v'.ownBlock := by
  cases q : v.ownBlock with
  | none => exact .inl rfl
  | some b => exact .inr fun e2 => he (by have h1 := own_kind h q; rw [own_kind h' e2.symm] at h1; simpa using h1.symm)
theorem getD_snoc {α : Type} (l : List α) (x d : α) (i : Nat) : (l ++ [x]).getD i d = if i < l.length then l.getD i d else if i = l.length then x else d := by
  rw [List.getD_eq_getElem?_getD, List.getElem?_append]
  by_cases h : i < l.length
  · rw [if_pos h, if_pos h, ← List.getD_eq_getElem?_getD]
  · rw [if_neg h, if_neg h]
    by_cases e : i = l.length
    · subst e; simp
    · rw [if_neg e, List.getElem?_eq_none (by simp; omega)]; rfl
theorem frI_none {ls : List Lk} {i : Nat} (h : ∀ k, k < ls.length → lT ls k ≠ (i : Int)) : frI ls i = [] := by
  unfold frI
  rw [List.filter_eq_nil_iff.2 fun k hk => by simpa using h k (List.mem_range.1 hk)]; rfl
theorem toI_none {ls : List Lk} {i : Nat} (h : ∀ k, k < ls.length → lF ls k ≠ (i : Int)) : toI ls i = [] := by
  unfold toI
  rw [List.filter_eq_nil_iff.2 fun k hk => by simpa using h k (List.mem_range.1 hk)]; rfl
/-- What is written when a word is added. -/
def AddT (g : Nat) (r : GrA) (n : Nat) (k : Nat) : Prop := k = g ∨ k = r.mb ∨ (Value.slice r.A n r.c).ownBlock = some k
theorem GrAt.added {w w' : World} {O : Nat → Prop} {g : Nat} {r : GrA} {es : List Et} {ls : List Lk} (h : GrAt w O g r es ls) (hk : Keeps (AddT g r es.length) w w') (lang : ByteArray) (l : List Sd) {A' : Option Addr} {c' : Nat} {wa : Option Addr} {wc : Nat}
    (hblk : Blk w' g #[.slice A' (es.length + 1) c', .slice r.B ls.length r.d, .map (some r.mb)] 74)
    (hlist : w'.ownsRow 0 82 4 (.slice A' (es.length + 1) c') (es.length + 1) (fl encEn (r.ens ++ [⟨lang, (wa, l.length, wc), (none, 0, 0), (none, 0, 0)⟩])))
    (_ : ∀ b, (Value.slice A' (es.length + 1) c').ownBlock = some b → (Value.slice r.A es.length r.c).ownBlock = some b ∨ w.heap.size ≤ b)
    (hmap : MH w' r.mb (es.length + 1) (updS (gF (es.map eK)) (keyB lang l) (es.length : Int)) (updS (gG (es.map eK)) (keyB lang l) true))
    (hsnd : w'.ownsRow w.heap.size 57 2 (.slice wa l.length wc) l.length (fl encSd l)) (hG : gG (es.map eK) (keyB lang l) = false) (hn : es.length < 1024) (hF : FitS l) (hl : l.length ≤ 32) (hL : lang.size ≤ 24) :
    GrAt w' (fun k => O k ∨ (Value.slice A' (es.length + 1) c').ownBlock = some k) g ⟨A', c', r.B, r.d, r.mb, r.ens ++ [⟨lang, (wa, l.length, wc), (none, 0, 0), (none, 0, 0)⟩]⟩ (es ++ [(lang, l)]) ls := by
  have kg := h.blk.kind
  have km := h.map.kind
  have kl : ∀ b, (Value.slice r.A es.length r.c).ownBlock = some b → kind w b = some (some 82) := fun b e => own_kind h.list e
  have nT : ∀ b t, kind w b = some (some t) → t ≠ 74 → t ≠ 82 → ¬ AddT g r es.length b := fun b t hb h1 h2 q => by
    rcases q with rfl | rfl | q
    · rw [kg] at hb; exact h1 (by simpa using hb.symm)
    · rw [km] at hb; simp at hb
    · rw [kl b q] at hb; exact h2 (by simpa using hb.symm)
  have hens : ∀ i, (r.ens ++ [(⟨lang, (wa, l.length, wc), (none, 0, 0), (none, 0, 0)⟩ : En)]).getD i enD = if i < es.length then r.ens.getD i enD else if i = es.length then ⟨lang, (wa, l.length, wc), (none, 0, 0), (none, 0, 0)⟩ else enD := fun i => by rw [getD_snoc, h.len]
  have hes : ∀ i, (es ++ [(lang, l)]).getD i etD = if i < es.length then es.getD i etD else if i = es.length then (lang, l) else etD := fun i => getD_snoc _ _ _ _
  have hlen : (es ++ [(lang, l)]).length = es.length + 1 := by simp
  have two : ∀ i, i < es.length + 1 → i < es.length ∨ i = es.length := fun i hi => by omega
  have kA : ∀ b, (Value.slice A' (es.length + 1) c').ownBlock = some b → kind w' b = some (some 82) := fun b e => own_kind hlist e
  refine ⟨?_, ?_, ?_, ?_, ?_, ?_, ?_, ?_, ?_, ?_, ?_, ?_, ?_, ?_, ?_, ?_, ?_, ?_, ?_, ?_, ?_, ?_, ?_, ?_, ?_⟩ <;> try simp only [hlen, hens, hes]
  · exact hblk
  · exact hlist
  · exact owns_kp h.lks hk fun b e => nT b _ (own_kind h.lks e) (by decide) (by decide)
  · have e1 : (es ++ [(lang, l)]).map eK = es.map eK ++ [keyB lang l] := by rw [List.map_append]; rfl
    rw [e1, ← gG_snoc, ← gF_snoc _ _ hG, List.length_map]
    exact hmap
  · rw [List.length_append, h.len]; rfl
  · intro i hi
    rcases two i hi with q | rfl
    · rw [if_pos q, if_pos q]; exact h.lang i q
    · simp
  · intro i hi
    rcases two i hi with q | rfl
    · rw [if_pos q, if_pos q]
      exact owns_kp (h.snd i q) hk fun b e => nT b _ (own_kind (h.snd i q) e) (by decide) (by decide)
    · rw [if_neg (by omega), if_pos rfl, if_neg (by omega), if_pos rfl]
      exact owns_mono hsnd (by omega)
  · intro i hi
    rcases two i hi with q | rfl
    · rw [if_pos q]
      exact owns_kp (h.frs i q) hk fun b e => nT b _ (own_kind (h.frs i q) e) (by decide) (by decide)
    · rw [if_neg (by omega), if_pos rfl, frI_none fun k hk e => by have := (h.inr k hk).2.2; omega]
      exact World.ownsRow_nil _ _ _ _
  · intro i hi
    rcases two i hi with q | rfl
    · rw [if_pos q]
      exact owns_kp (h.tos i q) hk fun b e => nT b _ (own_kind (h.tos i q) e) (by decide) (by decide)
    · rw [if_neg (by omega), if_pos rfl, toI_none fun k hk e => by have := (h.inr k hk).1.2; omega]
      exact World.ownsRow_nil _ _ _ _
  · intro i j b hi hj hij e
    rcases two i hi with q | rfl
    · rw [if_pos q] at e
      rcases two j hj with q2 | rfl
      · rw [if_pos q2]; exact h.dff i j b q q2 hij e
      · rw [if_neg (by omega), if_pos rfl]; intro e2; cases e2
    · rw [if_neg (by omega), if_pos rfl] at e; cases e
  · intro i j b hi hj hij e
    rcases two i hi with q | rfl
    · rw [if_pos q] at e
      rcases two j hj with q2 | rfl
      · rw [if_pos q2]; exact h.dtt i j b q q2 hij e
      · rw [if_neg (by omega), if_pos rfl]; intro e2; cases e2
    · rw [if_neg (by omega), if_pos rfl] at e; cases e
  · intro i j b hi hj e
    rcases two i hi with q | rfl
    · rw [if_pos q] at e
      rcases two j hj with q2 | rfl
      · rw [if_pos q2]; exact h.dft i j b q q2 e
      · rw [if_neg (by omega), if_pos rfl]; intro e2; cases e2
    · rw [if_neg (by omega), if_pos rfl] at e; cases e
  · exact .inl h.oG
  · exact .inl h.oM
  · exact fun b e => .inr e
  · exact fun b e => .inl (h.oK b e)
  · intro i b hi e
    rcases two i hi with q | rfl
    · rw [if_pos q] at e; exact .inl (h.oF i b q e)
    · rw [if_neg (by omega), if_pos rfl] at e; cases e
  · intro i b hi e
    rcases two i hi with q | rfl
    · rw [if_pos q] at e; exact .inl (h.oT i b q e)
    · rw [if_neg (by omega), if_pos rfl] at e; cases e
  · intro i b hi e q2
    rcases two i hi with q | rfl
    · rw [if_pos q] at e
      rcases q2 with q2 | q2
      · exact h.oS i b q e q2
      · have h1 := own_kind (owns_kp (h.snd i q) hk fun b e => nT b _ (own_kind (h.snd i q) e) (by decide) (by decide)) e
        rw [kA b q2] at h1
        exact absurd h1 (by decide)
    · rw [if_neg (by omega), if_pos rfl] at e
      rcases q2 with q2 | q2
      · have h1 := h.lt b q2
        have h2 := (hsnd.lt b e).1
        omega
      · have h1 := own_kind hsnd e
        rw [kA b q2] at h1
        exact absurd h1 (by decide)
  · intro k q
    rcases q with q | q
    · exact Nat.lt_of_lt_of_le (h.lt k q) hk.size
    · exact (hlist.lt k q).2
  · omega
  · exact h.nL
  · intro k hk2
    have := h.inr k hk2
    omega
  · intro i hi
    rcases two i hi with q | rfl
    · rw [if_pos q]; exact h.fit i q
    · rw [if_neg (by omega), if_pos rfl]; exact ⟨hF, hl, hL⟩
  · rw [List.map_append, List.nodup_append]
    refine ⟨h.nod, by simp, ?_⟩
    intro a ha b hb e
    simp at hb
    subst hb
    subst e
    have : gG (es.map eK) (eK (lang, l)) = true := gG_iff.2 ha
    rw [show eK (lang, l) = keyB lang l from rfl, hG] at this
    cases this
end Go.Proofs.YtmfomjaomhohkaaDoor
namespace Go.Proofs.YtmfomjaomhohkaaDoor
open Go.RowKit Go.Shelf
attribute [local go_sem] Oper.semAt_some
def encQ (x : Nat × Nat) : Array Value := #[.int .i64 (x.1 : Int), .int .u64 (x.2 : Int)]
theorem bools_made (n : Nat) : madeCells #[Value.bool false] n = ofF n (fun _ => .bool false) := by
  apply Array.ext
  · simp [madeCells, ofF]
  · intro i h1 h2
    simp [madeCells, ofF, Nat.mod_one]
theorem u64s_made (n : Nat) : madeCells #[Value.int .u64 0] n = ofF n (fun _ => .int .u64 0) := by
  apply Array.ext
  · simp [madeCells, ofF]
  · intro i h1 h2
    simp [madeCells, ofF, Nat.mod_one]
theorem info_B : (Tryd.prog.info? 4).map (fun i => (i.zero, i.size, i.bytes)) = some (some (.bool false), 1, 1) := by kernel_rfl
theorem rd_dropNd {w : World} {b o : Nat} {t : List Nd} (h : Rd w (some ⟨b, o, none⟩) (fl encNd t)) (h1 : 0 < t.length) : ∀ i, i + 1 < t.length → w.cell? ⟨b, o + 2 + i * 2, none⟩ = some (.int .i64 (nP t (i + 1))) ∧ w.cell? ⟨b, o + 2 + i * 2 + 1, none⟩ = some (.string (nS t (i + 1))) := by
  intro i hi
  obtain ⟨b', o', e, _, hc⟩ := rdNd h h1
  have e2 := Option.some.inj e
  obtain rfl := (Addr.mk.inj e2).1
  obtain rfl := (Addr.mk.inj e2).2.1
  have := hc (i + 1) hi
  rw [show o + (i + 1) * 2 = o + 2 + i * 2 by omega] at this
  exact this
/-- A node's number and a set. -/
abbrev NQ (n : Nat) := Fin n × U64
def qN {n : Nat} (x : NQ n) : Nat × Nat := (x.1.val, x.2.val)
end Go.Proofs.YtmfomjaomhohkaaDoor
namespace Go.Proofs.YtmfomjaomhohkaaDoor
open Go Go.RowKit Go.Shelf
theorem oneSd : ∀ x : Sd, ∀ u ∈ encSd x, u.oneCell' = true := by
  intro x u hu
  simp only [encSd, List.mem_cons, List.not_mem_nil, or_false] at hu
  rcases hu with rfl | rfl <;> rfl
theorem oneLk : ∀ x : Lk, ∀ u ∈ encLk x, u.oneCell' = true := by
  intro x u hu
  simp only [encLk, List.mem_cons, List.not_mem_nil, or_false] at hu
  rcases hu with rfl | rfl | rfl <;> rfl
theorem oneI : ∀ x : Int, ∀ u ∈ encI x, u.oneCell' = true := by
  intro x u hu
  simp only [encI, List.mem_cons, List.not_mem_nil, or_false] at hu
  rcases hu with rfl; rfl
theorem infoSd : (Tryd.prog.info? 57).map (fun i => (i.zero, i.size, i.bytes)) = some (some (.agg #[.int .u32 0, .int .u32 0]), 2, 8) := by kernel_rfl
theorem infoLk : (Tryd.prog.info? 33).map (fun i => (i.zero, i.size, i.bytes)) = some (some (.agg #[.int .i64 0, .int .i64 0, .int .i64 0]), 3, 24) := by kernel_rfl
theorem owns_empty (W : World) {B : Nat} (hB : B ≤ W.heap.size) (e k : Nat) : (W.alloc (.cells #[] e)).ownsRow B e k (.slice (some ⟨W.heap.size, 0, none⟩) 0 0) 0 [] := by
  have := owns_made (w := W) (base := B) (e := e) (k := k) (n := 0) (cs := #[]) hB (by simp) (by omega)
  exact this
set_option maxHeartbeats 1000000 in
theorem cloneSd_any (a : Option Addr) (n c : Nat) (l : List Sd) (w : World) (hn : l.length = n) (hN : n < 1048576) (hA : Rd w a (fl encSd l)) (h0 : a = none → n = 0) :
    Calls Tryd.prog 42 #[.slice a n c] w fun e w' => ∃ v, e = .returned v ∧ w'.ownsRow w.heap.size 57 2 v n (fl encSd l) ∧ Below w.heap.size w w' := by
  cases a with
  | none =>
    obtain rfl : n = 0 := h0 rfl
    have e : l = [] := List.eq_nil_of_length_eq_zero hn
    subst e
    have q29 : ∀ (w : World), (binOp .eql 58 (.slice none 0 c) (.slice none 0 0)).run Tryd.prog w = .ok (.bool true) w := fun w => Lib.run_eql_slice_nil w _ _ none 0 c 0 0 Tryd.underlying58
    go_enter Tryd.func42, Tryd.ntmps42
    go_wp2_with fail
    go_ret
    exact ⟨.slice none 0 0, rfl, World.ownsRow_nil _ _ _ _, Below.refl _ _⟩
  | some ad =>
    have HN := Lib.hid hn
    clear hn h0
    have q29 : ∀ (w : World) (n c : Nat), (binOp .eql 58 (.slice (some ad) n c) (.slice none 0 0)).run Tryd.prog w = .ok (.bool false) w := fun w n c => Lib.run_eql_slice_nil w _ _ (some ad) n c 0 0 Tryd.underlying58
    have HO := Lib.hid (owns_empty w (Nat.le_refl _) 57 2)
    have HA1 := Lib.hid (hA.bl (bl_alloc (Below.refl _ w) (.cells #[] 57)))
    have HB1 := Lib.hid (bl_alloc (Below.refl w.heap.size w) (.cells #[] 57))
    clear hA
    go_enter Tryd.func42, Tryd.ntmps42
    go_wp2_with (at_builtin; refine wpList_pushs (enc := encSd) (k := 2) (bytes := 8) rfl encSd_len (by decide) oneSd (base := w.heap.size) Tryd.underlying58 infoSd rfl (.tmp 5) (.tmp 6) rfl (.slice (some ⟨w.heap.size, 0, none⟩) 0 0) ([] : List Sd) 0 rfl rfl HO.out (some ad) n c l HN.out.symm rfl HA1.out (fun e => by cases e) (by omega) (by decide) HB1.out.size ?_; intro v1 w2 hw1 hw2 hw3; rw [Nat.zero_add, List.nil_append] at hw1; have H1 := Lib.hid hw1; have HB2 := Lib.hid (HB1.out.grown hw2 HB1.out.size (fun r e => (HO.out.lt r e).1)); clear hw1 hw2 hw3)
    go_ret
    exact ⟨v1, rfl, H1.out, HB2.out⟩
set_option maxHeartbeats 1000000 in
theorem cloneLk_any (a : Option Addr) (n c : Nat) (l : List Lk) (w : World) (hn : l.length = n) (hN : n < 1048576) (hA : Rd w a (fl encLk l)) (h0 : a = none → n = 0) :
    Calls Tryd.prog 46 #[.slice a n c] w fun e w' => ∃ v, e = .returned v ∧ w'.ownsRow w.heap.size 33 3 v n (fl encLk l) ∧ Below w.heap.size w w' := by
  cases a with
  | none =>
    obtain rfl : n = 0 := h0 rfl
    have e : l = [] := List.eq_nil_of_length_eq_zero hn
    subst e
    have q29 : ∀ (w : World), (binOp .eql 24 (.slice none 0 c) (.slice none 0 0)).run Tryd.prog w = .ok (.bool true) w := fun w => Lib.run_eql_slice_nil w _ _ none 0 c 0 0 Tryd.underlying24
    go_enter Tryd.func46, Tryd.ntmps46
    go_wp2_with fail
    go_ret
    exact ⟨.slice none 0 0, rfl, World.ownsRow_nil _ _ _ _, Below.refl _ _⟩
  | some ad =>
    have HN := Lib.hid hn
    clear hn h0
    have q29 : ∀ (w : World) (n c : Nat), (binOp .eql 24 (.slice (some ad) n c) (.slice none 0 0)).run Tryd.prog w = .ok (.bool false) w := fun w n c => Lib.run_eql_slice_nil w _ _ (some ad) n c 0 0 Tryd.underlying24
    have HO := Lib.hid (owns_empty w (Nat.le_refl _) 33 3)
    have HA1 := Lib.hid (hA.bl (bl_alloc (Below.refl _ w) (.cells #[] 33)))
    have HB1 := Lib.hid (bl_alloc (Below.refl w.heap.size w) (.cells #[] 33))
    clear hA
    go_enter Tryd.func46, Tryd.ntmps46
    go_wp2_with (at_builtin; refine wpList_pushs (enc := encLk) (k := 3) (bytes := 24) rfl encLk_len (by decide) oneLk (base := w.heap.size) Tryd.underlying24 infoLk rfl (.tmp 5) (.tmp 6) rfl (.slice (some ⟨w.heap.size, 0, none⟩) 0 0) ([] : List Lk) 0 rfl rfl HO.out (some ad) n c l HN.out.symm rfl HA1.out (fun e => by cases e) (by omega) (by decide) HB1.out.size ?_; intro v1 w2 hw1 hw2 hw3; rw [Nat.zero_add, List.nil_append] at hw1; have H1 := Lib.hid hw1; have HB2 := Lib.hid (HB1.out.grown hw2 HB1.out.size (fun r e => (HO.out.lt r e).1)); clear hw1 hw2 hw3)
    go_ret
    exact ⟨v1, rfl, H1.out, HB2.out⟩
set_option maxHeartbeats 1000000 in
theorem cloneI_any (a : Option Addr) (n c : Nat) (l : List Int) (w : World) (hn : l.length = n) (hN : n < 1048576) (hA : Rd w a (fl encI l)) (h0 : a = none → n = 0) :
    Calls Tryd.prog 47 #[.slice a n c] w fun e w' => ∃ v, e = .returned v ∧ w'.ownsRow w.heap.size 3 1 v n (fl encI l) ∧ Below w.heap.size w w' := by
  cases a with
  | none =>
    obtain rfl : n = 0 := h0 rfl
    have e : l = [] := List.eq_nil_of_length_eq_zero hn
    subst e
    have q29 : ∀ (w : World), (binOp .eql 31 (.slice none 0 c) (.slice none 0 0)).run Tryd.prog w = .ok (.bool true) w := fun w => Lib.run_eql_slice_nil w _ _ none 0 c 0 0 Tryd.underlying31
    go_enter Tryd.func47, Tryd.ntmps47
    go_wp2_with fail
    go_ret
    exact ⟨.slice none 0 0, rfl, World.ownsRow_nil _ _ _ _, Below.refl _ _⟩
  | some ad =>
    have HN := Lib.hid hn
    clear hn h0
    have q29 : ∀ (w : World) (n c : Nat), (binOp .eql 31 (.slice (some ad) n c) (.slice none 0 0)).run Tryd.prog w = .ok (.bool false) w := fun w n c => Lib.run_eql_slice_nil w _ _ (some ad) n c 0 0 Tryd.underlying31
    have HO := Lib.hid (owns_empty w (Nat.le_refl _) 3 1)
    have HA1 := Lib.hid (hA.bl (bl_alloc (Below.refl _ w) (.cells #[] 3)))
    have HB1 := Lib.hid (bl_alloc (Below.refl w.heap.size w) (.cells #[] 3))
    clear hA
    go_enter Tryd.func47, Tryd.ntmps47
    go_wp2_with (at_builtin; refine wpList_pushs (enc := encI) (k := 1) (bytes := 8) rfl encI_len (by decide) oneI (base := w.heap.size) Tryd.underlying31 info_I rfl (.tmp 5) (.tmp 6) rfl (.slice (some ⟨w.heap.size, 0, none⟩) 0 0) ([] : List Int) 0 rfl rfl HO.out (some ad) n c l HN.out.symm rfl HA1.out (fun e => by cases e) (by omega) (by decide) HB1.out.size ?_; intro v1 w2 hw1 hw2 hw3; rw [Nat.zero_add, List.nil_append] at hw1; have H1 := Lib.hid hw1; have HB2 := Lib.hid (HB1.out.grown hw2 HB1.out.size (fun r e => (HO.out.lt r e).1)); clear hw1 hw2 hw3)
    go_ret
    exact ⟨v1, rfl, H1.out, HB2.out⟩
end Go.Proofs.YtmfomjaomhohkaaDoor
namespace Go.Proofs.YtmfomjaomhohkaaDoor
open Go Go.RowKit Go.Shelf
theorem none_row {w : World} {base e k n c : Nat} {a : Option Addr} {xs : List Value} (h : w.ownsRow base e k (.slice a n c) n xs) (ha : a = none) : n = 0 := by
  subst ha
  rcases h.2 with ⟨_, h⟩ | ⟨g, cap, cur, h, _⟩
  · exact h
  · cases h
theorem own_capQ {w : World} {base e k n c : Nat} {a : Option Addr} {xs : List Value} (h : w.ownsRow base e k (.slice a n c) n xs) : n ≤ c := by
  rcases h.2 with ⟨h, h2⟩ | ⟨g, cap, cur, h, _, _, h3, _⟩
  · omega
  · simp only [Value.slice.injEq] at h
    obtain ⟨_, _, rfl⟩ := h
    exact h3
set_option maxHeartbeats 2000000 in
set_option maxRecDepth 100000 in
theorem links_yes {w : World} {O : Nat → Prop} {g : Nat} {r : GrA} {es : List Et} {ls : List Lk} (h : GrAt w O g r es ls) :
    Calls Tryd.prog 24 #[.pointer (some ⟨g, 0, none⟩)] w fun e w' => ∃ v, e = .returned v ∧ w'.ownsRow w.heap.size 33 3 v ls.length (fl encLk ls) ∧ Below w.heap.size w w' := by
  have c1 : w.cell? ⟨g, 1, none⟩ = some (.slice r.B ls.length r.d) := h.blk.cell 1
  have HM := Lib.hid (made_yes h)
  have hO := h.lks
  have h0 : r.B = none → ls.length = 0 := fun e => by
    exact none_row hO e
  have HC := Lib.hid (cloneLk_any r.B ls.length r.d ls w rfl (by have := h.nL; omega) (rd_of_owns hO) h0)
  clear h hO h0
  go_enter Tryd.func24, Tryd.ntmps24
  go_wp2_with first | fail | (refine HM.out.mono ?_; rintro e w1 ⟨rfl, hw⟩; subst w1)
  refine HC.out.mono ?_
  rintro e w1 ⟨v, rfl, h1, h2⟩
  have H1 := Lib.hid h1
  have H2 := Lib.hid h2
  clear h1 h2
  go_wp2_with fail
  go_ret
  exact ⟨_, rfl, H1.out, H2.out⟩
set_option maxHeartbeats 1000000 in
set_option maxRecDepth 100000 in
theorem links_no {w : World} {v : Value} (h : GrNo w v) :
    Calls Tryd.prog 24 #[v] w fun e w' => e = .returned (.slice none 0 0) ∧ w' = w := by
  have HM := Lib.hid (made_no h)
  clear h
  go_enter Tryd.func24, Tryd.ntmps24
  go_wp2_with first | fail | (refine HM.out.mono ?_; rintro e w1 ⟨rfl, hw⟩; subst w1)
  go_ret
  exact ⟨rfl, rfl⟩
set_option maxHeartbeats 1000000 in
set_option maxRecDepth 100000 in
theorem at_no {w : World} {v : Value} (h : GrNo w v) (n : Int) :
    Calls Tryd.prog 28 #[v, .int .i64 n] w fun e w' => e = .returned (.tuple #[.string ByteArray.empty, .slice none 0 0, .bool false]) ∧ w' = w := by
  have HM := Lib.hid (has_no h n)
  clear h
  go_enter Tryd.func28, Tryd.ntmps28
  go_wp2_with first | fail | (refine HM.out.mono ?_; rintro e w1 ⟨rfl, hw⟩; subst w1)
  go_ret3
  exact ⟨rfl, rfl⟩
set_option maxHeartbeats 1000000 in
set_option maxRecDepth 100000 in
theorem at_yes {w : World} {O : Nat → Prop} {g : Nat} {r : GrA} {es : List Et} {ls : List Lk} (h : GrAt w O g r es ls) (n : Nat) (hn : n < es.length) :
    Calls Tryd.prog 28 #[.pointer (some ⟨g, 0, none⟩), .int .i64 n] w fun e w' => ∃ v, e = .returned (.tuple #[.string (es.getD n etD).1, v, .bool true]) ∧ w'.ownsRow w.heap.size 57 2 v (es.getD n etD).2.length (fl encSd (es.getD n etD).2) ∧ Below w.heap.size w w' := by
  have c0 : w.cell? ⟨g, 0, none⟩ = some (.slice r.A es.length r.c) := h.blk.cell 0
  have hhas := has_yes h n
  rw [show hasB n es.length = true by unfold hasB; simp; omega] at hhas
  have HM := Lib.hid hhas
  obtain ⟨b, o, hA, hb, hc⟩ := rdEn (rd_of_owns h.list) (by have := h.len; omega)
  obtain ⟨d0, d1, _, _⟩ := hc n (by have := h.len; omega)
  rw [h.lang n hn] at d0
  have hO := h.snd n hn
  have hfit := h.fit n hn
  rw [hA] at c0
  obtain ⟨⟨wa, wn, wc⟩, hwr⟩ : ∃ x, x = (r.ens.getD n enD).w := ⟨_, rfl⟩
  rw [← hwr] at d1 hO
  obtain ⟨a', c', e', _⟩ := owns_slice hO
  obtain ⟨rfl, rfl, rfl⟩ : wa = a' ∧ wn = (es.getD n etD).2.length ∧ wc = c' := by
    unfold slR at e'
    simp only [Value.slice.injEq] at e'
    exact e'
  have h0 : wa = none → (es.getD n etD).2.length = 0 := fun e => none_row hO e
  have hlen : (es.getD n etD).2.length < 1048576 := by omega
  have HC := Lib.hid (fun (W : World) (hW : Below w.heap.size w W) => cloneSd_any wa (es.getD n etD).2.length wc (es.getD n etD).2 W rfl hlen ((rd_of_owns hO).bl hW) h0)
  have hnE := h.nE
  have hcap := own_capQ h.list
  unfold slR at d1
  obtain ⟨S, hS⟩ : ∃ x, x = (es.getD n etD).2 := ⟨_, rfl⟩
  obtain ⟨s, hs⟩ : ∃ x, x = (es.getD n etD).1 := ⟨_, rfl⟩
  obtain ⟨N, hN⟩ : ∃ x, x = es.length := ⟨_, rfl⟩
  rw [← hS] at d1 HC
  rw [← hs] at d0
  rw [← hN] at c0 hn hnE hcap
  rw [← hS, ← hs]
  have hgl := h.blk.lt
  have HB := Lib.hid (Below.refl w.heap.size w)
  clear h hhas hc hA hwr hO hfit h0 hlen hS hs hN
  obtain ⟨m, hm⟩ : ∃ m, m = S.length := ⟨_, rfl⟩
  rw [← hm] at d1 HC
  rw [← hm]
  clear e' hm
  go_enter Tryd.func28, Tryd.ntmps28
  go_wp2_with first | fail | (refine HM.out.mono ?_; rintro e w1 ⟨rfl, hw⟩; subst w1)
  refine wp_region_order (S := fun w' => w'.cell? ⟨g, 0, none⟩ = some (.slice (some ⟨b, o, none⟩) N r.c) ∧ w'.cell? ⟨b, o + n * 4, none⟩ = some (.string s) ∧ w'.cell? ⟨b, o + n * 4 + 1, none⟩ = some (.slice wa m wc)) 17 [0,1,2,3,4,5,6,7,8,9,10,11,12,13,14,15] [16] (by kernel_rfl) (by kernel_rfl) ⟨c0, d0, d1⟩ ?_
  iterate 16 (refine headT_cons (by rfl) (by rfl) (by intro w hSw; obtain ⟨s0, s1, s2⟩ := hSw; go_simp; try rfl) ?_; simp only [Act.put, List.setIfInBounds_toArray, List.set_cons_zero, List.set_cons_succ])
  refine headT_nil ?_
  obtain ⟨w4, hw4⟩ : ∃ x, x = w.drew := ⟨_, rfl⟩
  rw [← hw4]
  have hb4 : Below w.heap.size w w4 := by rw [hw4]; exact bl_drewN (Below.refl _ _) 1
  clear hw4
  refine midT_cons (by rfl) (fun K hK => ?_)
  rw [if_pos (by rfl)]
  go_simp
  refine (HC.out w4 hb4).mono ?_
  rintro e w5 ⟨v, rfl, h1, h2⟩
  have H1 := Lib.hid h1
  have H2 := Lib.hid (bl_trans hb4 h2)
  have g0 := (H2.out.cell (p := ⟨g, 0, none⟩) hgl).trans c0
  have g1 := (H2.out.cell (p := ⟨b, o + n * 4, none⟩) hb).trans d0
  have g2 := (H2.out.cell (p := ⟨b, o + n * 4 + 1, none⟩) hb).trans d1
  refine hK.out _ _ ⟨g0, g1, g2⟩ (fun _ => ?_)
  clear hK K h1 h2
  try simp only [Act.put, List.setIfInBounds_toArray, List.set_cons_zero, List.set_cons_succ]
  refine midT_nil ?_
  simp only [List.drop_succ_cons, List.drop_zero]
  go_wp2_with fail
  refine NoPanic.normal ?_
  go_wp2_with fail
  go_ret3
  exact ⟨_, rfl, owns_mono H1.out hb4.size, H2.out⟩
end Go.Proofs.YtmfomjaomhohkaaDoor
namespace Go.Proofs.YtmfomjaomhohkaaDoor
open Go Go.RowKit Go.Shelf
theorem snoc_ind {α : Type} {p : List α → Prop} (h0 : p []) (hs : ∀ l a, p l → p (l ++ [a])) (l : List α) : p l := by
  have : ∀ m : List α, p m.reverse := by
    intro m
    induction m with
    | nil => exact h0
    | cons a m ih => rw [List.reverse_cons]; exact hs _ _ ih
  have h := this l.reverse
  rwa [List.reverse_reverse] at h
theorem nodup_ltN : ∀ (N : Nat) (l : List Nat), l.Nodup → (∀ a ∈ l, a < N) → l.length ≤ N
  | 0, l, _, hl => by
    cases l with
    | nil => simp
    | cons a l => have := hl a (by simp); omega
  | N + 1, l, hn, hl => by
    have h1 : (l.erase N).length ≤ N := nodup_ltN N (l.erase N) (hn.erase N) fun a ha => by
      have h2 := (hn.mem_erase_iff).1 ha
      have := hl a h2.2
      have := h2.1
      omega
    have := List.length_erase (a := N) (l := l)
    split at this <;> omega
/-- The links to a word. -/
def frK (ls : List Lk) (x : Nat) : List Nat := (List.range ls.length).filter fun k => decide (lT ls k = (x : Int))
theorem frI_K (ls : List Lk) (x : Nat) : frI ls x = (frK ls x).map Int.ofNat := rfl
/-- The words that these links come from. -/
def upL (ls : List Lk) (x : Nat) : List Nat := (frK ls x).map fun k => (lF ls k).toNat
theorem frK_mem {ls : List Lk} {x k : Nat} : k ∈ frK ls x ↔ k < ls.length ∧ lT ls k = (x : Int) := by simp [frK]
theorem upL_mem {ls : List Lk} {x a : Nat} : a ∈ upL ls x ↔ ∃ k, k < ls.length ∧ lT ls k = (x : Int) ∧ (lF ls k).toNat = a := by
  unfold upL
  rw [List.mem_map]
  constructor
  · rintro ⟨k, h, e⟩
    obtain ⟨h1, h2⟩ := frK_mem.1 h
    exact ⟨k, h1, h2, e⟩
  · rintro ⟨k, h1, h2, e⟩
    exact ⟨k, frK_mem.2 ⟨h1, h2⟩, e⟩
/-- Those that are not there yet are added at the end. -/
def addQ (q : List Nat) (l : List Nat) : List Nat := l.foldl (fun q a => if a ∈ q then q else q ++ [a]) q
theorem addQ_snoc (q l : List Nat) (a : Nat) : addQ q (l ++ [a]) = if a ∈ addQ q l then addQ q l else addQ q l ++ [a] := by unfold addQ; rw [List.foldl_append]; rfl
theorem addQ_mem (q : List Nat) : ∀ (l : List Nat) (a : Nat), a ∈ addQ q l ↔ a ∈ q ∨ a ∈ l := by
  intro l
  induction l using snoc_ind with
  | h0 => intro a; simp [addQ]
  | hs l b ih =>
    intro a
    rw [addQ_snoc]
    by_cases hb : b ∈ addQ q l
    · rw [if_pos hb, ih]
      have := (ih b).1 hb
      simp only [List.mem_append, List.mem_singleton]
      constructor
      · rintro (h | h)
        · exact .inl h
        · exact .inr (.inl h)
      · rintro (h | h | rfl)
        · exact .inl h
        · exact .inr h
        · exact this
    · rw [if_neg hb, List.mem_append, ih, List.mem_append, or_assoc]
theorem addQ_nodup {q : List Nat} (h : q.Nodup) : ∀ l : List Nat, (addQ q l).Nodup := by
  intro l
  induction l using snoc_ind with
  | h0 => exact h
  | hs l b ih =>
    rw [addQ_snoc]
    split
    · exact ih
    · rename_i hb
      exact List.nodup_append.2 ⟨ih, by simp, by rintro x hx y hy rfl; rw [List.mem_singleton] at hy; subst hy; exact hb hx⟩
theorem addQ_prefix (q : List Nat) : ∀ l : List Nat, q <+: addQ q l := by
  intro l
  induction l using snoc_ind with
  | h0 => exact List.prefix_refl _
  | hs l b ih =>
    rw [addQ_snoc]
    split
    · exact ih
    · exact ih.trans (List.prefix_append _ _)
theorem addQ_take (q l : List Nat) (j : Nat) : addQ q (l.take j) <+: addQ q l := by
  have h : addQ q l = addQ (addQ q (l.take j)) (l.drop j) := by
    unfold addQ
    rw [← List.foldl_append, List.take_append_drop]
  rw [h]; exact addQ_prefix _ _
/-- All that has been found behind k rounds. -/
def bfsQ (ls : List Lk) (n : Nat) : Nat → List Nat
  | 0 => [n]
  | k + 1 => if k < (bfsQ ls n k).length then addQ (bfsQ ls n k) (upL ls ((bfsQ ls n k).getD k 0)) else bfsQ ls n k
theorem bfs_succ {ls : List Lk} {n k : Nat} (h : k < (bfsQ ls n k).length) : bfsQ ls n (k + 1) = addQ (bfsQ ls n k) (upL ls ((bfsQ ls n k).getD k 0)) := by rw [bfsQ, if_pos h]
theorem bfs_nodup (ls : List Lk) (n : Nat) : ∀ k, (bfsQ ls n k).Nodup
  | 0 => by simp [bfsQ]
  | k + 1 => by
    rw [bfsQ]; split
    · exact addQ_nodup (bfs_nodup ls n k) _
    · exact bfs_nodup ls n k
theorem bfs_step (ls : List Lk) (n k : Nat) : bfsQ ls n k <+: bfsQ ls n (k + 1) := by
  rw [bfsQ]; split
  · exact addQ_prefix _ _
  · exact List.prefix_refl _
theorem bfs_pre (ls : List Lk) (n : Nat) {k m : Nat} (h : k ≤ m) : bfsQ ls n k <+: bfsQ ls n m := by
  induction h with
  | refl => exact List.prefix_refl _
  | step _ ih => exact ih.trans (bfs_step ls n _)
theorem bfs_stop {ls : List Lk} {n k : Nat} (h : (bfsQ ls n k).length ≤ k) : ∀ m, k ≤ m → bfsQ ls n m = bfsQ ls n k := by
  intro m hm
  induction hm with
  | refl => rfl
  | step hm ih => rw [bfsQ, if_neg (by have hm := Nat.le_of_lt_succ (Nat.lt_succ_of_le hm); rw [ih]; omega), ih]
/-- The links lie within the words. -/
def LkIn (ls : List Lk) (N : Nat) : Prop := ∀ k, k < ls.length → (0 ≤ lF ls k ∧ lF ls k < (N : Int)) ∧ 0 ≤ lT ls k ∧ lT ls k < (N : Int)
theorem bfs_lt {ls : List Lk} {N n : Nat} (hi : LkIn ls N) (hn : n < N) : ∀ k, ∀ a ∈ bfsQ ls n k, a < N
  | 0 => by intro a ha; simp [bfsQ] at ha; omega
  | k + 1 => by
    intro a ha
    rw [bfsQ] at ha
    split at ha
    · rcases (addQ_mem _ _ _).1 ha with h | h
      · exact bfs_lt hi hn k a h
      · obtain ⟨j, h1, _, h3⟩ := upL_mem.1 h
        have := (hi j h1).1
        omega
    · exact bfs_lt hi hn k a ha
theorem nodup_len {l : List Nat} {N : Nat} (h : l.Nodup) (hl : ∀ a ∈ l, a < N) : l.length ≤ N := by
  exact nodup_ltN N l h hl
theorem bfs_len {ls : List Lk} {N n : Nat} (hi : LkIn ls N) (hn : n < N) (k : Nat) : (bfsQ ls n k).length ≤ N := nodup_len (bfs_nodup ls n k) (bfs_lt hi hn k)
/-- The word n and all words above it. -/
def abL (ls : List Lk) (N n : Nat) : List Nat := bfsQ ls n N
theorem ab_len {ls : List Lk} {N n : Nat} (hi : LkIn ls N) (hn : n < N) : (abL ls N n).length ≤ N := bfs_len hi hn N
theorem ab_nodup (ls : List Lk) (N n : Nat) : (abL ls N n).Nodup := bfs_nodup ls n N
theorem ab_lt {ls : List Lk} {N n : Nat} (hi : LkIn ls N) (hn : n < N) : ∀ a ∈ abL ls N n, a < N := bfs_lt hi hn N
theorem ab_end {ls : List Lk} {N n k : Nat} (hi : LkIn ls N) (hn : n < N) (h : (bfsQ ls n k).length = k) : abL ls N n = bfsQ ls n k := bfs_stop (by omega) N (by have := bfs_len hi hn k; omega)
theorem ab_at {ls : List Lk} {N n k : Nat} (hi : LkIn ls N) (hn : n < N) (h : k < (bfsQ ls n k).length) : (abL ls N n)[k]? = some ((bfsQ ls n k).getD k 0) := by
  have hk : k ≤ N := by have := bfs_len hi hn k; omega
  have h1 := bfs_pre ls n hk
  obtain ⟨t, ht⟩ := h1
  unfold abL
  rw [← ht, List.getElem?_append_left h, List.getD_eq_getElem?_getD, List.getElem?_eq_getElem h]; rfl
/-- A word x comes from a: a is it, or is above it. -/
inductive Up (ls : List Lk) : Nat → Nat → Prop
  | refl (n : Nat) : Up ls n n
  | step {a b n : Nat} (h : a ∈ upL ls b) (hb : Up ls b n) : Up ls a n
theorem Up.trans {ls : List Lk} {a b n : Nat} (h : Up ls a b) (k : Up ls b n) : Up ls a n := by
  induction h with
  | refl => exact k
  | step h _ ih => exact .step h (ih k)
theorem bfs_up {ls : List Lk} {n : Nat} : ∀ k, ∀ a ∈ bfsQ ls n k, Up ls a n
  | 0 => by intro a ha; simp [bfsQ] at ha; subst ha; exact .refl _
  | k + 1 => by
    intro a ha
    rw [bfsQ] at ha
    split at ha
    · rename_i hlt
      rcases (addQ_mem _ _ _).1 ha with h | h
      · exact bfs_up k a h
      · refine .step h (bfs_up k _ ?_)
        rw [List.getD_eq_getElem?_getD, List.getElem?_eq_getElem hlt]; exact List.getElem_mem _
    · exact bfs_up k a ha
theorem bfs_done {ls : List Lk} {n : Nat} : ∀ k i, i < k → i < (bfsQ ls n k).length → ∀ a ∈ upL ls ((bfsQ ls n k).getD i 0), a ∈ bfsQ ls n k
  | 0 => by intro i h; omega
  | k + 1 => by
    intro i hi hl a ha
    by_cases hlt : k < (bfsQ ls n k).length
    · have hp := bfs_step ls n k
      obtain ⟨t, ht⟩ := hp
      by_cases e : i = k
      · subst e
        rw [bfs_succ hlt]
        have e2 : (bfsQ ls n (i + 1)).getD i 0 = (bfsQ ls n i).getD i 0 := by
          rw [← ht, List.getD_eq_getElem?_getD, List.getElem?_append_left hlt, ← List.getD_eq_getElem?_getD]
        rw [e2] at ha
        exact (addQ_mem _ _ _).2 (.inr ha)
      · have e2 : (bfsQ ls n (k + 1)).getD i 0 = (bfsQ ls n k).getD i 0 := by
          rw [← ht, List.getD_eq_getElem?_getD, List.getElem?_append_left (by omega), ← List.getD_eq_getElem?_getD]
        rw [e2] at ha
        have := bfs_done k i (by omega) (by omega) a ha
        rw [← ht]; exact List.mem_append_left _ this
    · have e : bfsQ ls n (k + 1) = bfsQ ls n k := by rw [bfsQ, if_neg hlt]
      rw [e] at hl ha ⊢
      exact bfs_done k i (by omega) hl a ha
theorem ab_self (ls : List Lk) (N n : Nat) : n ∈ abL ls N n := by
  obtain ⟨t, ht⟩ := bfs_pre ls n (Nat.zero_le N)
  unfold abL
  rw [← ht]; simp [bfsQ]
/-- What is found: all words from which n comes. -/
theorem ab_iff {ls : List Lk} {N n a : Nat} (hi : LkIn ls N) (hn : n < N) : a ∈ abL ls N n ↔ Up ls a n := by
  constructor
  · exact bfs_up N a
  · intro h
    induction h with
    | refl => exact ab_self ls N _
    | @step a b n h _ ih =>
      have h2 := ih hn
      obtain ⟨i, hi2, e⟩ := List.getElem_of_mem h2
      have := bfs_done (ls := ls) N i (by have := ab_len (ls := ls) hi hn; omega) hi2
      refine this _ ?_
      have e2 : (bfsQ ls n N).getD i 0 = b := by
        rw [List.getD_eq_getElem?_getD, show (bfsQ ls n N)[i]? = some b from (List.getElem?_eq_getElem hi2).trans (congrArg some e)]; rfl
      rw [e2]; exact h
end Go.Proofs.YtmfomjaomhohkaaDoor
namespace Go.Proofs.YtmfomjaomhohkaaDoor
open Go Go.RowKit Go.Shelf
/-- v shows the ints xs. -/
def QRow (w : World) (base : Nat) (v : Value) (m : Nat) (xs : List Int) : Prop :=
  ∃ g off c cur, v = .slice (some ⟨g, off, none⟩) m c ∧ base ≤ g ∧ w.heap[g]? = some (.cells cur 3 (0, 0)) ∧ m ≤ c ∧ off + c ≤ cur.size ∧ xs.length = m ∧ ∀ i, i < m → cur[off + i]? = some (.int .i64 (iA xs i))
theorem QRow.len {w : World} {base : Nat} {v : Value} {m : Nat} {xs : List Int} (h : QRow w base v m xs) : xs.length = m := by
  obtain ⟨_, _, _, _, _, _, _, _, _, h, _⟩ := h
  exact h
theorem QRow.kept {w w' : World} {base : Nat} {v : Value} {m : Nat} {xs : List Int} (h : QRow w base v m xs) (hb : ∀ b, v.ownBlock = some b → w'.heap[b]? = w.heap[b]?) : QRow w' base v m xs := by
  obtain ⟨g, off, c, cur, rfl, h1, h2, h3⟩ := h
  exact ⟨g, off, c, cur, rfl, h1, (hb g rfl).trans h2, h3⟩
theorem QRow.bl {w w' : World} {base : Nat} {v : Value} {m : Nat} {xs : List Int} (h : QRow w base v m xs) (hb : Below w.heap.size w w') : QRow w' base v m xs := by
  obtain ⟨g, off, c, cur, rfl, h1, h2, h3⟩ := h
  exact ⟨g, off, c, cur, rfl, h1, (hb.block g (Array.getElem?_eq_some_iff.1 h2).1).trans h2, h3⟩
theorem QRow.at {w : World} {base : Nat} {v : Value} {m : Nat} {xs : List Int} (h : QRow w base v m xs) : ∃ g off c, v = .slice (some ⟨g, off, none⟩) m c ∧ base ≤ g ∧ g < w.heap.size ∧ m ≤ c ∧ ∀ i, i < m → w.cell? ⟨g, off + i, none⟩ = some (.int .i64 (iA xs i)) := by
  obtain ⟨g, off, c, cur, rfl, h1, h2, h3, h4, h5, h6⟩ := h
  exact ⟨g, off, c, rfl, h1, (Array.getElem?_eq_some_iff.1 h2).1, h3, fun i hi => by simp [World.cell?, h2, h6 i hi]⟩
/-- Cut at its front. -/
theorem QRow.cut {w : World} {base g off c m : Nat} {xs : List Int} (h : QRow w base (.slice (some ⟨g, off, none⟩) (m + 1) c) (m + 1) xs) : QRow w base (.slice (some ⟨g, if c = 1 then off else off + 1, none⟩) m (c - 1)) m (xs.drop 1) := by
  obtain ⟨g', off', c', cur, e, h1, h2, h3, h4, h5, h6⟩ := h
  simp only [Value.slice.injEq, Option.some.injEq, Addr.mk.injEq, true_and, and_true] at e
  obtain ⟨⟨rfl, rfl⟩, rfl⟩ := e
  refine ⟨g, _, _, cur, rfl, h1, h2, by omega, by split <;> omega, by rw [List.length_drop]; omega, fun i hi => ?_⟩
  rw [if_neg (by omega), show off + 1 + i = off + (i + 1) by omega, h6 (i + 1) (by omega)]
  unfold iA
  rw [List.getD_eq_getElem?_getD, List.getD_eq_getElem?_getD, List.getElem?_drop, Nat.add_comm]
theorem wpList_pushQ {w : World} {ops : Array Oper} {rest : List Oper} {o : Oper} {a : Act} {Q : Exit → Act → World → Prop} (hgd : o.guard = none) (s x : Operand) (ho : o.op = .call { callee := .builtin .append, args := #[s, x], argTypes := #[31, 31] })
    (base : Nat) (v : Value) (m : Nat) (xs : List Int) (hs : a.eval s = v) (hq : QRow w base v m xs) (hbase : base ≤ w.heap.size) (B c : Nat) (y : Int) (hx : a.eval x = .slice (some ⟨B, 0, none⟩) 1 c) (hB : Blk w B (encI y).toArray 3) (hm : m < 1048576)
    (h : ∀ v' w', QRow w' base v' (m + 1) (xs ++ [y]) → w.grownBy w' v.ownBlock → (v'.ownBlock = v.ownBlock ∨ ∃ b, v'.ownBlock = some b ∧ w.heap.size ≤ b) → wpList Tryd.prog ops Q rest (a.put o.dst v') w') : wpList Tryd.prog ops Q (o :: rest) a w := by
  obtain ⟨i0, hi, hz0, hz1, hz2⟩ := info_parts info_I
  obtain ⟨g, off, cap, cur, rfl, h1, h2, h3, h4, h5, h6⟩ := hq
  have hcl : ∀ j u, (fl encI xs)[j]? = some u → w.cell? ⟨g, off + j, none⟩ = some u := fun j u hu => by
    have hj : j < m := by
      rcases Nat.lt_or_ge j m with q | q
      · exact q
      · rw [List.getElem?_eq_none (by rw [fl_length encI_len]; omega)] at hu; cases hu
    have h7 : (fl encI xs)[j]? = some (.int .i64 (iA xs j)) := by
      have := fl_getElem? encI_len xs j 0 (by omega)
      rw [show j * 1 + 0 = j by omega] at this
      rw [this, List.getElem?_eq_getElem (by omega)]
      simp [encI, iA, show j < xs.length by omega]
    rw [h7] at hu
    cases hu
    simp [World.cell?, h2, h6 j hj]
  refine wpList_append_arg w hgd s x 31 ho 3 i0 _ 1 8 Tryd.underlying31 hi hz0 hz1 hz2 rfl (by decide) g off m cap (fl encI xs) hs (by rw [fl_length encI_len]; omega) hcl ⟨B, 0, none⟩ 1 c (encI y) hx (by simp [encI]) (World.news_of_block (cs := (encI y).toArray) (t := 3) (fr := (0, 0)) hB) (by intro u hu; simp [encI] at hu; subst hu; rfl) ?_ (by unfold maxLen; omega) (by omega) ?_ ?_
  · intro hr j hj
    have hj0 : j = 0 := by simp [encI] at hj; exact hj
    subst hj0
    have hlt : off + m < cur.size := by omega
    simp [World.cell?, World.frozen?, h2, hlt]
  · intro hr
    refine h _ _ ?_ ?_ (.inl rfl)
    · have hlt : off + m < cur.size := by omega
      refine ⟨g, off, cap, cur.setIfInBounds (off + m) (.int .i64 y), rfl, h1, ?_, hr, by simpa using h4, by simp [h5], fun i hi2 => ?_⟩
      · have e : w.setCells g (off + m * 1) (encI y) = w.setCell ⟨g, off + m, none⟩ (.int .i64 y) := by rw [Nat.mul_one]; rfl
        rw [e]
        simp [World.setCell, Array.getElem?_modify, h2]
      · unfold iA
        by_cases e : i = m
        · subst e
          rw [Array.getElem?_setIfInBounds_self_of_lt hlt, List.getD_eq_getElem?_getD, List.getElem?_append_right (by omega)]
          simp [h5]
        · rw [Array.getElem?_setIfInBounds_ne (by omega), h6 i (by omega), List.getD_eq_getElem?_getD, List.getElem?_append_left (by omega), ← List.getD_eq_getElem?_getD]; rfl
    · have e : w.setCells g (off + m * 1) (encI y) = w.setCell ⟨g, off + m, none⟩ (.int .i64 y) := by rw [Nat.mul_one]; rfl
      rw [e]
      exact ⟨rfl, rfl, rfl, by simp, fun k hk hn => Below.heap_setCell w ⟨g, off + m, none⟩ _ k (fun e => hn (by rw [e]; rfl))⟩
  · intro hr v' w' r1 r2
    rw [← fl_snoc] at r1
    obtain ⟨k1, k2⟩ := r1
    rcases k2 with ⟨_, k2⟩ | ⟨g', cap', cur', rfl, k3, k4, k5, _, k7, k8⟩
    · omega
    · refine h _ _ ⟨g', 0, cap', cur', rfl, by omega, k4, k5, by omega, by simp [h5], fun i hi2 => ?_⟩ ⟨r2.os, r2.tape, r2.output, r2.size, fun k hk _ => r2.block k hk (by simp)⟩ (.inr ⟨g', rfl, k3⟩)
      have h7 : (fl encI (xs ++ [y]))[i]? = some (.int .i64 (iA (xs ++ [y]) i)) := by
        have := fl_getElem? encI_len (xs ++ [y]) i 0 (by omega)
        rw [show i * 1 + 0 = i by omega] at this
        have hlt : i < (xs ++ [y]).length := by simp; omega
        rw [this, List.getElem?_eq_getElem hlt]
        unfold iA
        rw [List.getD_eq_getElem?_getD, List.getElem?_eq_getElem hlt]; rfl
      rw [← k8, List.getElem?_take, if_pos (by omega)] at h7
      rw [Nat.zero_add, ← Array.getElem?_toList]
      exact h7
end Go.Proofs.YtmfomjaomhohkaaDoor
namespace Go.Proofs.YtmfomjaomhohkaaDoor
open Go Go.RowKit Go.Shelf
/-- What a round does: O are the blocks that the caller may write, O' those behind the round. -/
structure StepO (O O' : Nat → Prop) (W W' : World) : Prop where
  old : ∀ B, O' B → O B ∨ W.heap.size ≤ B
  lt : ∀ B, O' B → B < W'.heap.size
  size : W.heap.size ≤ W'.heap.size
  kp : ∀ (B : Nat) (cs : Array Value) (t : TypeId) (fr : Nat × Nat), ¬ O B → W.heap[B]? = some (.cells cs t fr) → W'.heap[B]? = some (.cells cs t fr)
theorem put_kp {W : World} {l B : Nat} {o o' : Obj} {cs : Array Value} {t : TypeId} {fr : Nat × Nat} (h : W.heap[l]? = some o) (hc : o.isCells = false) (hB : W.heap[B]? = some (.cells cs t fr)) : (W.putObj l o').heap[B]? = some (.cells cs t fr) := by
  have hg := grownBy_putObj' W l o'
  refine (hg.block B (Array.getElem?_eq_some_iff.1 hB).1 (fun e => ?_)).trans hB
  have := Option.some.inj e
  subst this
  rw [h] at hB
  cases hB
  cases hc
theorem StepO.puts {O O' : Nat → Prop} {W W3 : World} {l : Nat} {o o1 o3 o4 : Obj} (h1 : W.heap[l]? = some o) (c1 : o.isCells = false) (h : StepO O O' (W.putObj l o1) W3) (h3 : W3.heap[l]? = some o3) (c3 : o3.isCells = false) : StepO O O' W (W3.putObj l o4) := by
  have z1 : (W.putObj l o1).heap.size = W.heap.size := by simp [World.putObj]
  have z3 : (W3.putObj l o4).heap.size = W3.heap.size := by simp [World.putObj]
  refine ⟨fun B hB => ?_, fun B hB => by rw [z3]; exact h.lt B hB, by rw [z3, ← z1]; exact h.size, fun B cs t fr hO hB => put_kp h3 c3 (h.kp B cs t fr hO (put_kp h1 c1 hB))⟩
  have := h.old B hB
  rw [z1] at this; exact this
section law
variable {F : Fence} {n : Nat} {P : Program}
/-- An iterator's word: it gives N elements; the i-th one, x, stands as Ew i O x says; the blocks Fx are those that it reads. -/
def GivesT (F : Fence) (n : Nat) (P : Program) (gf : Nat) (lb : Array Value) (Ew : Nat → (Nat → Prop) → Value → World → Prop) (N : Nat) (Fx : Nat → Prop) (w : World) : Prop :=
  ∀ (l : Nat) (J : Nat → (Nat → Prop) → World → Prop) (W : World) (O : Nat → Prop), Below w.heap.size w W → (∀ k O W1 W2, J k O W1 → Below W1.heap.size W1 W2 → J k O W2) →
    (∀ k O x W1, J k O W1 → k < N → (∀ B, O B → B < W1.heap.size) → Ew k O x W1 → YieldAt F (n - 1) P l #[x] W1 fun e W' => e = .returned (.bool true) ∧ ∃ O', J (k + 1) O' W' ∧ StepO (fun B => O B ∨ x.ownBlock = some B) O' W1 W') →
    (∀ B, O B → B < W.heap.size ∧ ¬ Fx B) → J 0 O W →
    CallsIn F n P gf (#[.func (.yield l) #[] #[]] ++ lb) W fun e W' => (∃ v, e = .returned v) ∧ ∃ O', J N O' W'
/-- How the body of a round is left. -/
def ownPostT (I : Nat → (Nat → Prop) → World → Prop) (k : Nat) (O : Nat → Prop) (x : Value) (W : World) : Exit → Act → World → Prop
  | .normal, _, W' => KeepsOthers W W' ∧ ∃ O', I (k + 1) O' W' ∧ StepO (fun B => O B ∨ x.ownBlock = some B) O' W W'
  | _, _, _ => False
theorem wpIn_range_T {g : Operand} {ps : Array Tmp} {assign body : Code} {Q : Exit → Act → World → Prop} {a : Act} {w : World} (hro : F.round = none) (h1 : 1 ≤ n) {gf : Nat} {lb : Array Value}
    (hg : a.eval g = .func (.func gf) #[] lb) (hF : F.fn gf) (he : ∀ args W, (callFunc gf args).run P W = .ok (.enter gf args) W) {Ew : Nat → (Nat → Prop) → Value → World → Prop} {N : Nat} {Fx : Nat → Prop}
    (hseq : GivesT F (n - 1) P gf lb Ew N Fx w) (hEw : ∀ k O x W l o o', Ew k O x W → W.heap[l]? = some o → o.isCells = false → Ew k O x (W.putObj l o')) (hps : ps.size = 1)
    (I : Nat → (Nat → Prop) → World → Prop) (hI : OwnFrom w.heap.size (fun (s : Nat × (Nat → Prop)) W => I s.1 s.2 W)) (O₀ : Nat → Prop) (hO : ∀ B, O₀ B → B < w.heap.size ∧ ¬ Fx B) (h0 : I 0 O₀ w) (b : Value → Act)
    (hassign : ∀ (l : Nat) (x : Value) (W : World) (K : Act → World → Prop), K (b x) W → assign.wpIn (F.inRound l) (n - 1 - 1) P (Exit.then K fun _ _ _ => False) { tmps := (ps.zip #[x]).foldl (fun t (p, v) => t.setIfInBounds p v) a.tmps, defers := [] } W)
    (hbody : ∀ (l k : Nat) (O : Nat → Prop) (x : Value) (W : World), I k O W → k < N → (∀ B, O B → B < W.heap.size) → Ew k O x W → body.wpIn (F.inRound l) (n - 1 - 1) P (ownPostT I k O x W) (b x) W)
    (hdone : ∀ (D : Nat) (O : Nat → Prop) (W : World), w.heap.size ≤ D → I N O W → W.heap[D]? = some (.deferred (some [])) → Q .normal { a with defers := { target := .collected D, args := #[] } :: a.defers } W) :
    (Code.rangeFunc g ps assign body).wpIn F n P Q a w := by
  apply wpIn_rangeFunc
  intro fn hfn
  rw [hro]
  let L : LoopState → Obj := fun s => .loop { state := s, pending := none, fn := fn, tmps := a.tmps, params := ps, assign := assign, body := body, defers := w.heap.size }
  obtain ⟨D, hD⟩ : ∃ D, D = w.heap.size := ⟨_, rfl⟩
  have hrun := run_enterLoop_outer (P := P) (w := w) fn a.tmps ps assign body
  let U : World := (w.alloc (.deferred (some []))).alloc (L .ready)
  have uD : U.heap[D]? = some (.deferred (some [])) := by
    rw [hD]
    exact (Below.heap_alloc (w.alloc (.deferred (some []))) (L .ready) _ (by simp)).trans (World.alloc_heap_new w _)
  have uL : U.heap[D + 1]? = some (L .ready) := by
    have h := World.alloc_heap_new (w.alloc (.deferred (some []))) (L .ready)
    rw [World.size_alloc, ← hD] at h; exact h
  have uB : Below w.heap.size w U := bl_alloc (bl_alloc (Below.refl _ _) _) _
  have put : ∀ {k : Nat} {O : Nat → Prop} {W : World} (o o' : Obj), I k O W → W.heap[D + 1]? = some o → o.isCells = false → I k O (W.putObj (D + 1) o') := fun {k O W} o o' h hl ho => hI.putObj (s := (k, O)) o' h (by omega) hl ho
  refine ⟨D + 1, [{ target := .collected D, args := #[] }], U, { target := .fn (.func gf) lb, args := #[.func (.yield (D + 1)) #[] #[]] }, U, gf, #[.func (.yield (D + 1)) #[] #[]] ++ lb, U, ?_, ?_, ?_, ?_, fun _ => h1, ?_⟩
  · rw [hD]; exact hrun
  · simp only [resolve, hg]; simp [go_sem]
  · intro f' hf'
    simp [Target.leads] at hf'
    rw [← hf']; exact hF
  · simp [invoke, go_sem, he]
  · let J : Nat → (Nat → Prop) → World → Prop := fun k O W => I k O W ∧ W.heap[D + 1]? = some (L .ready) ∧ W.heap[D]? = some (.deferred (some []))
    refine (hseq (D + 1) J U O₀ uB ?_ ?_ (fun B hB => ⟨Nat.lt_of_lt_of_le (hO B hB).1 uB.size, (hO B hB).2⟩) ⟨?_, uL, uD⟩).mono ?_
    · rintro k O W1 W2 ⟨h, hl, hd⟩ hb
      refine ⟨hI (k, O) W1 W2 none h ⟨hb.os, hb.tape, hb.output, hb.size, fun k hk _ => hb.block k hk⟩ (fun r e => by cases e), (hb.block _ (Array.getElem?_eq_some_iff.1 hl).1).trans hl, (hb.block _ (Array.getElem?_eq_some_iff.1 hd).1).trans hd⟩
    · rintro k O x W ⟨h, hl, hd⟩ hk hOl hx
      have lt : D + 1 < W.heap.size := (Array.getElem?_eq_some_iff.1 hl).1
      refine ⟨fn, _, assign, body, run_yield hl (by rw [hps]; rfl), roundIn_of_wpIn hfn (hassign _ x W _ ⟨_, run_beginRound hl rfl, ?_⟩)⟩
      let W2 : World := W.putObj (D + 1) (L .busy)
      have hl2 : W2.heap[D + 1]? = some (L .busy) := World.putObj_heap_same lt
      have hd2 : W2.heap[D]? = some (.deferred (some [])) := (World.putObj_heap_other (by omega)).trans hd
      have hz2 : W2.heap.size = W.heap.size := by show (W.putObj _ _).heap.size = _; simp [World.putObj]
      refine wpIn_mono (hbody (D + 1) k O x W2 (put _ _ h hl rfl) hk (fun B hB => by rw [hz2]; exact hOl B hB) (hEw k O x W (D + 1) _ _ hx hl rfl)) ?_
      intro e a3 W3 hp
      cases e with
      | normal =>
        obtain ⟨ko, O', h3, hst⟩ := hp
        have hl3 := ko.same _ _ hl2 rfl
        have hd3 := ko.same _ _ hd2 rfl
        have lt3 : D + 1 < W3.heap.size := (Array.getElem?_eq_some_iff.1 hl3).1
        exact ⟨_, _, run_endRound none hl3, rfl, O', ⟨put _ _ h3 hl3 rfl, World.putObj_heap_same lt3, (World.putObj_heap_other (by omega)).trans hd3⟩, StepO.puts hl rfl hst hl3 rfl⟩
      | ret => exact hp.elim
      | exit id => exact hp.elim
      | goto t => exact hp.elim
      | panic c => exact hp.elim
      | outgrown => exact hp.elim
    · exact hI.alloc (s := (0, O₀)) _ (hI.alloc (s := (0, O₀)) _ h0)
    · rintro e W2 ⟨⟨v, rfl⟩, O', h, hl, hd⟩
      refine ⟨none, _, run_endLoop hl (by simp), ?_⟩
      exact hdone D O' _ (by omega) (put _ _ h hl rfl) ((World.putObj_heap_other (by omega)).trans hd)
end law
end Go.Proofs.YtmfomjaomhohkaaDoor
namespace Go.Proofs.YtmfomjaomhohkaaDoor
open Go Go.RowKit Go.Shelf
/-- What may change while it is not the caller's turn: from n₀ on, but not what the caller calls its own. -/
def NotO (n₀ : Nat) (O : Nat → Prop) : Nat → Prop := fun B => n₀ ≤ B ∧ ¬ O B
theorem keeps_put {n₀ : Nat} {O : Nat → Prop} {W : World} {l : Nat} (o' : Obj) (hl : n₀ ≤ l) (hO : ¬ O l) : Keeps (NotO n₀ O) W (W.putObj l o') := by
  have hg := grownBy_putObj' W l o'
  exact ⟨hg.os, hg.tape, hg.output, hg.size, fun k hk hn => hg.block k hk fun e => hn (by rw [Option.some.inj e]; exact ⟨hl, hO⟩)⟩
section law
variable {F : Fence} {n : Nat} {P : Program}
/-- An iterator's word: it gives xs, one after another, until it is told to stop; the blocks Fx are those that it reads. -/
def GivesQ (F : Fence) (n : Nat) (P : Program) (gf : Nat) (lb : Array Value) (xs : List Value) (Fx : Nat → Prop) (w : World) : Prop :=
  ∀ (l : Nat) (J : Nat → (Nat → Prop) → World → Prop) (Jx : Nat → World → Prop) (W : World) (O : Nat → Prop), Below w.heap.size w W →
    (∀ k O W1 W2, J k O W1 → Keeps (NotO W.heap.size O) W1 W2 → J k O W2) →
    (∀ k O x W1, J k O W1 → xs[k]? = some x → (∀ B, O B → B < W1.heap.size) → YieldAt F (n - 1) P l #[x] W1 fun e W' =>
      (e = .returned (.bool true) ∧ ∃ O', J (k + 1) O' W' ∧ StepO O O' W1 W') ∨ (e = .returned (.bool false) ∧ Jx (k + 1) W')) →
    (∀ B, O B → B < W.heap.size ∧ ¬ Fx B) → J 0 O W →
    CallsIn F n P gf (#[.func (.yield l) #[] #[]] ++ lb) W fun e W' => (∃ v, e = .returned v) ∧ ((∃ O', J xs.length O' W') ∨ ∃ k, k < xs.length ∧ Jx (k + 1) W')
/-- How the body of a round is left. -/
def ownPostQ (I : Nat → (Nat → Prop) → World → Prop) (Ix : Code → Nat → World → Prop) (k : Nat) (O : Nat → Prop) (W : World) : Exit → Act → World → Prop
  | .normal, _, W' => KeepsOthers W W' ∧ ∃ O', I (k + 1) O' W' ∧ StepO O O' W W'
  | .ret, _, W' => KeepsOthers W W' ∧ Ix .ret (k + 1) W'
  | .exit id, _, W' => KeepsOthers W W' ∧ Ix (.exit id) (k + 1) W'
  | .goto t, _, W' => KeepsOthers W W' ∧ Ix (.goto t) (k + 1) W'
  | .panic _, _, _ => False
  | .outgrown, _, _ => False
theorem wpIn_range_Q {g : Operand} {ps : Array Tmp} {assign body : Code} {Q : Exit → Act → World → Prop} {a : Act} {w : World} (hro : F.round = none) (h1 : 1 ≤ n) {gf : Nat} {lb : Array Value}
    (hg : a.eval g = .func (.func gf) #[] lb) (hF : F.fn gf) (he : ∀ args W, (callFunc gf args).run P W = .ok (.enter gf args) W) {xs : List Value} {Fx : Nat → Prop}
    (hseq : GivesQ F (n - 1) P gf lb xs Fx w) (hps : ps.size = 1)
    (I : Nat → (Nat → Prop) → World → Prop) (Ix : Code → Nat → World → Prop) (hI : ∀ k O W1 W2, I k O W1 → Keeps (NotO w.heap.size O) W1 W2 → I k O W2)
    (hIO : ∀ k O W1, I k O W1 → ∀ B, O B → ∃ cs t fr, W1.heap[B]? = some (.cells cs t fr))
    (hIx : ∀ c k W1 W2, Ix c k W1 → Keeps (NotO w.heap.size fun _ => False) W1 W2 → (∀ (B : Nat) (cs : Array Value) (t : TypeId) (fr : Nat × Nat), W1.heap[B]? = some (.cells cs t fr) → W2.heap[B]? = some (.cells cs t fr)) → Ix c k W2)
    (O₀ : Nat → Prop) (hO : ∀ B, O₀ B → B < w.heap.size ∧ ¬ Fx B) (h0 : I 0 O₀ w) (b : Value → Act)
    (hassign : ∀ (l : Nat) (x : Value) (W : World) (K : Act → World → Prop), K (b x) W → assign.wpIn (F.inRound l) (n - 1 - 1) P (Exit.then K fun _ _ _ => False) { tmps := (ps.zip #[x]).foldl (fun t (p, v) => t.setIfInBounds p v) a.tmps, defers := [] } W)
    (hbody : ∀ (l k : Nat) (O : Nat → Prop) (x : Value) (W : World), I k O W → xs[k]? = some x → (∀ B, O B → B < W.heap.size) → body.wpIn (F.inRound l) (n - 1 - 1) P (ownPostQ I Ix k O W) (b x) W)
    (hdone : ∀ (D : Nat) (O : Nat → Prop) (W : World), w.heap.size ≤ D → I xs.length O W → W.heap[D]? = some (.deferred (some [])) → Q .normal { a with defers := { target := .collected D, args := #[] } :: a.defers } W)
    (hstop : ∀ (D : Nat) (c : Code) (k : Nat) (W : World), w.heap.size ≤ D → k < xs.length → Ix c (k + 1) W → W.heap[D]? = some (.deferred (some [])) → c.wpIn F n P Q { a with defers := { target := .collected D, args := #[] } :: a.defers } W) :
    (Code.rangeFunc g ps assign body).wpIn F n P Q a w := by
  apply wpIn_rangeFunc
  intro fn hfn
  rw [hro]
  obtain ⟨rec, hrec⟩ : ∃ rec : LoopState → Option Code → Loop, rec = fun st pe => { state := st, pending := pe, fn, tmps := a.tmps, params := ps, assign, body, defers := w.heap.size } := ⟨_, rfl⟩
  obtain ⟨D, hD⟩ : ∃ D, D = w.heap.size := ⟨_, rfl⟩
  have hrun := run_enterLoop_outer (P := P) (w := w) fn a.tmps ps assign body
  obtain ⟨U, hU⟩ : ∃ U, (w.alloc (.deferred (some []))).alloc (.loop (rec .ready none)) = U := ⟨_, rfl⟩
  have uD : U.heap[D]? = some (.deferred (some [])) := by
    rw [hD, ← hU]
    exact (Below.heap_alloc (w.alloc (.deferred (some []))) _ _ (by simp)).trans (World.alloc_heap_new w _)
  have uL : U.heap[D + 1]? = some (.loop (rec .ready none)) := by
    have h := World.alloc_heap_new (w.alloc (.deferred (some []))) (.loop (rec .ready none))
    rw [World.size_alloc, ← hD] at h; rw [← hU]; exact h
  have uB : Below w.heap.size w U := by rw [← hU]; exact bl_alloc (bl_alloc (Below.refl _ _) _) _
  have uZ : U.heap.size = D + 2 := by rw [← hU, hD]; simp
  have put : ∀ {k : Nat} {O : Nat → Prop} {W : World} (o o' : Obj), I k O W → W.heap[D + 1]? = some o → o.isCells = false → I k O (W.putObj (D + 1) o') := fun {k O W} o o' h hl ho => by
    refine hI k O W _ h (keeps_put o' (by omega) fun hOl => ?_)
    obtain ⟨cs, t, fr, e⟩ := hIO k O W h _ hOl
    rw [hl] at e; cases e; cases ho
  have putx : ∀ {c : Code} {k : Nat} {W : World} (o o' : Obj), Ix c k W → W.heap[D + 1]? = some o → o.isCells = false → Ix c k (W.putObj (D + 1) o') := fun {c k W} o o' h hl ho =>
    hIx c k W _ h (keeps_put o' (by omega) (fun h => h)) fun B cs t fr hB => put_kp hl ho hB
  refine ⟨D + 1, [{ target := .collected D, args := #[] }], U, { target := .fn (.func gf) lb, args := #[.func (.yield (D + 1)) #[] #[]] }, U, gf, #[.func (.yield (D + 1)) #[] #[]] ++ lb, U, ?_, ?_, ?_, ?_, fun _ => h1, ?_⟩
  · rw [hD, ← hU, hrec]; exact hrun
  · simp only [resolve, hg]; simp [go_sem]
  · intro f' hf'
    simp [Target.leads] at hf'
    rw [← hf']; exact hF
  · simp [invoke, go_sem, he]
  · refine (hseq (D + 1) (fun k O W => I k O W ∧ W.heap[D + 1]? = some (.loop (rec .ready none)) ∧ W.heap[D]? = some (.deferred (some [])))
      (fun k W => ∃ c, Ix c k W ∧ W.heap[D + 1]? = some (.loop (rec .done (some c))) ∧ W.heap[D]? = some (.deferred (some []))) U O₀ uB ?_ ?_ (fun B hB => ⟨Nat.lt_of_lt_of_le (hO B hB).1 uB.size, (hO B hB).2⟩) ⟨?_, uL, uD⟩).mono ?_
    · rintro k O W1 W2 ⟨h, hl, hd⟩ hk
      have lt : D + 1 < W1.heap.size := (Array.getElem?_eq_some_iff.1 hl).1
      refine ⟨hI k O W1 W2 h (hk.mono fun x _ hx => ⟨by have := hx.1; omega, hx.2⟩), (hk.block _ lt (fun hx => by have := hx.1; omega)).trans hl, (hk.block _ (by omega) (fun hx => by have := hx.1; omega)).trans hd⟩
    · rintro k O x W ⟨h, hl, hd⟩ hk hOl
      have lt : D + 1 < W.heap.size := (Array.getElem?_eq_some_iff.1 hl).1
      have hy := run_yield (P := P) (args := #[x]) hl (by rw [hrec, hps]; rfl)
      rw [hrec] at hy
      refine ⟨fn, _, assign, body, hy, roundIn_of_wpIn hfn (hassign _ x W _ ⟨_, run_beginRound hl (by rw [hrec]), ?_⟩)⟩
      have hl2 : (W.putObj (D + 1) (.loop { rec .ready none with state := .busy })).heap[D + 1]? = some (.loop { rec .ready none with state := .busy }) := World.putObj_heap_same lt
      have hd2 : (W.putObj (D + 1) (.loop { rec .ready none with state := .busy })).heap[D]? = some (.deferred (some [])) := (World.putObj_heap_other (by omega)).trans hd
      have hz2 : (W.putObj (D + 1) (.loop { rec .ready none with state := .busy })).heap.size = W.heap.size := by simp [World.putObj]
      refine wpIn_mono (hbody _ k O x _ (put _ _ h hl rfl) hk (fun B hB => by rw [hz2]; exact hOl B hB)) ?_
      have fin : ∀ (jump : Option Code) (W3 : World), KeepsOthers (W.putObj (D + 1) (.loop { rec .ready none with state := .busy })) W3 →
          (Instr.endRound (D + 1) jump).run P W3 = .ok (.bool jump.isNone) (W3.putObj (D + 1) (.loop (rec (if jump.isNone then .ready else .done) jump))) ∧
          W3.heap[D + 1]? = some (.loop { rec .ready none with state := .busy }) ∧
          (W3.putObj (D + 1) (.loop (rec (if jump.isNone then .ready else .done) jump))).heap[D + 1]? = some (.loop (rec (if jump.isNone then .ready else .done) jump)) ∧
          (W3.putObj (D + 1) (.loop (rec (if jump.isNone then .ready else .done) jump))).heap[D]? = some (.deferred (some [])) := fun jump W3 hk3 => by
        have hl3 := hk3.same _ _ hl2 rfl
        have := run_endRound (P := P) jump hl3
        rw [hrec] at this ⊢
        exact ⟨this, by rw [hrec] at hl3; exact hl3, World.putObj_heap_same (Array.getElem?_eq_some_iff.1 hl3).1, (World.putObj_heap_other (by omega)).trans (hk3.same _ _ hd2 rfl)⟩
      rintro e a3 W3 hp
      cases e with
      | normal =>
        obtain ⟨hk3, O', hi3, hst⟩ := hp
        obtain ⟨hr, hl3, hl4, hk4⟩ := fin none W3 hk3
        exact ⟨_, _, hr, .inl ⟨rfl, O', ⟨put _ _ hi3 hl3 rfl, hl4, hk4⟩, StepO.puts hl rfl hst hl3 rfl⟩⟩
      | ret =>
        obtain ⟨hk3, hi3⟩ := hp
        obtain ⟨hr, hl3, hl4, hk4⟩ := fin (some .ret) W3 hk3
        exact ⟨_, _, hr, .inr ⟨rfl, .ret, putx _ _ hi3 hl3 rfl, hl4, hk4⟩⟩
      | exit id =>
        obtain ⟨hk3, hi3⟩ := hp
        obtain ⟨hr, hl3, hl4, hk4⟩ := fin (some (.exit id)) W3 hk3
        exact ⟨_, _, hr, .inr ⟨rfl, .exit id, putx _ _ hi3 hl3 rfl, hl4, hk4⟩⟩
      | goto t =>
        obtain ⟨hk3, hi3⟩ := hp
        obtain ⟨hr, hl3, hl4, hk4⟩ := fin (some (.goto t)) W3 hk3
        exact ⟨_, _, hr, .inr ⟨rfl, .goto t, putx _ _ hi3 hl3 rfl, hl4, hk4⟩⟩
      | panic ch => exact hp.elim
      | outgrown => exact hp.elim
    · exact hI 0 O₀ w U h0 (Keeps.of_below uB)
    · rintro e W2 ⟨⟨v, rfl⟩, (⟨O', hi, hl, hk⟩ | ⟨k, hkx, c, hi, hl, hk⟩)⟩
      · exact ⟨none, _, by have := run_endLoop (P := P) hl (by rw [hrec]; simp); rw [hrec] at this; exact this, hdone D O' _ (by omega) (put _ _ hi hl rfl) ((World.putObj_heap_other (by omega)).trans hk)⟩
      · exact ⟨some c, _, by have := run_endLoop (P := P) hl (by rw [hrec]; simp); rw [hrec] at this; exact this, hstop D c k _ (by omega) hkx (putx _ _ hi hl rfl) ((World.putObj_heap_other (by omega)).trans hk)⟩
end law
end Go.Proofs.YtmfomjaomhohkaaDoor
