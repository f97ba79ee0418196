/- slices.Repeat of one element, at three types; math/bits.Mul by one. -/
import Derived.Deep.RegionLaw
import Derived.Laws.CopyRow
import Derived.Laws.MathBits
import Derived.Test.YtahgffjkkdbjeaaDoorZ8
namespace Go.Proofs.YtahgffjkkdbjeaaDoor
open Go.RowKit
/-- copy between slices whose elements have k cells. -/
theorem run_copy_rowk {P : Program} (w : World) (dT sT ty elem : TypeId) (g o dLen dCap : Nat) (a : Addr) (sLen sCap k : Nat) (cur : Array Value) (t : TypeId) (cs : List Value)
    (hu : P.underlying dT = some (.slice elem)) (hs : (P.info? elem).map (·.size) = some k)
    (hg : w.heap[g]? = some (.cells cur t (0, 0))) (hn : cs.length = Nat.min sLen dLen * k)
    (hsrc : ∀ j v, cs[j]? = some v → w.cell? (a.add j) = some v) (hfit : o + cs.length ≤ cur.size) (h1 : ∀ v ∈ cs, v.oneCell' = true) :
    (Builtin.copy_ #[dT, sT] ty #[.slice (some ⟨g, o, none⟩) dLen dCap, .slice (some a) sLen sCap]).run P w =
      .ok (goInt (Nat.min sLen dLen)) (w.setRow g (cur.toList.take o ++ cs ++ cur.toList.drop (o + cs.length)).toArray) := by
  have hl := run_loadCells_list (P := P) w a cs hsrc
  have hst := run_storeCells_at P g o t cs 0 cur w hg (by simpa using hfit) h1
  cases hq : P.info? elem with
  | none => simp [hq] at hs
  | some i =>
    have hi : i.size = k := by simpa [hq] using hs
    rw [hn] at hl
    simp [Builtin.copy_, run_underlying hu, Builtin.lenOf, Builtin.firstCells, sizeOf, typeInfo, hq, hi, hl, hst]
/-- k elements x, then z's. -/
def rpL {α : Type} (x z : α) (k M : Nat) : List α := List.replicate k x ++ List.replicate (M - k) z
theorem rpL_len {α : Type} (x z : α) {k M : Nat} (h : k ≤ M) : (rpL x z k M).length = M := by simp [rpL]; omega
theorem rpL_zero {α : Type} (x z : α) (M : Nat) : rpL x z 0 M = List.replicate M z := by simp [rpL]
theorem rpL_all {α : Type} (x z : α) (M : Nat) : rpL x z M M = List.replicate M x := by simp [rpL]
section
variable {α : Type} {enc : α → List Value} {c : Nat}
theorem rpL_copy (hk : ∀ x, (enc x).length = c) (x z : α) {k n M : Nat} (h : k + n ≤ M) : (fl enc (rpL x z k M)).take (k * c) ++ fl enc (List.replicate n x) ++ (fl enc (rpL x z k M)).drop (k * c + (fl enc (List.replicate n x)).length) = fl enc (rpL x z (k + n) M) := by
  have l1 : (fl enc (List.replicate k x)).length = k * c := by rw [fl_length hk]; simp
  have l2 : (fl enc (List.replicate n x)).length = n * c := by rw [fl_length hk]; simp
  have l3 : (fl enc (List.replicate n z)).length = n * c := by rw [fl_length hk]; simp
  have e : List.replicate (M - k) z = List.replicate n z ++ List.replicate (M - (k + n)) z := by rw [List.replicate_append_replicate]; congr 1; omega
  have e2 : List.replicate (k + n) x = List.replicate k x ++ List.replicate n x := by rw [List.replicate_append_replicate]
  rw [l2, rpL, rpL, fl_append, fl_append, e, fl_append, e2, fl_append]
  rw [List.take_left' l1, List.drop_append, List.drop_eq_nil_of_le (by omega), l1, List.nil_append, show k * c + n * c - k * c = n * c by omega, List.drop_left' l3]
theorem rpL_cell (hk : ∀ x, (enc x).length = c) (x z : α) {k M : Nat} (h : k ≤ M) (j : Nat) (hj : j < k * c) : (fl enc (rpL x z k M))[j]? = (fl enc (List.replicate k x))[j]? := by
  have l1 : (fl enc (List.replicate k x)).length = k * c := by rw [fl_length hk]; simp
  rw [rpL, fl_append, List.getElem?_append_left (by omega)]
theorem rep_pre (hk : ∀ x, (enc x).length = c) (x : α) {n k : Nat} (h : n ≤ k) (j : Nat) (v : Value) (hv : (fl enc (List.replicate n x))[j]? = some v) : (fl enc (List.replicate k x))[j]? = some v := by
  have e : List.replicate k x = List.replicate n x ++ List.replicate (k - n) x := by rw [List.replicate_append_replicate]; congr 1; omega
  have hj : j < (fl enc (List.replicate n x)).length := (List.getElem?_eq_some_iff.1 hv).1
  rw [e, fl_append, List.getElem?_append_left hj, hv]
theorem owns_full {w : World} {g n t : Nat} {L : List α} (hk : ∀ x, (enc x).length = c) (hb : Blk w g (fl enc L).toArray t) (hL : L.length = n) (hn : n ≤ maxLen) {base : Nat} (hbase : base ≤ g) : w.ownsRow base t c (.slice (some ⟨g, 0, none⟩) n n) n (fl enc L) :=
  ⟨by rw [fl_length hk, hL], .inr ⟨g, n, _, rfl, hbase, hb, Nat.le_refl _, hn, by simp [fl_length hk, hL], by rw [← hL, ← fl_length hk, List.toList_toArray]; exact List.take_length⟩⟩
theorem blk_setRow {w : World} {g : Nat} {cs cs' : Array Value} {t : TypeId} (h : Blk w g cs t) : Blk (w.setRow g cs') g cs' t := setRow_heap w g _ _ t _ h
end
theorem step_copyk {P : Program} {ops : Array Oper} {o : Oper} {a : Act} {w : World} {K : Act → World → Prop} {Q : Exit → Act → World → Prop} {E : Prop} (hgd : o.guard = none) (d s : Operand) (dT sT : TypeId)
    (ho : o.op = .call { callee := .builtin .copy, args := #[d, s], argTypes := #[dT, sT] }) {dv sv r : Value} {w' : World} (hd : a.eval d = dv) (hs : a.eval s = sv) (hrun : (Builtin.copy_ #[dT, sT] o.type #[dv, sv]).run P w = .ok r w')
    (h : K (a.put o.dst r) w') : if Region.wanted o (yielded ops a.tmps) = true then Oper.wp P o a w K Q else E := by
  have hw : Region.wanted o (yielded ops a.tmps) = true := by simp [Region.wanted, hgd]
  rw [if_pos hw]
  unfold Oper.wp
  simp [execOp, ho, resolve, invoke, builtin, hd, hs, hrun, Result.andThen]
  exact h
theorem wpList_copyk {P : Program} {w : World} {ops : Array Oper} {rest : List Oper} {o : Oper} {a : Act} {Q : Exit → Act → World → Prop} (hgd : o.guard = none) (d s : Operand) (dT sT : TypeId)
    (ho : o.op = .call { callee := .builtin .copy, args := #[d, s], argTypes := #[dT, sT] }) {dv sv r : Value} {w' : World} (hd : a.eval d = dv) (hs : a.eval s = sv) (hrun : (Builtin.copy_ #[dT, sT] o.type #[dv, sv]).run P w = .ok r w')
    (h : wpList P ops Q rest (a.put o.dst r) w') : wpList P ops Q (o :: rest) a w := by
  refine wpList_plain hgd fun K hK => ?_
  unfold Oper.wp
  simp [execOp, ho, resolve, invoke, builtin, hd, hs, hrun, Result.andThen]
  exact hK _ _ h
theorem setRow_below {B g : Nat} {w0 w : World} (hb : Below B w0 w) (hBg : B ≤ g) (cs : Array Value) : Below B w0 (w.setRow g cs) :=
  hb.trans ⟨rfl, rfl, rfl, by simp [World.setRow], fun k hk => setRow_other w g k cs (by omega)⟩
theorem wrapU (n : Int) : IntKind.u64.wrap n = n % 18446744073709551616 := by simp [IntKind.wrap, IntKind.bits, IntKind.signed]
set_option maxRecDepth 100000 in
set_option maxHeartbeats 2000000 in
/-- math/bits.Mul64 of one and a number. -/
theorem mul64_one (c : Nat) (w : World) (hc : c < 4294967296) : Calls Tryd.prog 98 #[.int .u64 1, .int .u64 c] w fun e w' => e = .returned (.tuple #[.int .u64 0, .int .u64 c]) ∧ w' = w := by
  have b1 : bits .and .u64 1 4294967295 = 1 := (and_low32 1 (by omega) (by omega)).trans (by decide)
  have b2 : bits .and .u64 (c : Int) 4294967295 = (c : Int) := (and_low32 c (by omega) (by omega)).trans (by omega)
  have b3 : bits .and .u64 0 4294967295 = 0 := (and_low32 0 (by omega) (by omega)).trans (by decide)
  have b4 : (c : Int) / 4294967296 = 0 := by omega
  have b5 : IntKind.u64.wrap (c : Int) = c := by rw [wrapU]; omega
  have b6 : IntKind.u64.wrap 0 = 0 := by rw [wrapU]; decide
  have b7 : (1 : Int) * (c : Int) = c := by omega
  go_enter Tryd.func98, Tryd.ntmps98
  go_wp2_with fail
  go_ret2
  exact ⟨rfl, rfl⟩
set_option maxRecDepth 100000 in
set_option maxHeartbeats 1000000 in
theorem mul_one' (c : Nat) (w : World) (hc : c < 4294967296) : Calls Tryd.prog 82 #[.int .u64 1, .int .u64 c] w fun e w' => e = .returned (.tuple #[.int .u64 0, .int .u64 c]) ∧ w' = w := by
  go_enter Tryd.func82, Tryd.ntmps82
  go_wp2_with (go_at_call 98; refine (mul64_one c _ hc).mono ?_; rintro e w1 ⟨rfl, rfl⟩)
  go_ret2
  exact ⟨rfl, rfl⟩
theorem encFr_one : ∀ x : Fr, ∀ u ∈ encFr x, u.oneCell' = true := by
  intro x u hu
  simp [encFr] at hu
  rcases hu with rfl | rfl <;> rfl
theorem encI_one4 : ∀ x : Int, ∀ u ∈ encI x, u.oneCell' = true := by
  intro x u hu
  simp [encI] at hu
  subst hu; rfl
theorem encR_one4 : ∀ x : Rw, ∀ u ∈ encR x, u.oneCell' = true := by
  intro x u hu
  simp [encR] at hu
  subst hu; rfl
set_option maxRecDepth 100000 in
set_option maxHeartbeats 4000000 in
/-- slices.Repeat of one element. -/
theorem repFr_any (b o cap M : Nat) (x : Fr) (w : World) (hM0 : 1 ≤ M) (hM : M ≤ 576) (hx : Rd w (some ⟨b, o, none⟩) (fl encFr [x])) :
    Calls Tryd.prog 79 #[.slice (some ⟨b, o, none⟩) 1 cap, .int .i64 M] w fun e w' => ∃ g, e = .returned (.slice (some ⟨g, 0, none⟩) M M) ∧ w.heap.size ≤ g ∧ w'.ownsRow w.heap.size 40 2 (.slice (some ⟨g, 0, none⟩) M M) M (fl encFr (List.replicate M x)) ∧ Below w.heap.size w w' := by
  obtain ⟨i0, hi0, hz0, hz1, hz2⟩ := info_parts info_Fr
  have hmk := fun w => run_make (P := Tryd.prog) w 22 40 i0 _ Tryd.underlying22 hi0 hz0 .i64 .i64 (M : Int) (M : Int) (by omega) (by omega) (by rw [hz2]; omega) (by omega)
  simp only [hz1, Int.toNat_natCast] at hmk
  have hsz : (Tryd.prog.info? 40).map (·.size) = some 2 := by rw [hi0, Option.map_some, hz1]
  have q1 : decide ((M : Int) < 0) = false := by simp
  have q2 : IntKind.u64.wrap (M : Int) = M := by rw [wrapU]; omega
  have q3 : IntKind.i64.wrap (M : Int) = M := wrap_nat _ M rfl (by omega)
  have q4 : IntKind.u64.wrap 1 = 1 := by rw [wrapU]; decide
  have q5 : decide ((9223372036854775807 : Int) < (M : Int)) = false := by simp; omega
  have HX := Lib.hid hx
  have HI := Lib.hid (And.intro hi0 (And.intro hz0 (And.intro hz1 hz2)))
  have HSZ := Lib.hid hsz
  clear hx hi0 hz0 hz1 hz2 hsz
  go_enter Tryd.func79, Tryd.ntmps79
  go_upto_region 7 with (go_at_call 82; refine (mul_one' M _ (by omega)).mono ?_; rintro e w1 ⟨rfl, hw⟩; rw [hw]; clear hw w1)
  obtain ⟨w0, hw0⟩ : ∃ w0, w0 = w := ⟨_, rfl⟩
  have HB0 : Hid (Blk (w.alloc (.cells (madeCells ((encFr (0, 0)).toArray) (M * 2)) 40)) w.heap.size (fl encFr (rpL x (0, 0) 0 M)).toArray 40) := by
    have h1 := Blk.new w (madeCells ((encFr (0, 0)).toArray) (M * 2)) 40
    have h2 := made_cells encFr 2 encFr_len (by decide) (0, 0) M
    rw [rpL_zero, ← h2, Array.toArray_toList]
    exact h1
  have HBL0 := Lib.hid (bl_alloc (Below.refl w.heap.size w) (.cells (madeCells ((encFr (0, 0)).toArray) (M * 2)) 40))
  obtain ⟨w1, hw1⟩ : ∃ w1, w1 = w.alloc (.cells (madeCells ((encFr (0, 0)).toArray) (M * 2)) 40) := ⟨_, rfl⟩
  obtain ⟨g, hg⟩ : ∃ g, g = w.heap.size := ⟨_, rfl⟩
  rw [← hw1] at HB0 HBL0
  have HX1 := Lib.hid (HX.out.bl HBL0.out)
  have hw1' : w.alloc (.cells (madeCells (#[Value.int .i64 0, Value.int .i64 0]) (M * 2)) 40) = w1 := hw1.symm
  rw [hw1']
  rw [← hg] at HB0 ⊢
  have HG := Lib.hid hg
  clear hw0 hw1 hw1' hg hmk
  have hmin : Nat.min 1 M = 1 := Nat.min_eq_left hM0
  have hrun : ∀ ty sc, (Builtin.copy_ #[22, 22] ty #[.slice (some ⟨g, 0, none⟩) M M, .slice (some ⟨b, o, none⟩) 1 sc]).run Tryd.prog w1 = .ok (goInt 1) (w1.setRow g (fl encFr (rpL x (0, 0) 1 M)).toArray) := fun ty sc => by
    have h1 := run_copy_rowk (P := Tryd.prog) w1 22 22 ty 40 g 0 M M ⟨b, o, none⟩ 1 sc 2 (fl encFr (rpL x (0, 0) 0 M)).toArray 40 (fl encFr [x]) Tryd.underlying22 HSZ.out HB0.out (by rw [hmin, fl_length encFr_len]; rfl) (fun j v hv => by
      obtain ⟨b', o', e, _, hc⟩ := HX1.out (by rw [fl_length encFr_len]; simp)
      simp at e
      obtain ⟨rfl, rfl⟩ := e
      have hj := (List.getElem?_eq_some_iff.1 hv).1
      have h2 := hc j hj
      rw [List.getD_eq_getElem?_getD, hv] at h2
      by_cases ej : j = 0
      · subst ej; simpa [Addr.add] using h2
      · simpa [Addr.add, ej] using h2) (by simp [fl_length encFr_len, rpL_len]; omega) (fun v hv => by
      obtain ⟨y, _, hy⟩ := List.mem_flatMap.1 hv
      exact encFr_one y v hy)
    rw [hmin] at h1
    rw [h1]
    congr 2
    have h3 := rpL_copy (enc := encFr) encFr_len x (0, 0) (k := 0) (n := 1) (M := M) (by omega)
    rw [Nat.zero_mul, Nat.zero_add] at h3
    simp only [List.replicate_one, Nat.zero_add] at h3 ⊢
    rw [h3]
  have HB1 : Hid (Blk (w1.setRow g (fl encFr (rpL x (0, 0) 1 M)).toArray) g (fl encFr (rpL x (0, 0) 1 M)).toArray 40) := blk_setRow HB0.out
  have HBL1 : Hid (Below w.heap.size w (w1.setRow g (fl encFr (rpL x (0, 0) 1 M)).toArray)) := setRow_below HBL0.out (by rw [HG.out]; exact Nat.le_refl _) _
  obtain ⟨w2, hw2⟩ : ∃ w2, w2 = w1.setRow g (fl encFr (rpL x (0, 0) 1 M)).toArray := ⟨_, rfl⟩
  rw [← hw2] at HB1 HBL1 hrun
  clear hw2 HB0 HBL0 HX1
  go_wp2_with (at_builtin; refine wpList_copyk rfl (.tmp 31) (.tmp 32) 22 22 rfl rfl rfl (hrun _ _) ?_)
  go_loopw [8] (fun s wr => ∃ k : Nat, 1 ≤ k ∧ k ≤ M ∧ s = .int .i64 k ∧ Blk wr g (fl encFr (rpL x (0, 0) k M)).toArray 40 ∧ Below w.heap.size w wr) (fun s _ => M - (intOf s).toNat)
  case atStart => exact ⟨1, by omega, by omega, rfl, HB1.out, HBL1.out⟩
  case round =>
    obtain ⟨k, hk1, hk, rfl, hblk, hbl⟩ := hrel
    clear hrun
    by_cases hlt : k < M
    · have HBK := Lib.hid hblk
      obtain ⟨m, hm⟩ : ∃ m, Nat.min k (M - k) = m := ⟨_, rfl⟩
      have hm1 : 1 ≤ m := by rw [← hm]; exact Nat.le_min.2 ⟨hk1, by omega⟩
      have hm2 : k + m ≤ M := by have h9 : m ≤ M - k := (by rw [← hm]; exact Nat.min_le_right _ _); omega
      have hm3 : m ≤ k := by rw [← hm]; exact Nat.min_le_left _ _
      have hrun2 : ∀ n2 ty, (Builtin.copy_ #[22, 22] ty #[.slice (some ⟨g, k * 2, none⟩) (M - k) (M - k), .slice (some ⟨g, 0, none⟩) k M]).run Tryd.prog (wr.drewN n2) = .ok (goInt m) ((wr.drewN n2).setRow g (fl encFr (rpL x (0, 0) (k + m) M)).toArray) := fun n2 ty => by
        have h1 := run_copy_rowk (P := Tryd.prog) (wr.drewN n2) 22 22 ty 40 g (k * 2) (M - k) (M - k) ⟨g, 0, none⟩ k M 2 (fl encFr (rpL x (0, 0) k M)).toArray 40 (fl encFr (List.replicate m x)) Tryd.underlying22 HSZ.out (HBK.out.drewN n2) (by rw [hm, fl_length encFr_len]; simp) (fun j v hv => by
          have hj := (List.getElem?_eq_some_iff.1 hv).1
          rw [fl_length encFr_len] at hj
          simp only [List.length_replicate] at hj
          have h2 : (fl encFr (rpL x (0, 0) k M))[j]? = some v := by rw [rpL_cell encFr_len x (0, 0) hk j (by have := Nat.mul_le_mul_right 2 hm3; omega)]; exact rep_pre encFr_len x hm3 j v hv
          have h4 : (wr.drewN n2).cell? ⟨g, j, none⟩ = some v := by rw [(HBK.out.drewN n2).cell j, ← Array.getElem?_toList, List.toList_toArray]; exact h2
          by_cases ej : j = 0
          · subst ej; simpa [Addr.add] using h4
          · simpa [Addr.add, ej] using h4) (by simp [fl_length encFr_len, rpL_len _ _ hk]; omega) (fun v hv => by
          obtain ⟨y, _, hy⟩ := List.mem_flatMap.1 hv
          exact encFr_one y v hy)
        rw [hm] at h1
        rw [h1]
        congr 2
        have h3 := rpL_copy (enc := encFr) encFr_len x (0, 0) (k := k) (n := m) (M := M) hm2
        rw [List.toList_toArray, h3]
      have HB3 : Hid (∀ n2, Blk ((wr.drewN n2).setRow g (fl encFr (rpL x (0, 0) (k + m) M)).toArray) g (fl encFr (rpL x (0, 0) (k + m) M)).toArray 40) := fun n2 => blk_setRow (HBK.out.drewN n2)
      have HBL3 : Hid (∀ n2, Below w.heap.size w ((wr.drewN n2).setRow g (fl encFr (rpL x (0, 0) (k + m) M)).toArray)) := fun n2 => setRow_below (bl_drewN hbl n2) (by rw [HG.out]; exact Nat.le_refl _) _
      have w1' := wrap_nat ((k : Int) + (m : Int)) (k + m) (by omega) (by omega)
      clear hblk hbl hm
      go_wp2_with fail
      have hne : ¬ (M = k) := by omega
      have hrun3 : ∀ ty, (Builtin.copy_ #[22, 22] ty #[.slice (some ⟨g, k * 2, none⟩) (M - k) (M - k), .slice (some ⟨g, 0, none⟩) k M]).run Tryd.prog wr.drew = .ok (goInt m) (wr.drew.setRow g (fl encFr (rpL x (0, 0) (k + m) M)).toArray) := fun ty => hrun2 1 ty
      have HB4 : Hid (Blk (wr.drew.setRow g (fl encFr (rpL x (0, 0) (k + m) M)).toArray) g (fl encFr (rpL x (0, 0) (k + m) M)).toArray 40) := HB3.out 1
      have HBL4 : Hid (Below w.heap.size w (wr.drew.setRow g (fl encFr (rpL x (0, 0) (k + m) M)).toArray)) := HBL3.out 1
      clear hrun2 HB3 HBL3
      obtain ⟨Z, hZ⟩ : ∃ Z, Z = (fl encFr (rpL x (0, 0) (k + m) M)).toArray := ⟨_, rfl⟩
      rw [← hZ] at hrun3 HB4 HBL4
      have HZ := Lib.hid hZ
      clear hZ
      go_region
      go_wp2_with fail
      go_roundw
      case rel => exact ⟨k + m, by omega, by omega, by go_num, by rw [← HZ.out]; exact HB4.out, HBL4.out⟩
      case measure => simp [intOf]; omega
    · have e9 : k = M := by omega
      rw [e9, rpL_all] at hblk
      have HF := Lib.hid (owns_full (n := M) (c := 2) encFr_len hblk (by simp) (by unfold maxLen; omega) (base := w.heap.size) (by rw [HG.out]; exact Nat.le_refl _))
      clear hblk e9
      go_wp2_with fail
      go_ret
      exact ⟨g, rfl, by rw [HG.out]; exact Nat.le_refl _, HF.out, hbl⟩

set_option maxRecDepth 100000 in
set_option maxHeartbeats 4000000 in
/-- slices.Repeat of one element. -/
theorem repI_any (b o cap M : Nat) (x : Int) (w : World) (hM0 : 1 ≤ M) (hM : M ≤ 576) (hx : Rd w (some ⟨b, o, none⟩) (fl encI [x])) :
    Calls Tryd.prog 43 #[.slice (some ⟨b, o, none⟩) 1 cap, .int .i64 M] w fun e w' => ∃ g, e = .returned (.slice (some ⟨g, 0, none⟩) M M) ∧ w.heap.size ≤ g ∧ w'.ownsRow w.heap.size 3 1 (.slice (some ⟨g, 0, none⟩) M M) M (fl encI (List.replicate M x)) ∧ Below w.heap.size w w' := by
  obtain ⟨i0, hi0, hz0, hz1, hz2⟩ := info_parts info_I
  have hmk := fun w => run_make (P := Tryd.prog) w 29 3 i0 _ Tryd.underlying29 hi0 hz0 .i64 .i64 (M : Int) (M : Int) (by omega) (by omega) (by rw [hz2]; omega) (by omega)
  simp only [hz1, Int.toNat_natCast] at hmk
  have hsz : (Tryd.prog.info? 3).map (·.size) = some 1 := by rw [hi0, Option.map_some, hz1]
  have q1 : decide ((M : Int) < 0) = false := by simp
  have q2 : IntKind.u64.wrap (M : Int) = M := by rw [wrapU]; omega
  have q3 : IntKind.i64.wrap (M : Int) = M := wrap_nat _ M rfl (by omega)
  have q4 : IntKind.u64.wrap 1 = 1 := by rw [wrapU]; decide
  have q5 : decide ((9223372036854775807 : Int) < (M : Int)) = false := by simp; omega
  have HX := Lib.hid hx
  have HI := Lib.hid (And.intro hi0 (And.intro hz0 (And.intro hz1 hz2)))
  have HSZ := Lib.hid hsz
  clear hx hi0 hz0 hz1 hz2 hsz
  go_enter Tryd.func43, Tryd.ntmps43
  go_upto_region 7 with (go_at_call 82; refine (mul_one' M _ (by omega)).mono ?_; rintro e w1 ⟨rfl, hw⟩; rw [hw]; clear hw w1)
  obtain ⟨w0, hw0⟩ : ∃ w0, w0 = w := ⟨_, rfl⟩
  have HB0 : Hid (Blk (w.alloc (.cells (madeCells ((encI (0 : Int)).toArray) (M * 1)) 3)) w.heap.size (fl encI (rpL x (0 : Int) 0 M)).toArray 3) := by
    have h1 := Blk.new w (madeCells ((encI (0 : Int)).toArray) (M * 1)) 3
    have h2 := made_cells encI 1 encI_len (by decide) (0 : Int) M
    rw [rpL_zero, ← h2, Array.toArray_toList]
    exact h1
  have HBL0 := Lib.hid (bl_alloc (Below.refl w.heap.size w) (.cells (madeCells ((encI (0 : Int)).toArray) (M * 1)) 3))
  obtain ⟨w1, hw1⟩ : ∃ w1, w1 = w.alloc (.cells (madeCells ((encI (0 : Int)).toArray) (M * 1)) 3) := ⟨_, rfl⟩
  obtain ⟨g, hg⟩ : ∃ g, g = w.heap.size := ⟨_, rfl⟩
  rw [← hw1] at HB0 HBL0
  have HX1 := Lib.hid (HX.out.bl HBL0.out)
  have hw1' : w.alloc (.cells (madeCells (#[Value.int .i64 0]) (M)) 3) = w1 := by rw [hw1, Nat.mul_one]; rfl
  rw [hw1']
  rw [← hg] at HB0 ⊢
  have HG := Lib.hid hg
  clear hw0 hw1 hw1' hg hmk
  have hmin : Nat.min 1 M = 1 := Nat.min_eq_left hM0
  have hrun : ∀ ty sc, (Builtin.copy_ #[29, 29] ty #[.slice (some ⟨g, 0, none⟩) M M, .slice (some ⟨b, o, none⟩) 1 sc]).run Tryd.prog w1 = .ok (goInt 1) (w1.setRow g (fl encI (rpL x (0 : Int) 1 M)).toArray) := fun ty sc => by
    have h1 := run_copy_rowk (P := Tryd.prog) w1 29 29 ty 3 g 0 M M ⟨b, o, none⟩ 1 sc 1 (fl encI (rpL x (0 : Int) 0 M)).toArray 3 (fl encI [x]) Tryd.underlying29 HSZ.out HB0.out (by rw [hmin, fl_length encI_len]; rfl) (fun j v hv => by
      obtain ⟨b', o', e, _, hc⟩ := HX1.out (by rw [fl_length encI_len]; simp)
      simp at e
      obtain ⟨rfl, rfl⟩ := e
      have hj := (List.getElem?_eq_some_iff.1 hv).1
      have h2 := hc j hj
      rw [List.getD_eq_getElem?_getD, hv] at h2
      by_cases ej : j = 0
      · subst ej; simpa [Addr.add] using h2
      · simpa [Addr.add, ej] using h2) (by simp [fl_length encI_len, rpL_len]; omega) (fun v hv => by
      obtain ⟨y, _, hy⟩ := List.mem_flatMap.1 hv
      exact encI_one4 y v hy)
    rw [hmin] at h1
    rw [h1]
    congr 2
    have h3 := rpL_copy (enc := encI) encI_len x (0 : Int) (k := 0) (n := 1) (M := M) (by omega)
    rw [Nat.zero_mul, Nat.zero_add] at h3
    simp only [List.replicate_one, Nat.zero_add] at h3 ⊢
    rw [h3]
  have HB1 : Hid (Blk (w1.setRow g (fl encI (rpL x (0 : Int) 1 M)).toArray) g (fl encI (rpL x (0 : Int) 1 M)).toArray 3) := blk_setRow HB0.out
  have HBL1 : Hid (Below w.heap.size w (w1.setRow g (fl encI (rpL x (0 : Int) 1 M)).toArray)) := setRow_below HBL0.out (by rw [HG.out]; exact Nat.le_refl _) _
  obtain ⟨w2, hw2⟩ : ∃ w2, w2 = w1.setRow g (fl encI (rpL x (0 : Int) 1 M)).toArray := ⟨_, rfl⟩
  rw [← hw2] at HB1 HBL1 hrun
  clear hw2 HB0 HBL0 HX1
  go_wp2_with (at_builtin; refine wpList_copyk rfl (.tmp 31) (.tmp 32) 29 29 rfl rfl rfl (hrun _ _) ?_)
  go_loopw [8] (fun s wr => ∃ k : Nat, 1 ≤ k ∧ k ≤ M ∧ s = .int .i64 k ∧ Blk wr g (fl encI (rpL x (0 : Int) k M)).toArray 3 ∧ Below w.heap.size w wr) (fun s _ => M - (intOf s).toNat)
  case atStart => exact ⟨1, by omega, by omega, rfl, HB1.out, HBL1.out⟩
  case round =>
    obtain ⟨k, hk1, hk, rfl, hblk, hbl⟩ := hrel
    clear hrun
    by_cases hlt : k < M
    · have HBK := Lib.hid hblk
      obtain ⟨m, hm⟩ : ∃ m, Nat.min k (M - k) = m := ⟨_, rfl⟩
      have hm1 : 1 ≤ m := by rw [← hm]; exact Nat.le_min.2 ⟨hk1, by omega⟩
      have hm2 : k + m ≤ M := by have h9 : m ≤ M - k := (by rw [← hm]; exact Nat.min_le_right _ _); omega
      have hm3 : m ≤ k := by rw [← hm]; exact Nat.min_le_left _ _
      have hrun2 : ∀ n2 ty, (Builtin.copy_ #[29, 29] ty #[.slice (some ⟨g, k * 1, none⟩) (M - k) (M - k), .slice (some ⟨g, 0, none⟩) k M]).run Tryd.prog (wr.drewN n2) = .ok (goInt m) ((wr.drewN n2).setRow g (fl encI (rpL x (0 : Int) (k + m) M)).toArray) := fun n2 ty => by
        have h1 := run_copy_rowk (P := Tryd.prog) (wr.drewN n2) 29 29 ty 3 g (k * 1) (M - k) (M - k) ⟨g, 0, none⟩ k M 1 (fl encI (rpL x (0 : Int) k M)).toArray 3 (fl encI (List.replicate m x)) Tryd.underlying29 HSZ.out (HBK.out.drewN n2) (by rw [hm, fl_length encI_len]; simp) (fun j v hv => by
          have hj := (List.getElem?_eq_some_iff.1 hv).1
          rw [fl_length encI_len] at hj
          simp only [List.length_replicate] at hj
          have h2 : (fl encI (rpL x (0 : Int) k M))[j]? = some v := by rw [rpL_cell encI_len x (0 : Int) hk j (by have := Nat.mul_le_mul_right 1 hm3; omega)]; exact rep_pre encI_len x hm3 j v hv
          have h4 : (wr.drewN n2).cell? ⟨g, j, none⟩ = some v := by rw [(HBK.out.drewN n2).cell j, ← Array.getElem?_toList, List.toList_toArray]; exact h2
          by_cases ej : j = 0
          · subst ej; simpa [Addr.add] using h4
          · simpa [Addr.add, ej] using h4) (by simp [fl_length encI_len, rpL_len _ _ hk]; omega) (fun v hv => by
          obtain ⟨y, _, hy⟩ := List.mem_flatMap.1 hv
          exact encI_one4 y v hy)
        rw [hm] at h1
        rw [h1]
        congr 2
        have h3 := rpL_copy (enc := encI) encI_len x (0 : Int) (k := k) (n := m) (M := M) hm2
        rw [List.toList_toArray, h3]
      have HB3 : Hid (∀ n2, Blk ((wr.drewN n2).setRow g (fl encI (rpL x (0 : Int) (k + m) M)).toArray) g (fl encI (rpL x (0 : Int) (k + m) M)).toArray 3) := fun n2 => blk_setRow (HBK.out.drewN n2)
      have HBL3 : Hid (∀ n2, Below w.heap.size w ((wr.drewN n2).setRow g (fl encI (rpL x (0 : Int) (k + m) M)).toArray)) := fun n2 => setRow_below (bl_drewN hbl n2) (by rw [HG.out]; exact Nat.le_refl _) _
      have w1' := wrap_nat ((k : Int) + (m : Int)) (k + m) (by omega) (by omega)
      clear hblk hbl hm
      go_wp2_with fail
      have hne : ¬ (M = k) := by omega
      have hrun3 : ∀ ty, (Builtin.copy_ #[29, 29] ty #[.slice (some ⟨g, k, none⟩) (M - k) (M - k), .slice (some ⟨g, 0, none⟩) k M]).run Tryd.prog wr.drew = .ok (goInt m) (wr.drew.setRow g (fl encI (rpL x (0 : Int) (k + m) M)).toArray) := fun ty => by have := hrun2 1 ty; rw [Nat.mul_one] at this; exact this
      have HB4 : Hid (Blk (wr.drew.setRow g (fl encI (rpL x (0 : Int) (k + m) M)).toArray) g (fl encI (rpL x (0 : Int) (k + m) M)).toArray 3) := HB3.out 1
      have HBL4 : Hid (Below w.heap.size w (wr.drew.setRow g (fl encI (rpL x (0 : Int) (k + m) M)).toArray)) := HBL3.out 1
      clear hrun2 HB3 HBL3
      obtain ⟨Z, hZ⟩ : ∃ Z, Z = (fl encI (rpL x (0 : Int) (k + m) M)).toArray := ⟨_, rfl⟩
      rw [← hZ] at hrun3 HB4 HBL4
      have HZ := Lib.hid hZ
      clear hZ
      go_region
      go_wp2_with fail
      go_roundw
      case rel => exact ⟨k + m, by omega, by omega, by go_num, by rw [← HZ.out]; exact HB4.out, HBL4.out⟩
      case measure => simp [intOf]; omega
    · have e9 : k = M := by omega
      rw [e9, rpL_all] at hblk
      have HF := Lib.hid (owns_full (n := M) (c := 1) encI_len hblk (by simp) (by unfold maxLen; omega) (base := w.heap.size) (by rw [HG.out]; exact Nat.le_refl _))
      clear hblk e9
      go_wp2_with fail
      go_ret
      exact ⟨g, rfl, by rw [HG.out]; exact Nat.le_refl _, HF.out, hbl⟩

set_option maxRecDepth 100000 in
set_option maxHeartbeats 4000000 in
/-- slices.Repeat of one element. -/
theorem repR_any (b o cap M : Nat) (x : Rw) (w : World) (hM0 : 1 ≤ M) (hM : M ≤ 576) (hx : Rd w (some ⟨b, o, none⟩) (fl encR [x])) :
    Calls Tryd.prog 46 #[.slice (some ⟨b, o, none⟩) 1 cap, .int .i64 M] w fun e w' => ∃ g, e = .returned (.slice (some ⟨g, 0, none⟩) M M) ∧ w.heap.size ≤ g ∧ w'.ownsRow w.heap.size 29 1 (.slice (some ⟨g, 0, none⟩) M M) M (fl encR (List.replicate M x)) ∧ Below w.heap.size w w' := by
  obtain ⟨i0, hi0, hz0, hz1, hz2⟩ := info_parts info_R
  have hmk := fun w => run_make (P := Tryd.prog) w 49 29 i0 _ Tryd.underlying49 hi0 hz0 .i64 .i64 (M : Int) (M : Int) (by omega) (by omega) (by rw [hz2]; omega) (by omega)
  simp only [hz1, Int.toNat_natCast] at hmk
  have hsz : (Tryd.prog.info? 29).map (·.size) = some 1 := by rw [hi0, Option.map_some, hz1]
  have q1 : decide ((M : Int) < 0) = false := by simp
  have q2 : IntKind.u64.wrap (M : Int) = M := by rw [wrapU]; omega
  have q3 : IntKind.i64.wrap (M : Int) = M := wrap_nat _ M rfl (by omega)
  have q4 : IntKind.u64.wrap 1 = 1 := by rw [wrapU]; decide
  have q5 : decide ((9223372036854775807 : Int) < (M : Int)) = false := by simp; omega
  have HX := Lib.hid hx
  have HI := Lib.hid (And.intro hi0 (And.intro hz0 (And.intro hz1 hz2)))
  have HSZ := Lib.hid hsz
  clear hx hi0 hz0 hz1 hz2 hsz
  go_enter Tryd.func46, Tryd.ntmps46
  go_upto_region 7 with (go_at_call 82; refine (mul_one' M _ (by omega)).mono ?_; rintro e w1 ⟨rfl, hw⟩; rw [hw]; clear hw w1)
  obtain ⟨w0, hw0⟩ : ∃ w0, w0 = w := ⟨_, rfl⟩
  have HB0 : Hid (Blk (w.alloc (.cells (madeCells ((encR ((none, 0, 0) : Rw)).toArray) (M * 1)) 29)) w.heap.size (fl encR (rpL x ((none, 0, 0) : Rw) 0 M)).toArray 29) := by
    have h1 := Blk.new w (madeCells ((encR ((none, 0, 0) : Rw)).toArray) (M * 1)) 29
    have h2 := made_cells encR 1 encR_len (by decide) ((none, 0, 0) : Rw) M
    rw [rpL_zero, ← h2, Array.toArray_toList]
    exact h1
  have HBL0 := Lib.hid (bl_alloc (Below.refl w.heap.size w) (.cells (madeCells ((encR ((none, 0, 0) : Rw)).toArray) (M * 1)) 29))
  obtain ⟨w1, hw1⟩ : ∃ w1, w1 = w.alloc (.cells (madeCells ((encR ((none, 0, 0) : Rw)).toArray) (M * 1)) 29) := ⟨_, rfl⟩
  obtain ⟨g, hg⟩ : ∃ g, g = w.heap.size := ⟨_, rfl⟩
  rw [← hw1] at HB0 HBL0
  have HX1 := Lib.hid (HX.out.bl HBL0.out)
  have hw1' : w.alloc (.cells (madeCells (#[Value.slice none 0 0]) (M)) 29) = w1 := by rw [hw1, Nat.mul_one]; rfl
  rw [hw1']
  rw [← hg] at HB0 ⊢
  have HG := Lib.hid hg
  clear hw0 hw1 hw1' hg hmk
  have hmin : Nat.min 1 M = 1 := Nat.min_eq_left hM0
  have hrun : ∀ ty sc, (Builtin.copy_ #[49, 49] ty #[.slice (some ⟨g, 0, none⟩) M M, .slice (some ⟨b, o, none⟩) 1 sc]).run Tryd.prog w1 = .ok (goInt 1) (w1.setRow g (fl encR (rpL x ((none, 0, 0) : Rw) 1 M)).toArray) := fun ty sc => by
    have h1 := run_copy_rowk (P := Tryd.prog) w1 49 49 ty 29 g 0 M M ⟨b, o, none⟩ 1 sc 1 (fl encR (rpL x ((none, 0, 0) : Rw) 0 M)).toArray 29 (fl encR [x]) Tryd.underlying49 HSZ.out HB0.out (by rw [hmin, fl_length encR_len]; rfl) (fun j v hv => by
      obtain ⟨b', o', e, _, hc⟩ := HX1.out (by rw [fl_length encR_len]; simp)
      simp at e
      obtain ⟨rfl, rfl⟩ := e
      have hj := (List.getElem?_eq_some_iff.1 hv).1
      have h2 := hc j hj
      rw [List.getD_eq_getElem?_getD, hv] at h2
      by_cases ej : j = 0
      · subst ej; simpa [Addr.add] using h2
      · simpa [Addr.add, ej] using h2) (by simp [fl_length encR_len, rpL_len]; omega) (fun v hv => by
      obtain ⟨y, _, hy⟩ := List.mem_flatMap.1 hv
      exact encR_one4 y v hy)
    rw [hmin] at h1
    rw [h1]
    congr 2
    have h3 := rpL_copy (enc := encR) encR_len x ((none, 0, 0) : Rw) (k := 0) (n := 1) (M := M) (by omega)
    rw [Nat.zero_mul, Nat.zero_add] at h3
    simp only [List.replicate_one, Nat.zero_add] at h3 ⊢
    rw [h3]
  have HB1 : Hid (Blk (w1.setRow g (fl encR (rpL x ((none, 0, 0) : Rw) 1 M)).toArray) g (fl encR (rpL x ((none, 0, 0) : Rw) 1 M)).toArray 29) := blk_setRow HB0.out
  have HBL1 : Hid (Below w.heap.size w (w1.setRow g (fl encR (rpL x ((none, 0, 0) : Rw) 1 M)).toArray)) := setRow_below HBL0.out (by rw [HG.out]; exact Nat.le_refl _) _
  obtain ⟨w2, hw2⟩ : ∃ w2, w2 = w1.setRow g (fl encR (rpL x ((none, 0, 0) : Rw) 1 M)).toArray := ⟨_, rfl⟩
  rw [← hw2] at HB1 HBL1 hrun
  clear hw2 HB0 HBL0 HX1
  go_wp2_with (at_builtin; refine wpList_copyk rfl (.tmp 31) (.tmp 32) 49 49 rfl rfl rfl (hrun _ _) ?_)
  go_loopw [8] (fun s wr => ∃ k : Nat, 1 ≤ k ∧ k ≤ M ∧ s = .int .i64 k ∧ Blk wr g (fl encR (rpL x ((none, 0, 0) : Rw) k M)).toArray 29 ∧ Below w.heap.size w wr) (fun s _ => M - (intOf s).toNat)
  case atStart => exact ⟨1, by omega, by omega, rfl, HB1.out, HBL1.out⟩
  case round =>
    obtain ⟨k, hk1, hk, rfl, hblk, hbl⟩ := hrel
    clear hrun
    by_cases hlt : k < M
    · have HBK := Lib.hid hblk
      obtain ⟨m, hm⟩ : ∃ m, Nat.min k (M - k) = m := ⟨_, rfl⟩
      have hm1 : 1 ≤ m := by rw [← hm]; exact Nat.le_min.2 ⟨hk1, by omega⟩
      have hm2 : k + m ≤ M := by have h9 : m ≤ M - k := (by rw [← hm]; exact Nat.min_le_right _ _); omega
      have hm3 : m ≤ k := by rw [← hm]; exact Nat.min_le_left _ _
      have hrun2 : ∀ n2 ty, (Builtin.copy_ #[49, 49] ty #[.slice (some ⟨g, k * 1, none⟩) (M - k) (M - k), .slice (some ⟨g, 0, none⟩) k M]).run Tryd.prog (wr.drewN n2) = .ok (goInt m) ((wr.drewN n2).setRow g (fl encR (rpL x ((none, 0, 0) : Rw) (k + m) M)).toArray) := fun n2 ty => by
        have h1 := run_copy_rowk (P := Tryd.prog) (wr.drewN n2) 49 49 ty 29 g (k * 1) (M - k) (M - k) ⟨g, 0, none⟩ k M 1 (fl encR (rpL x ((none, 0, 0) : Rw) k M)).toArray 29 (fl encR (List.replicate m x)) Tryd.underlying49 HSZ.out (HBK.out.drewN n2) (by rw [hm, fl_length encR_len]; simp) (fun j v hv => by
          have hj := (List.getElem?_eq_some_iff.1 hv).1
          rw [fl_length encR_len] at hj
          simp only [List.length_replicate] at hj
          have h2 : (fl encR (rpL x ((none, 0, 0) : Rw) k M))[j]? = some v := by rw [rpL_cell encR_len x ((none, 0, 0) : Rw) hk j (by have := Nat.mul_le_mul_right 1 hm3; omega)]; exact rep_pre encR_len x hm3 j v hv
          have h4 : (wr.drewN n2).cell? ⟨g, j, none⟩ = some v := by rw [(HBK.out.drewN n2).cell j, ← Array.getElem?_toList, List.toList_toArray]; exact h2
          by_cases ej : j = 0
          · subst ej; simpa [Addr.add] using h4
          · simpa [Addr.add, ej] using h4) (by simp [fl_length encR_len, rpL_len _ _ hk]; omega) (fun v hv => by
          obtain ⟨y, _, hy⟩ := List.mem_flatMap.1 hv
          exact encR_one4 y v hy)
        rw [hm] at h1
        rw [h1]
        congr 2
        have h3 := rpL_copy (enc := encR) encR_len x ((none, 0, 0) : Rw) (k := k) (n := m) (M := M) hm2
        rw [List.toList_toArray, h3]
      have HB3 : Hid (∀ n2, Blk ((wr.drewN n2).setRow g (fl encR (rpL x ((none, 0, 0) : Rw) (k + m) M)).toArray) g (fl encR (rpL x ((none, 0, 0) : Rw) (k + m) M)).toArray 29) := fun n2 => blk_setRow (HBK.out.drewN n2)
      have HBL3 : Hid (∀ n2, Below w.heap.size w ((wr.drewN n2).setRow g (fl encR (rpL x ((none, 0, 0) : Rw) (k + m) M)).toArray)) := fun n2 => setRow_below (bl_drewN hbl n2) (by rw [HG.out]; exact Nat.le_refl _) _
      have w1' := wrap_nat ((k : Int) + (m : Int)) (k + m) (by omega) (by omega)
      clear hblk hbl hm
      go_wp2_with fail
      have hne : ¬ (M = k) := by omega
      have hrun3 : ∀ ty, (Builtin.copy_ #[49, 49] ty #[.slice (some ⟨g, k, none⟩) (M - k) (M - k), .slice (some ⟨g, 0, none⟩) k M]).run Tryd.prog wr.drew = .ok (goInt m) (wr.drew.setRow g (fl encR (rpL x ((none, 0, 0) : Rw) (k + m) M)).toArray) := fun ty => by have := hrun2 1 ty; rw [Nat.mul_one] at this; exact this
      have HB4 : Hid (Blk (wr.drew.setRow g (fl encR (rpL x ((none, 0, 0) : Rw) (k + m) M)).toArray) g (fl encR (rpL x ((none, 0, 0) : Rw) (k + m) M)).toArray 29) := HB3.out 1
      have HBL4 : Hid (Below w.heap.size w (wr.drew.setRow g (fl encR (rpL x ((none, 0, 0) : Rw) (k + m) M)).toArray)) := HBL3.out 1
      clear hrun2 HB3 HBL3
      obtain ⟨Z, hZ⟩ : ∃ Z, Z = (fl encR (rpL x ((none, 0, 0) : Rw) (k + m) M)).toArray := ⟨_, rfl⟩
      rw [← hZ] at hrun3 HB4 HBL4
      have HZ := Lib.hid hZ
      clear hZ
      go_region
      go_wp2_with fail
      go_roundw
      case rel => exact ⟨k + m, by omega, by omega, by go_num, by rw [← HZ.out]; exact HB4.out, HBL4.out⟩
      case measure => simp [intOf]; omega
    · have e9 : k = M := by omega
      rw [e9, rpL_all] at hblk
      have HF := Lib.hid (owns_full (n := M) (c := 1) encR_len hblk (by simp) (by unfold maxLen; omega) (base := w.heap.size) (by rw [HG.out]; exact Nat.le_refl _))
      clear hblk e9
      go_wp2_with fail
      go_ret
      exact ⟨g, rfl, by rw [HG.out]; exact Nat.le_refl _, HF.out, hbl⟩
end Go.Proofs.YtahgffjkkdbjeaaDoor
