/- The document's under: a tree below the root of another one. -/
import Derived.Test.YtahgffjkkdbjeaaDoorPR
import Derived.Test.YtahgffjkkdbjeaaDoorTA
import Derived.Test.YtahgffjkkdbjeaaDoorZE
namespace Go.Proofs.YtahgffjkkdbjeaaDoor
open Go.RowKit
theorem shf_at (up : Int) (pos : Nat) (t : List Nd) {i : Nat} (hi : i < t.length) : (shf up pos t)[i]? = some (if i = 0 then (up, nS t i) else (nP t i + (pos : Int), nS t i)) := by
  cases t with
  | nil => simp at hi
  | cons x r =>
    rcases i with _ | i
    · simp [shf, nS]
    · have h2 : i < r.length := by simpa using hi
      simp [shf, nS, nP, h2]
theorem shf_take (up : Int) (pos : Nat) (t : List Nd) {i : Nat} (hi : i < t.length) : (shf up pos t).take (i + 1) = (shf up pos t).take i ++ [if i = 0 then (up, nS t i) else (nP t i + (pos : Int), nS t i)] := by
  rw [List.take_add_one, shf_at up pos t hi]; rfl
theorem grown_trans {a b c : World} {row row2 : Option Nat} (h : a.grownBy b row) (k : b.grownBy c row2) (hr : row2 = row ∨ ∀ g, row2 = some g → a.heap.size ≤ g) : a.grownBy c row := by
  refine ⟨k.os.trans h.os, k.tape.trans h.tape, k.output.trans h.output, Nat.le_trans h.size k.size, fun i hi hne => (k.block i (Nat.lt_of_lt_of_le hi h.size) fun e => ?_).trans (h.block i hi hne)⟩
  rcases hr with hr | hr
  · exact hne (e.trans hr)
  · have := hr i e.symm; omega
theorem grown_alloc {a b : World} {row : Option Nat} (h : a.grownBy b row) (o : Obj) : a.grownBy (b.alloc o) row :=
  grown_trans (row2 := none) h ⟨rfl, rfl, rfl, by simp, fun i hi _ => Below.heap_alloc b o i hi⟩ (.inr fun g e => by cases e)
/-- Where a slice that grows lies. -/
def GrV (w : World) (V0 : Option Nat) (v : Value) : Prop := v.ownBlock = V0 ∨ ∃ g, v.ownBlock = some g ∧ w.heap.size ≤ g
set_option maxRecDepth 100000 in
set_option maxHeartbeats 4000000 in
theorem under_any (base : Nat) (ta pa : Option Addr) (tn tc pn pc : Nat) (t part : List Nd) (w : World) (hbase : base ≤ w.heap.size) (ht : t.length = tn) (hp : part.length = pn) (htn : tn ≤ 1000) (hpn : pn ≤ 1000) (hown : w.ownsRow base 66 2 (.slice ta tn tc) tn (fl encNd t)) (hP : Rd w pa (fl encNd part))
    (hoff : ∀ b off, pa = some ⟨b, off, none⟩ → some b ≠ (Value.slice ta tn tc).ownBlock) (hbd : ∀ i, 0 < i → i < pn → 0 ≤ nP part i ∧ nP part i ≤ 1000) :
    Calls Tryd.prog 78 #[.slice ta tn tc, .slice pa pn pc] w fun e w' => ∃ v', e = .returned v' ∧ w'.ownsRow base 66 2 v' (tn + pn) (fl encNd (undr t part)) ∧ w.grownBy w' (Value.slice ta tn tc).ownBlock ∧ GrV w (Value.slice ta tn tc).ownBlock v' := by
  have HT := Lib.hid ht
  have HP := Lib.hid hp
  have HPR := Lib.hid hP
  have HOF := Lib.hid hoff
  have HBD := Lib.hid hbd
  obtain ⟨V0, hV0⟩ : ∃ V0, V0 = (Value.slice ta tn tc).ownBlock := ⟨_, rfl⟩
  have HV0 := Lib.hid hV0
  have hown0 : w.ownsRow base 66 2 (.slice ta tn tc) (tn + 0) (fl encNd (t ++ (shf 0 tn part).take 0)) := by rw [List.take_zero, List.append_nil]; exact hown
  have hg0 : w.grownBy w V0 := World.grownBy.refl w _
  have hv0 : GrV w V0 (.slice ta tn tc) := .inl hV0.symm
  clear hP hoff hbd hV0 ht hp hown
  go_enter Tryd.func78, Tryd.ntmps78
  go_wp2_with fail
  go_loopw [6, 0] (fun x v wr => ∃ i : Nat, i ≤ pn ∧ x = .int .i64 i ∧ wr.ownsRow base 66 2 v (tn + i) (fl encNd (t ++ (shf 0 tn part).take i)) ∧ w.grownBy wr V0 ∧ GrV w V0 v) (fun x _ _ => pn - (intOf x).toNat)
  case atStart => exact ⟨0, by omega, rfl, hown0, hg0, hv0⟩
  case round =>
    clear hown0 hg0 hv0
    obtain ⟨i, hi, rfl, hown, hg, hv⟩ := hrel
    by_cases hlt : i < pn
    · have hrd : Rd wr pa (fl encNd part) := HPR.out.grown hg fun _ b off e => by rw [HV0.out]; exact HOF.out b off e
      obtain ⟨b, o, rfl, hbl, hc⟩ := rdNd hrd (by rw [HP.out]; omega)
      obtain ⟨G0, G1⟩ := hc i (by rw [HP.out]; exact hlt)
      have HTK := Lib.hid (shf_take 0 tn part (i := i) (by rw [HP.out]; exact hlt))
      have hbd := Lib.hid (fun h => HBD.out i h hlt)
      have hll : (t ++ (shf 0 tn part).take i).length = tn + i := by rw [List.length_append, HT.out, List.length_take, shf_len, HP.out]; omega
      have HLL := Lib.hid hll
      have HOWN := Lib.hid hown
      have HG := Lib.hid hg
      have HV := Lib.hid hv
      clear hc hrd hll hown hg hv
      generalize nP part i = p at *
      generalize nS part i = s at *
      have hbw : base ≤ wr.heap.size := Nat.le_trans hbase HG.out.size
      by_cases h0 : i = 0
      · have t1 : ((i : Int) == 0) = true := by simp; omega
        have HE : Hid ((shf 0 tn part).take (i + 1) = (shf 0 tn part).take i ++ [(0, s)]) := by show _ = _; rw [HTK.out, if_pos h0]
        clear h0
        go_wp2_with (at_builtin; refine push_Nd rfl (.tmp 28) (.tmp 30) rfl base u0 (t ++ (shf 0 tn part).take i) (tn + i) HLL.out.symm rfl ((HOWN.out.alloc _).alloc _) (wr.heap.size + 1) 1 (0, s) rfl (Blk.new2 _ _ _ _) (by omega) (by simp; omega) ?_; intro g5 c5 w5 k1 k2 k3 k4)
        rw [List.append_assoc, ← HE.out] at k1
        have hg5 := grown_trans (grown_alloc (grown_alloc HG.out (.cells #[.int .i64 0, .string s] 66)) (.cells #[.int .i64 0, .string s] 66)) k2 (by
          rcases HV.out with h | ⟨g, h, h2⟩
          · exact .inl h
          · exact .inr fun g' e => by rw [h] at e; have := Option.some.inj e; omega)
        have hv5 : GrV w V0 (.slice (some ⟨g5, 0, none⟩) (tn + i + 1) c5) := by
          have hgs := HG.out.size
          rcases k3 with e | e
          · rcases HV.out with h | ⟨g, h, h2⟩
            · exact .inl (by rw [← h, e]; rfl)
            · exact .inr ⟨g5, rfl, by rw [h] at e; have := Option.some.inj e; omega⟩
          · exact .inr ⟨g5, rfl, by rw [e]; simp; omega⟩
        clear k2 k3
        go_wp2_with fail
        go_roundw
        case rel => exact ⟨i + 1, by omega, by go_num, k1, hg5, hv5⟩
        case measure => simp [intOf]; omega
      · have t1 : ((i : Int) == 0) = false := by simp; omega
        obtain ⟨b1, b2⟩ := hbd.out (by omega)
        obtain ⟨p1, rfl⟩ : ∃ p1 : Nat, p = p1 := ⟨p.toNat, by omega⟩
        have wp := wrap_nat ((p1 : Int) + (tn : Int)) (p1 + tn) (by omega) (by omega)
        have HE : Hid ((shf 0 tn part).take (i + 1) = (shf 0 tn part).take i ++ [(((p1 + tn : Nat) : Int), s)]) := by show _ = _; rw [HTK.out, if_neg h0]; simp
        clear h0 hbd
        go_wp2_with (at_builtin; refine push_Nd rfl (.tmp 28) (.tmp 30) rfl base u0 (t ++ (shf 0 tn part).take i) (tn + i) HLL.out.symm rfl ((HOWN.out.alloc _).alloc _) (wr.heap.size + 1) 1 (((p1 + tn : Nat) : Int), s) rfl (by first | exact Blk.new2 _ _ _ _ | (simp only [Int.natCast_add]; exact Blk.new2 _ _ _ _)) (by omega) (by simp; omega) ?_; intro g5 c5 w5 k1 k2 k3 k4)
        rw [List.append_assoc, ← HE.out] at k1
        have hg5 := grown_trans (grown_alloc (grown_alloc HG.out _) _) k2 (by
          rcases HV.out with h | ⟨g, h, h2⟩
          · exact .inl h
          · exact .inr fun g' e => by rw [h] at e; have := Option.some.inj e; omega)
        have hv5 : GrV w V0 (.slice (some ⟨g5, 0, none⟩) (tn + i + 1) c5) := by
          have hgs := HG.out.size
          rcases k3 with e | e
          · rcases HV.out with h | ⟨g, h, h2⟩
            · exact .inl (by rw [← h, e]; rfl)
            · exact .inr ⟨g5, rfl, by rw [h] at e; have := Option.some.inj e; omega⟩
          · exact .inr ⟨g5, rfl, by rw [e]; simp; omega⟩
        clear k2 k3
        go_wp2_with fail
        go_roundw
        case rel => exact ⟨i + 1, by omega, by go_num, k1, hg5, hv5⟩
        case measure => simp [intOf]; omega
    · obtain rfl : i = pn := by omega
      have h1 : (shf 0 tn part).take i = shf 0 tn part := List.take_of_length_le (by rw [shf_len, HP.out]; exact Nat.le_refl _)
      rw [h1] at hown
      have HO : Hid (wr.ownsRow base 66 2 u0 (tn + i) (fl encNd (undr t part))) := by rw [undr, HT.out]; exact hown
      clear hown h1
      go_wp2_with fail
      go_ret
      exact ⟨_, rfl, HO.out, by rw [← HV0.out]; exact hg, by rw [← HV0.out]; exact hv⟩
end Go.Proofs.YtahgffjkkdbjeaaDoor
