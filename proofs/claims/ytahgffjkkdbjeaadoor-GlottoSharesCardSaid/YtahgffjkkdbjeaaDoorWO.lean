/- glotto: the name of a merge or of a language; the example's distances. -/
import Derived.Test.YtahgffjkkdbjeaaDoorWK
namespace Go.Proofs.YtahgffjkkdbjeaaDoor
open Go.RowKit
/-- The name of merge k, or of language -1-k. -/
def nmOf (names : List ByteArray) (k : Int) : ByteArray := if k < 0 then sA names (-1 - k).toNat else innS k.toNat
set_option maxHeartbeats 1000000 in
theorem name_any (PB n c : Nat) (na : Option Addr) (names : List ByteArray) (v1 v2 : Value) (k : Int) (w : World) (hl : names.length = n) (hp : Blk w PB #[.slice na n c, v1, v2] 118) (hA : Rd w na (fl encS names)) (h1 : -1 - (n : Int) < k) (h2 : k < 100) (hn : n ≤ 1152921504606846976) (h3 : k < 0 → -1 - k < n) :
    Calls Tryd.prog 94 #[.pointer (some ⟨PB, 0, none⟩), .int .i64 k] w fun e w' => e = .returned (.string (nmOf names k)) ∧ w' = w := by
  by_cases hk : k < 0
  · have h3 := h3 hk
    have he : Hid (nmOf names k = sA names (-1 - k).toNat) := by show _ = _; rw [nmOf, if_pos hk]
    obtain ⟨b, o, rfl, _, hc⟩ := rdS hA (by omega)
    have g := hc (-1 - k).toNat (by omega)
    have p0 : w.cell? ⟨PB, 0, none⟩ = some (.slice (some ⟨b, o, none⟩) n c) := hp.cell 0
    have i0 : 0 ≤ -1 - k := by omega
    have HL := Lib.hid hl
    clear hc hp hl
    go_enter Tryd.func94, Tryd.ntmps94
    go_wp2_with fail
    go_ret
    exact ⟨by rw [he.out]; try rfl, rfl⟩
  · obtain ⟨j, rfl⟩ : ∃ j : Nat, k = j := ⟨k.toNat, by omega⟩
    have he : Hid (nmOf names j = innS j) := by show _ = _; rw [nmOf, if_neg hk]; rfl
    have HL := Lib.hid hl
    clear hl hk
    go_enter Tryd.func94, Tryd.ntmps94
    go_wp2_with fail
    refine (inner_any j _ (by omega)).mono ?_
    rintro e w' ⟨rfl, rfl⟩
    go_wp2_with fail
    go_ret
    exact ⟨by rw [he.out]; try rfl, rfl⟩
set_option maxHeartbeats 1000000 in
theorem three1_any (x : Int) (w : World) : Calls Tryd.prog 83 #[.int .i64 x] w fun e w' => e = .returned (.agg #[.int .i64 x, .int .i64 1]) ∧ Below w.heap.size w w' := by
  go_enter Tryd.func83, Tryd.ntmps83
  go_wp2_with fail
  refine bodyPost_ret (v := .agg #[.int .i64 x, .int .i64 1]) (by simp [results, Tryd.results83, go_sem]) rfl ⟨rfl, ?_⟩
  exact bl_alloc (Below.refl _ _) _
/-- The distances of the example. -/
def threeL : List Fr := [(0, 1), (2, 1), (6, 1), (2, 1), (0, 1), (8, 1), (6, 1), (8, 1), (0, 1)]
set_option maxHeartbeats 1000000 in
theorem three_any (w : World) : Calls Tryd.prog 47 #[] w fun e w' => ∃ B, e = .returned (.slice (some ⟨B, 0, none⟩) 9 9) ∧ Rd w' (some ⟨B, 0, none⟩) (fl encFr threeL) ∧ Below w.heap.size w w' := by
  go_enter Tryd.func47, Tryd.ntmps47
  go_wp2_with fail
  refine (three1_any 0 _).mono ?_
  rintro e w1 ⟨rfl, hb1⟩
  go_wp2_with fail
  refine (three1_any 2 _).mono ?_
  rintro e w2 ⟨rfl, hb2⟩
  go_wp2_with fail
  refine (three1_any 6 _).mono ?_
  rintro e w3 ⟨rfl, hb3⟩
  go_wp2_with fail
  refine (three1_any 2 _).mono ?_
  rintro e w4 ⟨rfl, hb4⟩
  go_wp2_with fail
  refine (three1_any 0 _).mono ?_
  rintro e w5 ⟨rfl, hb5⟩
  go_wp2_with fail
  refine (three1_any 8 _).mono ?_
  rintro e w6 ⟨rfl, hb6⟩
  go_wp2_with fail
  refine (three1_any 6 _).mono ?_
  rintro e w7 ⟨rfl, hb7⟩
  go_wp2_with fail
  refine (three1_any 8 _).mono ?_
  rintro e w8 ⟨rfl, hb8⟩
  go_wp2_with fail
  refine (three1_any 0 _).mono ?_
  rintro e w9 ⟨rfl, hb9⟩
  have hb := bl_trans (bl_trans (bl_trans (bl_trans (bl_trans (bl_trans (bl_trans (bl_trans hb1 hb2) hb3) hb4) hb5) hb6) hb7) hb8) hb9
  go_wp2_with fail
  go_ret
  refine ⟨w9.heap.size, rfl, ?_, bl_alloc hb _⟩
  have hk := Blk.new w9 (fl encFr threeL).toArray 40
  intro _
  refine ⟨w9.heap.size, 0, rfl, hk.lt, fun i hi => ?_⟩
  have h2 := hk.cell i
  rw [Nat.zero_add]
  refine Eq.trans h2 ?_
  simp only [List.getElem?_toArray]
  rw [List.getElem?_eq_getElem hi, List.getD_eq_getElem?_getD, List.getElem?_eq_getElem hi]
  rfl
end Go.Proofs.YtahgffjkkdbjeaaDoor
