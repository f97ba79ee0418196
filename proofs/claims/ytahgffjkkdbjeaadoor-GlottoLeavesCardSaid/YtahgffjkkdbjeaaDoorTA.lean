/- The document's names: letters, names, cut, inner names. -/
import Derived.Laws.IdiomStrings
import Derived.Test.YtahgffjkkdbjeaaDoorZC
namespace Go.Proofs.YtahgffjkkdbjeaaDoor
open Go.RowKit
set_option maxHeartbeats 4000000 in
theorem rletter_any (n : Int) (w : World) (h0 : 0 ≤ n) (h1 : n ≤ 255) : Calls Tryd.prog 96 #[.int .u8 n] w fun e w' => e = .returned (.bool (ltrI n)) ∧ w' = w := by
  obtain ⟨r, hr⟩ : ∃ r, r = ltrI n := ⟨_, rfl⟩
  have HR : Hid (r = decide (97 ≤ n ∧ n ≤ 122 ∨ 65 ≤ n ∧ n ≤ 90 ∨ 48 ≤ n ∧ n ≤ 57 ∨ n = 45)) := hr
  rw [← hr]
  clear hr
  by_cases H : 97 ≤ n ∧ n ≤ 122 ∨ 65 ≤ n ∧ n ≤ 90 ∨ 48 ≤ n ∧ n ≤ 57 ∨ n = 45
  · have HV : Hid (r = true) := by show _ = _; rw [HR.out]; exact decide_eq_true H
    by_cases a7 : n = 45
    · have b1 : ¬ 97 ≤ n := by omega
      have b2 : ¬ 65 ≤ n := by omega
      have b3 : ¬ 48 ≤ n := by omega
      have b4 : (n == 45) = true := by simp [a7]
      first
        | omega
        | (clear a7 H
           go_enter Tryd.func96, Tryd.ntmps96
           go_wp2
           go_ret
           exact ⟨ret_b (by rw [HV.out]; try simp [*]), rfl⟩)
    · have b4 : (n == 45) = false := by simp [a7]
      by_cases a1 : 97 ≤ n <;> by_cases a2 : n ≤ 122 <;> by_cases a3 : 65 ≤ n <;> by_cases a4 : n ≤ 90 <;> by_cases a5 : 48 ≤ n <;> by_cases a6 : n ≤ 57
      all_goals first
        | omega
        | (clear a7 H
           go_enter Tryd.func96, Tryd.ntmps96
           go_wp2
           go_ret
           exact ⟨ret_b (by rw [HV.out]; try simp [*]), rfl⟩)
  · have HV : Hid (r = false) := by show _ = _; rw [HR.out]; exact decide_eq_false H
    by_cases a7 : n = 45
    · have b1 : ¬ 97 ≤ n := by omega
      have b2 : ¬ 65 ≤ n := by omega
      have b3 : ¬ 48 ≤ n := by omega
      have b4 : (n == 45) = true := by simp [a7]
      first
        | omega
        | (clear a7 H
           go_enter Tryd.func96, Tryd.ntmps96
           go_wp2
           go_ret
           exact ⟨ret_b (by rw [HV.out]; try simp [*]), rfl⟩)
    · have b4 : (n == 45) = false := by simp [a7]
      by_cases a1 : 97 ≤ n <;> by_cases a2 : n ≤ 122 <;> by_cases a3 : 65 ≤ n <;> by_cases a4 : n ≤ 90 <;> by_cases a5 : 48 ≤ n <;> by_cases a6 : n ≤ 57
      all_goals first
        | omega
        | (clear a7 H
           go_enter Tryd.func96, Tryd.ntmps96
           go_wp2
           go_ret
           exact ⟨ret_b (by rw [HV.out]; try simp [*]), rfl⟩)
theorem ba_push2 (a b : UInt8) : (ByteArray.empty.push a).push b = ⟨#[a, b]⟩ := rfl
theorem ba_push3 (a b c : UInt8) : ((ByteArray.empty.push a).push b).push c = ⟨#[a, b, c]⟩ := rfl
theorem innS_low {i : Nat} (h : i < 10) : innS i = ⟨#[109, UInt8.ofNat (48 + i)]⟩ := by
  unfold innS
  rw [Lib.decDigits, dif_pos h]
theorem innS_high {i : Nat} (h : ¬ i < 10) (h2 : i < 100) : innS i = ⟨#[109, UInt8.ofNat (48 + i / 10), UInt8.ofNat (48 + i % 10)]⟩ := by
  unfold innS
  rw [Lib.decDigits, dif_neg h, Lib.decDigits, dif_pos (by omega)]
  rfl
theorem run_str (w : World) (l : List UInt8) {cs : Array Value} (h : ∀ j (hj : j < l.length), cs[j]? = some (.int .u8 (l[j].toNat : Int))) : (convert 59 9 (.slice (some ⟨w.heap.size, 0, none⟩) l.length l.length)).run Tryd.prog (w.alloc (.cells cs 5)) = .ok (.string ⟨l.toArray⟩) (w.alloc (.cells cs 5)) := by
  refine run_convert_bytes_back _ 59 9 5 ⟨w.heap.size, 0, none⟩ l.length l Tryd.underlying59 Tryd.underlying5 Tryd.underlying9 fun j hj => ?_
  have h1 := (Blk.new w cs 5).cell j
  rw [h j hj] at h1
  by_cases e : j = 0
  · subst e; simpa [Addr.add] using h1
  · simpa [Addr.add, e] using h1
theorem toNat_dig {i : Nat} (h : i < 10) : (UInt8.ofNat (48 + i)).toNat = 48 + i := by
  rw [UInt8.toNat_ofNat_of_lt']; show 48 + i < 256; omega
set_option maxRecDepth 100000 in
set_option maxHeartbeats 1000000 in
theorem rinner_any (i : Nat) (w : World) (hi : i < 100) : Calls Tryd.prog 77 #[.int .i64 i] w fun e w' => e = .returned (.string (innS i)) ∧ Below w.heap.size w w' := by
  by_cases h : i < 10
  · have hrun : (convert 59 9 (.slice (some ⟨w.heap.size, 0, none⟩) 2 2)).run Tryd.prog (w.alloc (.cells #[.int .u8 109, .int .u8 (48 + (i : Int))] 5)) = .ok (.string (innS i)) (w.alloc (.cells #[.int .u8 109, .int .u8 (48 + (i : Int))] 5)) := by
      rw [innS_low h]
      refine run_str w [109, UInt8.ofNat (48 + i)] fun j hj => ?_
      rcases j with _ | _ | j
      · rfl
      · simp [toNat_dig h]; omega
      · simp at hj; omega
    have HB := Lib.hid (bl_alloc (Below.refl w.heap.size w) (.cells #[.int .u8 109, .int .u8 (48 + (i : Int))] 5))
    go_enter Tryd.func77, Tryd.ntmps77
    go_wp2_with fail
    go_ret
    exact ⟨rfl, HB.out⟩
  · obtain ⟨x, hx⟩ : ∃ x, i / 10 = x := ⟨_, rfl⟩
    obtain ⟨y, hy⟩ : ∃ y, i % 10 = y := ⟨_, rfl⟩
    have hx1 : x < 10 := by omega
    have hy1 : y < 10 := by omega
    have hrun : (convert 59 9 (.slice (some ⟨w.heap.size, 0, none⟩) 3 3)).run Tryd.prog (w.alloc (.cells #[.int .u8 109, .int .u8 (48 + (x : Int)), .int .u8 (48 + (y : Int))] 5)) = .ok (.string (innS i)) (w.alloc (.cells #[.int .u8 109, .int .u8 (48 + (x : Int)), .int .u8 (48 + (y : Int))] 5)) := by
      rw [innS_high h hi, hx, hy]
      refine run_str w [109, UInt8.ofNat (48 + x), UInt8.ofNat (48 + y)] fun j hj => ?_
      rcases j with _ | _ | _ | j
      · rfl
      · simp [toNat_dig hx1]; omega
      · simp [toNat_dig hy1]; omega
      · simp at hj; omega
    have HB := Lib.hid (bl_alloc (Below.refl w.heap.size w) (.cells #[.int .u8 109, .int .u8 (48 + (x : Int)), .int .u8 (48 + (y : Int))] 5))
    have e1 : (i : Int) / 10 = (x : Int) := by rw [← hx]; rfl
    have e2 : (i : Int) % 10 = (y : Int) := by rw [← hy]; rfl
    have e3 : (i : Int).tmod 10 = (y : Int) := by rw [← hy]; rfl
    have e4 : (i : Int).tdiv 10 = (x : Int) := by rw [← hx]; rfl
    clear hx hy
    go_enter Tryd.func77, Tryd.ntmps77
    go_wp2_with fail
    go_ret
    exact ⟨rfl, HB.out⟩
set_option maxRecDepth 100000 in
set_option maxHeartbeats 1000000 in
theorem cut_any (s : ByteArray) (w : World) (hs : s.size ≤ 9223372036854775807) : Calls Tryd.prog 76 #[.string s] w fun e w' => e = .returned (.string (s.extract 0 (min s.size 25))) ∧ w' = w := by
  go_enter Tryd.func76, Tryd.ntmps76
  have hm : (min (s.size : Int) 25).toNat = min s.size 25 := by omega
  go_wp2_with fail
  go_ret
  exact ⟨rfl, rfl⟩
set_option maxHeartbeats 1000000 in
theorem rnamed_any (s : ByteArray) (w : World) (hs : s.size ≤ 9223372036854775807) : Calls Tryd.prog 75 #[.string s] w fun e w' => e = .returned (.bool (nmB s)) ∧ w' = w := by
  go_enter Tryd.func75, Tryd.ntmps75
  go_wp2_with fail
  go_loopw [3] (fun x wr => ∃ k : Nat, k ≤ s.size ∧ x = .int .i64 k ∧ Hid ((s.data.toList.take k).all (fun c => ltrI c.toNat) = true) ∧ wr = w) (fun x _ => s.size - (intOf x).toNat)
  case atStart => exact ⟨0, by omega, rfl, rfl, rfl⟩
  case round =>
    obtain ⟨k, hk, rfl, hal, rfl⟩ := hrel
    by_cases hlt : k < s.size
    · have hts : s.data.toList.take (k + 1) = s.data.toList.take k ++ [s[k]] := by
        rw [List.take_succ_eq_append_getElem (by simpa using hlt)]; rfl
      have HNX : Hid ((s.data.toList.take (k + 1)).all (fun c => ltrI c.toNat) = ((s.data.toList.take k).all (fun c => ltrI c.toNat) && ltrI s[k].toNat)) := by
        show _ = _
        rw [hts, List.all_append]; simp
      have HNO : Hid (ltrI s[k].toNat = false → nmB s = false) := fun h => by
        have : s.data.toList.all (fun c => ltrI c.toNat) = false := by
          rw [List.all_eq_false]
          exact ⟨s[k], by exact Array.mem_toList_iff.2 (Array.getElem_mem _), by rw [h]; simp⟩
        rw [nmB, this]; rfl
      clear hts
      have hc0 : (0 : Int) ≤ (s[k].toNat : Int) := by omega
      have hc1 : (s[k].toNat : Int) ≤ 255 := by have := s[k].toNat_lt; omega
      go_wp2_with fail
      refine (rletter_any _ _ hc0 hc1).mono ?_
      rintro e w' ⟨rfl, rfl⟩
      rcases Bool.eq_false_or_eq_true (ltrI s[k].toNat) with hp | hp
      · have HP := Lib.hid hp
        rw [hp]
        clear hp
        go_wp2_with fail
        go_roundw
        case rel => exact ⟨k + 1, by omega, by go_num, by show _ = _; rw [HNX.out, hal.out, HP.out]; rfl, by trivial⟩
        case measure => simp [intOf]; omega
      · have HP := Lib.hid hp
        rw [hp]
        clear hp
        go_wp2_with fail
        go_ret
        exact ⟨ret_b (HNO.out HP.out).symm, rfl⟩
    · have e : k = s.size := by omega
      have hfin : Hid (nmB s = (decide (0 < s.size) && decide (s.size ≤ 24))) := by
        have h1 := hal.out
        rw [e, List.take_of_length_le (by simp)] at h1
        show _ = _
        rw [nmB, h1]; rfl
      clear hal
      by_cases b1 : 0 < s.size
      · have b1' : decide (0 < s.size) = true := by simpa using b1
        go_wp2_with fail
        go_ret
        exact ⟨ret_b (by rw [hfin.out, b1']; simp; omega), rfl⟩
      · have b1' : decide (0 < s.size) = false := by simpa using b1
        go_wp2_with fail
        go_ret
        exact ⟨ret_b (by rw [hfin.out, b1']; simp), rfl⟩

theorem nmB_cut (s : ByteArray) : nmB (s.extract 0 (min s.size 25)) = nmB s := by
  by_cases h : s.size ≤ 25
  · rw [Nat.min_eq_left h]
    congr 1
    apply ByteArray.ext
    simp
  · rw [nmB_size (s := s) (by omega), nmB_size]
    rw [ByteArray.size_extract]; omega
end Go.Proofs.YtahgffjkkdbjeaaDoor
