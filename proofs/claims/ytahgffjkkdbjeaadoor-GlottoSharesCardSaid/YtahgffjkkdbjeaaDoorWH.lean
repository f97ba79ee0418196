/- glotto: the pairs of clusters, as an iterator. -/
import Derived.RangeFuncNested
import Derived.RangeFuncBound
import Derived.RangeFuncCalls
import Derived.RangeFuncLeaves
import Derived.Shelf.Abstract
import Derived.Shelf.RegionOpen
import Derived.WalkKit
import Derived.OwnWalkIn
import Derived.TacticsInMore
import Derived.LoopNIn
import Derived.LoopIn
import Derived.Test.YtahgffjkkdbjeaaDoorWG
namespace Go.Proofs.YtahgffjkkdbjeaaDoor
open Go.RowKit Go.Shelf
attribute [local go_sem] Oper.semAt_some
/-- Three blocks lie as they lay. -/
def Kp3 (B1 B2 B3 : Nat) (W W' : World) : Prop := W'.heap[B1]? = W.heap[B1]? ∧ W'.heap[B2]? = W.heap[B2]? ∧ W'.heap[B3]? = W.heap[B3]?
theorem Kp3.refl (B1 B2 B3 : Nat) (W : World) : Kp3 B1 B2 B3 W W := ⟨rfl, rfl, rfl⟩
theorem Kp3.trans {B1 B2 B3 : Nat} {X Y Z : World} (h : Kp3 B1 B2 B3 X Y) (k : Kp3 B1 B2 B3 Y Z) : Kp3 B1 B2 B3 X Z := ⟨k.1.trans h.1, k.2.1.trans h.2.1, k.2.2.trans h.2.2⟩
theorem cell_of_blockEq {W W' : World} {B : Nat} (h : W'.heap[B]? = W.heap[B]?) (o : Nat) : W'.cell? ⟨B, o, none⟩ = W.cell? ⟨B, o, none⟩ := by
  simp only [World.cell?]
  rw [h]
def encP (x : Nat × Nat) : Array Value := #[.int .i64 (x.1 : Int), .int .i64 (x.2 : Int)]
set_option maxRecDepth 100000 in
set_option maxHeartbeats 4000000 in
theorem pairs1_in (m n l Bn Bc B : Nat) (s f : Nat → Nat) (hn : n ≤ 24) (hm : 1 ≤ m) (J Jx : List (Nat × Nat) → World → Prop)
    (hY : ∀ pre (x : Nat × Nat) W, x.1 < 24 → x.2 < 24 → J pre W → pre.length < 600 → YieldAt Fence.wide (m - 1) Tryd.prog l (encP x) W fun e W' =>
      (e = .returned (.bool true) ∧ J (pre ++ [x]) W' ∧ Kp3 B Bn Bc W W') ∨ (e = .returned (.bool false) ∧ Jx (pre ++ [x]) W'))
    (W : World) (hBn : W.cell? ⟨Bn, 0, none⟩ = some (.int .i64 n)) (hBc : W.cell? ⟨Bc, 0, none⟩ = some (.pointer (some ⟨B, 0, none⟩))) (hc : Cl W B s f) (h0 : J [] W) :
    CallsIn Fence.wide m Tryd.prog 90 #[.func (.yield l) #[] #[], .pointer (some ⟨Bn, 0, none⟩), .pointer (some ⟨Bc, 0, none⟩)] W fun e W' => (∃ v, e = .returned v) ∧
      ((∃ ys, ys = prs s n n ∧ J ys W') ∨ (∃ pre, True ∧ Jx pre W')) := by
  have HY := Lib.hid hY
  clear hY
  have HC : Hid (∀ wr, Kp3 B Bn Bc W wr → wr.cell? ⟨Bn, 0, none⟩ = some (.int .i64 n) ∧ wr.cell? ⟨Bc, 0, none⟩ = some (.pointer (some ⟨B, 0, none⟩)) ∧ ∀ a, a < 24 → wr.cell? ⟨B, a, none⟩ = some (.int .i64 (s a))) :=
    fun wr h => ⟨(cell_of_blockEq h.2.1 0).trans hBn, (cell_of_blockEq h.2.2 0).trans hBc, fun a ha => (cell_of_blockEq h.1 a).trans (hc.size a ha)⟩
  clear hc hBc
  refine callsIn_of_wp Tryd.func90 rfl trivial ?_ rfl
  simp only [Tryd.ntmps90, List.size_toArray, List.length_cons, List.length_nil, Nat.reduceAdd, Nat.reduceSub, Array.replicate_succ, Array.replicate_zero, List.push_toArray, List.append_toArray, List.nil_append, List.cons_append]
  gi_wp2
  gi_loopw [7, 4, 5] (fun x _ _ wr => ∃ a : Nat, a ≤ n ∧ x = .int .i64 a ∧ J (prs s n a) wr ∧ Kp3 B Bn Bc W wr) (fun x _ _ _ => n - (intOf x).toNat)
  case atStart => exact ⟨0, by omega, rfl, h0, Kp3.refl _ _ _ _⟩
  case round =>
    obtain ⟨a, ha, rfl, hJ, hk⟩ := hrel
    by_cases hlt : a < n
    · obtain ⟨wo, rfl⟩ : ∃ wo : World, wo = wr := ⟨_, rfl⟩
      obtain ⟨e1, e2, e3⟩ := HC.out wo hk
      have ea := e3 a (by omega)
      have E3 := Lib.hid e3
      clear e3
      gi_wp2
      gi_loopw [5] (fun x wr => ∃ b : Nat, a + 1 ≤ b ∧ b ≤ n ∧ x = .int .i64 b ∧ Hid (b = a + 1 ∨ 0 < s a) ∧ J (prs s n a ++ if 0 < s a then rowP s a b else []) wr ∧ Kp3 B Bn Bc W wr) (fun x _ => n - (intOf x).toNat)
      case atStart => exact ⟨a + 1, by omega, by omega, by go_num, .inl rfl, by
        rw [rowP_low s a (a + 1) (Nat.le_refl _)]
        have : prs s n a ++ (if 0 < s a then [] else []) = prs s n a := by split <;> simp
        rw [this]; exact hJ, hk⟩
      case round =>
        obtain ⟨b, hb1, hb2, rfl, hsa, hJ2, hk2⟩ := hrel
        clear hJ e1 e2 ea E3
        obtain ⟨e1, e2, e3⟩ := HC.out wr hk2
        have ea := e3 a (by omega)
        by_cases hbn : b < n
        · have eb := e3 b (by omega)
          clear e3
          by_cases h1 : 0 < s a
          · by_cases h2 : 0 < s b
            · have hlen : (prs s n a ++ if 0 < s a then rowP s a b else []).length < 600 := by
                have l1 := prs_len s n hn a
                have l2 := rowP_len s a b
                rw [if_pos h1, List.length_append]
                omega
              obtain ⟨fn, tmps, assign, body, hy, hR⟩ := HY.out _ (a, b) wr (show a < 24 by omega) (show b < 24 by omega) hJ2 hlen
              dsimp only [encP] at hy
              have hnx : Hid ((prs s n a ++ if 0 < s a then rowP s a b else []) ++ [(a, b)] = prs s n a ++ if 0 < s a then rowP s a (b + 1) else []) := by
                show _ = _
                rw [if_pos h1, if_pos h1, rowP_next s a b (by omega) h2, List.append_assoc]
              have h1' : decide (0 < s a) = true := by simpa using h1
              have h2' : decide (0 < s b) = true := by simpa using h2
              have H1 : Hid (b + 1 = a + 1 ∨ 0 < s a) := .inr h1
              gi_wp2
              refine hR.mono ?_
              rintro e W3 (⟨rfl, hJ3, hk3⟩ | ⟨rfl, hJx3⟩)
              · rw [hnx.out] at hJ3
                gi_wp2
                go_roundw
                case rel => exact ⟨b + 1, by omega, by omega, by go_num, H1, hJ3, hk2.trans hk3⟩
                case measure => simp [intOf]; omega
              · gi_wp2
                refine bodyPost_ret (results_none rfl _ _ _) rfl ?_
                exact ⟨⟨_, rfl⟩, .inr ⟨_, trivial, hJx3⟩⟩
            · have hnx : Hid ((prs s n a ++ if 0 < s a then rowP s a b else []) = prs s n a ++ if 0 < s a then rowP s a (b + 1) else []) := by
                show _ = _
                rw [rowP_skip s a b fun h => h2 h.2]
              have h1' : decide (0 < s a) = true := by simpa using h1
              have h2' : decide (0 < s b) = false := by simpa using h2
              have H1 : Hid (b + 1 = a + 1 ∨ 0 < s a) := .inr h1
              rw [hnx.out] at hJ2
              gi_wp2
              refine ⟨fun _ h => (by cases h), ?_⟩
              gi_wp2
              go_roundw
              case rel => exact ⟨b + 1, by omega, by omega, by go_num, H1, hJ2, hk2⟩
              case measure => simp [intOf]; omega
          · have h1' : decide (0 < s a) = false := by simpa using h1
            have hnx : Hid ((prs s n a ++ if 0 < s a then rowP s a b else []) = prs s n (a + 1)) := by
              show _ = _
              rw [prs, if_neg h1, if_neg h1]
            rw [hnx.out] at hJ2
            gi_wp2
            go_roundw
            case rel => exact ⟨a + 1, by omega, by go_num, hJ2, hk2⟩
            case measure => simp [intOf]; omega
        · obtain rfl : b = n := by omega
          have hnx : Hid ((prs s b a ++ if 0 < s a then rowP s a b else []) = prs s b (a + 1)) := rfl
          rw [hnx.out] at hJ2
          have hd : decide (b < b) = false := by simp
          clear e3
          gi_wp2
          go_roundw
          case rel => exact ⟨a + 1, by omega, by go_num, hJ2, hk2⟩
          case measure => simp [intOf]; omega
    · have e : a = n := by omega
      subst e
      gi_wp2
      go_end0
      exact ⟨⟨_, rfl⟩, .inl ⟨_, rfl, hJ⟩⟩
/-- Two languages. -/
abbrev Two := Fin 24 × Fin 24
def toN (x : Two) : Nat × Nat := (x.1.val, x.2.val)
/-- The iterator keeps its word. -/
theorem pairs_stops (m n Bn Bc B : Nat) (s f : Nat → Nat) (w : World) (hn : n ≤ 24) (hm : 1 ≤ m) (hBn : w.cell? ⟨Bn, 0, none⟩ = some (.int .i64 n)) (hBc : w.cell? ⟨Bc, 0, none⟩ = some (.pointer (some ⟨B, 0, none⟩))) (hc : Cl w B s f) (h1 : Bn < w.heap.size) (h2 : Bc < w.heap.size) :
    SeqStopsK Fence.wide m Tryd.prog 90 #[.pointer (some ⟨Bn, 0, none⟩), .pointer (some ⟨Bc, 0, none⟩)] (fun x : Two => encP (toN x)) (Kp3 B Bn Bc) (fun ys => ys.map toN = prs s n n) (fun _ => True) 600 w := fun l J Jx W hW _ _ hY h0 => by
  refine (pairs1_in m n l Bn Bc B s f hn hm (fun l W => ∃ ys : List Two, ys.map toN = l ∧ J ys W) (fun l W => ∃ ys : List Two, ys.map toN = l ∧ Jx ys W) ?_ W ((hW.cell (p := ⟨Bn, 0, none⟩) h1).trans hBn) ((hW.cell (p := ⟨Bc, 0, none⟩) h2).trans hBc) (Blk.below hc hW) ⟨[], rfl, h0⟩).mono ?_
  · rintro pre ⟨x, y⟩ W1 hx hy ⟨ys, rfl, hJ⟩ hl
    obtain ⟨fn, tmps, assign, body, hy1, hR⟩ := hY ys (⟨x, hx⟩, ⟨y, hy⟩) W1 hJ (by rwa [List.length_map] at hl)
    refine ⟨fn, tmps, assign, body, hy1, hR.mono ?_⟩
    rintro e W' (⟨he, hJ', hk⟩ | ⟨he, hJx⟩)
    · exact .inl ⟨he, ⟨_, by rw [List.map_append]; rfl, hJ'⟩, hk⟩
    · exact .inr ⟨he, _, by rw [List.map_append]; rfl, hJx⟩
  · rintro e W' ⟨he, ⟨ys, rfl, zs, hz, hJ⟩ | ⟨pre, _, zs, _, hJx⟩⟩
    · exact ⟨he, .inl ⟨zs, hz, hJ⟩⟩
    · exact ⟨he, .inr ⟨zs, trivial, hJx⟩⟩
theorem pairs_any (n : Nat) (B : Nat) (w : World) :
    Calls Tryd.prog 56 #[.pointer (some ⟨B, 0, none⟩), .int .i64 n] w fun e w' => e = .returned (.func (.func 90) #[] #[.pointer (some ⟨w.heap.size + 1, 0, none⟩), .pointer (some ⟨w.heap.size, 0, none⟩)]) ∧ w' = (w.alloc (.cells #[.pointer (some ⟨B, 0, none⟩)] 96)).alloc (.cells #[.int .i64 n] 3) := by
  go_enter Tryd.func56, Tryd.ntmps56
  go_wp2
  go_ret
  exact ⟨rfl, rfl⟩
end Go.Proofs.YtahgffjkkdbjeaaDoor
