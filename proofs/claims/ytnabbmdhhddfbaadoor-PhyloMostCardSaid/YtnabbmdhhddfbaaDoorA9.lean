/- slices.SortFunc and slices.Compact at sets: the shelf's contracts, in the words of this seat. -/
import Derived.Test.YtnabbmdhhddfbaaDoorA8
import Derived.Test.YtnabbmdhhddfbaaDoorSH
import Derived.Shelf.SlicesE.Compact
namespace Go.Proofs.YtnabbmdhhddfbaaDoor
open Go.RowKit Go.Shelf Go.Sort
abbrev U64 := Fin 18446744073709551616
def encU (x : U64) : Value := .int .u64 (x.val : Int)
def cfU (x y : U64) : Int := setCmp x.val y.val
theorem setBef_iff (x y : Nat) : setBef x y = true ↔ cntB y 64 < cntB x 64 ∨ (cntB x 64 = cntB y 64 ∧ x < y) := by
  unfold setBef
  by_cases h : cntB x 64 = cntB y 64
  · rw [if_pos h]; simp [h]
  · rw [if_neg h]; simp [h]
theorem setBef_iff' (x y : Nat) : setBef x y = false ↔ ¬ (cntB y 64 < cntB x 64 ∨ (cntB x 64 = cntB y 64 ∧ x < y)) := by
  rw [← setBef_iff, Bool.not_eq_true]
theorem ltU (x y : U64) : ltOf cfU x y = setBef x.val y.val := by
  unfold ltOf cfU setCmp
  rw [Bool.eq_iff_iff, decide_eq_true_iff, setBef_iff]
  by_cases h : cntB y.val 64 = cntB x.val 64
  · rw [if_pos h]
    by_cases h1 : x.val < y.val
    · rw [if_pos h1]; omega
    · rw [if_neg h1]
      by_cases h2 : y.val < x.val
      · rw [if_pos h2]; omega
      · rw [if_neg h2]; omega
  · rw [if_neg h]; omega
theorem swo_cfU : SWO (ltOf cfU) where
  irrefl x := by rw [ltU, setBef_iff']; omega
  trans x y z h1 h2 := by rw [ltU, setBef_iff] at *; omega
  ntrans x y z h1 h2 := by rw [ltU, setBef_iff'] at *; omega
theorem tot_cfU (x y : U64) (h1 : ltOf cfU x y = false) (h2 : ltOf cfU y x = false) : x = y := by
  rw [ltU, setBef_iff'] at *
  exact Fin.ext (by omega)
def cmpSets_ren : Go.Shelf.Ren := ⟨fun | 43 => 65 | n => n, fun | 22 => 62 | 23 => 61 | 0 => 0 | 3 => 3 | 4 => 4 | n => n, fun | n => n⟩
theorem cmpSets : Go.Proofs.SlLaysE.n43 Tryd.prog cmpSets_ren := {
  mixed := by kernel_rfl
  f43 := ⟨Tryd.f65.name, by decide, Tryd.func65.trans (congrArg some (by kernel_rfl))⟩
  t0 := Tryd.underlying0
  a0 := Tryd.isAgg0
  z0 := Tryd.sizeOf0
  v0 := Tryd.zeroValue0
  t3 := Tryd.underlying3
  a3 := Tryd.isAgg3
  z3 := Tryd.sizeOf3
  v3 := Tryd.zeroValue3
  t4 := Tryd.underlying4
  a4 := Tryd.isAgg4
  z4 := Tryd.sizeOf4
  v4 := Tryd.zeroValue4
  t22 := Tryd.underlying62
  a22 := Tryd.isAgg62
  z22 := Tryd.sizeOf62
  v22 := Tryd.zeroValue62
  a23 := Tryd.isAgg61
  z23 := Tryd.sizeOf61 }
theorem oneU : OneCell encU := fun _ => rfl
theorem decU (x y : U64) : decide ((x.val : Int) = (y.val : Int)) = decide (x = y) := by
  by_cases q : x = y
  · simp [q]
  · have : ¬ ((x.val : Int) = (y.val : Int)) := fun e => q (Fin.ext (by omega))
    rw [decide_eq_false q, decide_eq_false this]
theorem guardU (P : Program) (T : TypeId) : GuardAt P T encU := fun op a b x y w => GuardAt.int P T .u64 op a b (x.val : Int) (y.val : Int) w
theorem eqU (P : Program) (T : TypeId) : EqlAt P T encU (fun x y => decide (x = y)) := ⟨fun x y w => by
  have h := (EqlAt.intD P T .u64).1 (x.val : Int) (y.val : Int) w
  show Sem.run P (binOp .eql T (encU x) (encU y)) w = .ok (.bool (decide (x = y))) w
  rw [← decU]
  exact h, guardU P T⟩
theorem neU (P : Program) (T : TypeId) : NeqAt P T encU (fun x y => decide (x = y)) := ⟨fun x y w => by
  have h := (NeqAt.intD P T .u64).1 (x.val : Int) (y.val : Int) w
  show Sem.run P (binOp .neq T (encU x) (encU y)) w = .ok (.bool (!decide (x = y))) w
  rw [← decU]
  exact h, guardU P T⟩
theorem compact_any (blk off cap : Nat) (d : Array U64) (w : World) (hH : Holds encU w blk off d) (hsz : d.size ≤ 9223372036854775807) (hcap : d.size ≤ cap) :
    Calls Tryd.prog 65 #[.slice (some ⟨blk, off, none⟩) d.size cap] w fun e w' => e = .returned (.slice (some ⟨blk, off, none⟩) (Go.Lib.compactUpTo d d.size).length cap) ∧ ∃ q, w' = putRow encU (Sort.ahead w q) blk off (Go.Lib.compactUpTo d d.size ++ List.replicate (d.size - (Go.Lib.compactUpTo d d.size).length) 0).toArray :=
  AnyE.slices_Compact cmpSets encU oneU (eqU _ _) (neU _ _) 0 Tryd.zeroValue61 blk off cap d w hH hsz hcap
theorem cmpLaysU (blk off size : Nat) (w : World) : CmpLays1 Tryd.prog 64 #[] encU cfU blk off size w := fun m os dk _ x y =>
  (cmp_any x.val y.val _ x.isLt y.isLt).mono fun e w' h => ⟨h.1, 0, #[], by rw [h.2, grow_empty]; rfl⟩
theorem sort_any (blk off cap : Nat) (d : Array U64) (w : World) (hH : Holds encU w blk off d) (hblk : blk < w.heap.size) (hsz : d.size < 4611686018427387904) :
    Calls Tryd.prog 63 #[.slice (some ⟨blk, off, none⟩) d.size cap, .func (.func 64) #[] #[]] w fun e w' =>
      e = .returned (.tuple #[]) ∧ ∃ n os, w' = sortWorld encU w blk off n (d.toList.mergeSort fun x y => !(ltOf cfU) y x).toArray os :=
  Any.slices_SortFunc_total Tryd.sortSets encU oneU cfU swo_cfU 64 #[] blk off cap d w (enters_of Tryd.func64 (by kernel_rfl) rfl) (cmpLaysU _ _ _ _) hH hblk hsz tot_cfU
theorem sort_none (p : Option Addr) (cap : Nat) (fv : Value) (w : World) :
    Calls Tryd.prog 63 #[.slice p 0 cap, fv] w fun e w' => e = .returned (.tuple #[]) ∧ w' = w := by
  have h := AnyF.slices_SortFunc_none (P := Tryd.prog) (ρ := Tryd.sortSets_ren) { Tryd.sortSets with } p cap fv w
  exact h
end Go.Proofs.YtnabbmdhhddfbaaDoor
