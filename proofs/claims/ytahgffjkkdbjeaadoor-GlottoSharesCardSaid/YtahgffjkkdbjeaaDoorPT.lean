/- Plain: the nodes of a clustering's tree, in preorder. -/
import Derived.Test.YtahgffjkkdbjeaaDoorL1
namespace Go.Proofs.YtahgffjkkdbjeaaDoor
open Go.RowKit
/-- What is planted below node up for cluster k, when pos nodes stand already: at most f merges deep. -/
def plantL (nm : Int → ByteArray) (bel : List Fr) : Nat → Int → Int → Nat → List Nd
  | 0, _, _, _ => []
  | f + 1, up, k, pos =>
    (up, nm k) :: if k < 0 then [] else
      plantL nm bel f pos (fN bel k.toNat) (pos + 1) ++ plantL nm bel f pos (fD bel k.toNat) (pos + 1 + (plantL nm bel f pos (fN bel k.toNat) (pos + 1)).length)
theorem plantL_len (nm : Int → ByteArray) (bel : List Fr) : ∀ (f : Nat) (up k : Int) (pos : Nat), (plantL nm bel f up k pos).length + 1 ≤ 2 ^ f
  | 0, _, _, _ => by simp [plantL]
  | f + 1, up, k, pos => by
    have h1 := plantL_len nm bel f pos (fN bel k.toNat) (pos + 1)
    have h2 := plantL_len nm bel f pos (fD bel k.toNat) (pos + 1 + (plantL nm bel f pos (fN bel k.toNat) (pos + 1)).length)
    rw [plantL, Nat.pow_succ]
    split
    · simp; omega
    · rw [List.length_cons, List.length_append]; omega
/-- Each merge's parts are languages or earlier merges. -/
def BelOk (n : Nat) (bel : List Fr) : Prop := ∀ i, i < bel.length → (fN bel i < i ∧ -1 - (n : Int) < fN bel i) ∧ (fD bel i < i ∧ -1 - (n : Int) < fD bel i)
/-- What stands after a merge itself and its first i parts. -/
def plAcc (nm : Int → ByteArray) (bel : List Fr) (f pos : Nat) (X Y : Int) (o1 : List Nd) : Nat → List Nd
  | 0 => o1
  | 1 => o1 ++ plantL nm bel f pos X (pos + 1)
  | _ => o1 ++ plantL nm bel f pos X (pos + 1) ++ plantL nm bel f pos Y (pos + 1 + (plantL nm bel f pos X (pos + 1)).length)
theorem plAcc_two (nm : Int → ByteArray) (bel : List Fr) (f pos : Nat) (up : Int) (j : Nat) (o : List Nd) : plAcc nm bel f pos (fN bel j) (fD bel j) (o ++ [(up, nm j)]) 2 = o ++ plantL nm bel (f + 1) up j pos := by
  rw [plantL, if_neg (by omega)]
  simp [plAcc, Int.toNat_natCast]
end Go.Proofs.YtahgffjkkdbjeaaDoor
