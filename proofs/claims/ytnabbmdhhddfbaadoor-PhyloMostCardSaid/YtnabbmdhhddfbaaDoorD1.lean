/- The example of all statements: plain. -/
import Derived.Test.YtnabbmdhhddfbaaDoorC5
import Derived.Test.YtnabbmdhhddfbaaDoorB7
namespace Go.Proofs.YtnabbmdhhddfbaaDoor
open Go.RowKit Go.Shelf
theorem itoa_digit (i : Nat) (h : i < 10) : itoaB i = ⟨#[(48 + i).toUInt8]⟩ := by
  unfold itoaB
  rw [Go.Lib.decDigits, dif_pos h]
theorem fit_four : FitV [3, 7, 8, 6] := by intro i hi; have : i < 4 := hi; match i, this with | 0, _ => decide | 1, _ => decide | 2, _ => decide | 3, _ => decide
theorem fit_three : FitV [3, 7, 8] := by intro i hi; have : i < 3 := hi; match i, this with | 0, _ => decide | 1, _ => decide | 2, _ => decide
theorem grps_three : grpsN 4 [3, 7, 8] = [7, 3] := by
  rw [← refG_eq fit_three]
  decide
theorem conf_four : confE [3, 7, 8, 6] = some (0, 3) := by decide
theorem conf_three : confE [3, 7, 8] = none := by decide
theorem chk_four : chkT 4 [3, 7, 8, 6] = 0 := by decide
theorem chk_three : chkT 4 [3, 7, 8] = 0 := by decide
theorem big_four : lgL 4 [3, 7, 8, 6] = [0, 1, 2] ∧ lgE 4 [3, 7, 8, 6] = 0 := by decide
def exT : List Nd := [(-1, ⟨#[114, 111, 111, 116]⟩), (0, ⟨#[78, 49]⟩), (1, ⟨#[78, 50]⟩), (2, ⟨#[76, 48]⟩), (2, ⟨#[76, 49]⟩), (1, ⟨#[76, 50]⟩), (0, ⟨#[76, 51]⟩)]
theorem build_three : bdB 4 [3, 7, 8] = true ∧ bdE 4 [3, 7, 8] = 0 ∧ bdT 4 [3, 7, 8] = exT := by
  have h1 : bdB 4 [3, 7, 8] = true := by decide
  refine ⟨h1, by decide, ?_⟩
  unfold bdT
  rw [h1, if_pos rfl]
  show bdN 4 [3, 7, 8] = exT
  unfold bdN
  rw [if_neg (by decide), grps_three]
  have e : setsB 4 [3, 7, 8] = [15, 7, 3, 1, 2, 4, 8] := by unfold setsB; rw [grps_three]; rfl
  rw [e]
  have p : (List.range 7).map (fun i => parZ [15, 7, 3, 1, 2, 4, 8] (vA [15, 7, 3, 1, 2, 4, 8] i) i) = [-1, 0, 1, 2, 2, 1, 0] := by decide
  have q : (List.range 7).map (namB 2) = [⟨#[114, 111, 111, 116]⟩, ⟨#[78, 49]⟩, ⟨#[78, 50]⟩, ⟨#[76, 48]⟩, ⟨#[76, 49]⟩, ⟨#[76, 50]⟩, ⟨#[76, 51]⟩] := by
    show [(⟨#[114, 111, 111, 116]⟩ : ByteArray), ⟨#[78]⟩ ++ itoaB 1, ⟨#[78]⟩ ++ itoaB 2, ⟨#[76]⟩ ++ itoaB 0, ⟨#[76]⟩ ++ itoaB 1, ⟨#[76]⟩ ++ itoaB 2, ⟨#[76]⟩ ++ itoaB 3] = _
    rw [itoa_digit 0 (by omega), itoa_digit 1 (by omega), itoa_digit 2 (by omega), itoa_digit 3 (by omega)]
    rfl
  have z : treeN [15, 7, 3, 1, 2, 4, 8] (namB 2) 7 = ((List.range 7).map (fun i => parZ [15, 7, 3, 1, 2, 4, 8] (vA [15, 7, 3, 1, 2, 4, 8] i) i)).zip ((List.range 7).map (namB 2)) := by
    unfold treeN
    rw [List.zip_map']
  show treeN _ (namB 2) 7 = exT
  rw [z, p, q]
  rfl
theorem fitsE : ∀ v, v < 7 → (nS exT v).size ≤ 9223372036854775807 := by
  intro v hv
  match v, hv with
  | 0, _ => decide
  | 1, _ => decide
  | 2, _ => decide
  | 3, _ => decide
  | 4, _ => decide
  | 5, _ => decide
  | 6, _ => decide
theorem check_four : chkP 4 [3, 7, 8, 6] exT = 0 := by decide
theorem loss_four : lossL 4 [3, 7, 8, 6] exT = [0, 0, 0, 1] := by
  unfold lossL
  rw [check_four]
  decide
end Go.Proofs.YtnabbmdhhddfbaaDoor
