/-
  DERIVED. GIVEN WITH THE SEED: THE CARDS: each row of YtkdehkkkbfackaaGreatDoorRows.lean that lists a variable, with what it lists TIED to the program's text (the seventh form; the later family's looks); each row that meets fmt, with fmt's text TOLD by the authors' own Lean function (tested against real Go, not proved from fmt's source: count such statements apart). THE CARD IS WHAT COUNTS. Prove the row's statement (the work); the ties are given (YtkdehkkkbfackaaGreatDoorTie.lean); close each card by the builder's one call (the guide's Derived/Test/ToyasCard.lean, 'card_holds'). Laid BY PROGRAM, IN A SANDBOX (cutbox-door.mjs). By AI agents, Wed Nov 11 2026. No macro, syntax, notation, axiom, sorry.
-/
import Derived.Test.YtkdehkkkbfackaaGreatDoorRows
import GoSem.ClaimSeven
namespace Go.Proofs.YtkdehkkkbfackaaGreatDoor
namespace Rows

/-- THE TIED CARD OF 'ablauttop.TopPerfect'. -/
def topPerfectCard : Claim7 := { stood := { row := topPerfectRow, standIns := [], harness := (true, "20199facb8ed82961031aa17d55da9c32966b2fa0240e45ac2d568392e397eaa"), looks := false }, kinds := [], alts := [], laidByText := true, laidKinds := [.data, .data, .data], laidTests := true, laidLooks := .later }
def TopPerfectCardSaid : Prop := Claim7.holds Tryz.pinned (.plain (OpenSpec.ofChange topPerfectSpec)) topPerfectCard

/-- THE SECOND FORM's CARD OF 'ablauttop.TopPerfect'. -/
def topPerfectUptoCard : Claim7 := { stood := { row := topPerfectUptoRow, standIns := [], harness := (true, "20199facb8ed82961031aa17d55da9c32966b2fa0240e45ac2d568392e397eaa"), looks := false }, kinds := [], alts := [], laidByText := true, laidKinds := [.data, .data, .data], laidTests := true, laidLooks := .later }
def TopPerfectUptoCardSaid : Prop := Claim7.holds Tryz.pinned (.plain (OpenSpec.upto topPerfectSpec)) topPerfectUptoCard
end Rows
end Go.Proofs.YtkdehkkkbfackaaGreatDoor
