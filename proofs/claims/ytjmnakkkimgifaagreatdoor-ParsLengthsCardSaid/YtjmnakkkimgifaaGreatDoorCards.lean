/-
  DERIVED. GIVEN WITH THE SEED: THE CARDS: each row of YtjmnakkkimgifaaGreatDoorRows.lean that lists a variable, with what it lists TIED to the program's text (the seventh form; the later family's looks); each row that meets fmt, with fmt's text TOLD by the authors' own Lean function (tested against real Go, not proved from fmt's source: count such statements apart). THE CARD IS WHAT COUNTS. Prove the row's statement (the work); the ties are given (YtjmnakkkimgifaaGreatDoorTie.lean); close each card by the builder's one call (the guide's Derived/Test/ToyasCard.lean, 'card_holds'). Laid BY PROGRAM, IN A SANDBOX (cutbox-door.mjs). By AI agents, Wed Nov 11 2026. No macro, syntax, notation, axiom, sorry.
-/
import Derived.Test.YtjmnakkkimgifaaGreatDoorRows
import GoSem.ClaimSeven
namespace Go.Proofs.YtjmnakkkimgifaaGreatDoor
namespace Rows

/-- THE TIED CARD OF 'ablautlaw33.ParsLengths'. -/
def parsLengthsCard : Claim7 := { stood := { row := parsLengthsRow, standIns := [], harness := (true, "dd4fb305f6902f4b7afe8271006707741f295c8a0112ef445a7ac04dc7522378"), looks := false }, kinds := [], alts := [], laidByText := true, laidKinds := [.data, .data, .data], laidTests := true, laidLooks := .later }
def ParsLengthsCardSaid : Prop := Claim7.holds Tryz.pinned (.plain (OpenSpec.ofChange parsLengthsSpec)) parsLengthsCard

/-- THE TIED CARD OF 'ablautlaw33.ParsNears'. -/
def parsNearsCard : Claim7 := { stood := { row := parsNearsRow, standIns := [], harness := (true, "dd4fb305f6902f4b7afe8271006707741f295c8a0112ef445a7ac04dc7522378"), looks := false }, kinds := [], alts := [], laidByText := true, laidKinds := [.data, .data, .data], laidTests := true, laidLooks := .later }
def ParsNearsCardSaid : Prop := Claim7.holds Tryz.pinned (.plain (OpenSpec.ofChange parsNearsSpec)) parsNearsCard

/-- THE TIED CARD OF 'ablautlaw33.ParsAll'. -/
def parsAllCard : Claim7 := { stood := { row := parsAllRow, standIns := [], harness := (true, "dd4fb305f6902f4b7afe8271006707741f295c8a0112ef445a7ac04dc7522378"), looks := false }, kinds := [], alts := [], laidByText := true, laidKinds := [.data, .data, .data], laidTests := true, laidLooks := .later }
def ParsAllCardSaid : Prop := Claim7.holds Tryz.pinned (.plain (OpenSpec.ofChange parsAllSpec)) parsAllCard

/-- THE TIED CARD OF 'ablautlaw33.ParsShortest'. -/
def parsShortestCard : Claim7 := { stood := { row := parsShortestRow, standIns := [], harness := (true, "dd4fb305f6902f4b7afe8271006707741f295c8a0112ef445a7ac04dc7522378"), looks := false }, kinds := [], alts := [], laidByText := true, laidKinds := [.data, .data, .data], laidTests := true, laidLooks := .later }
def ParsShortestCardSaid : Prop := Claim7.holds Tryz.pinned (.plain (OpenSpec.ofChange parsShortestSpec)) parsShortestCard

/-- THE TIED CARD OF 'ablautlaw33.ParsClimbs'. -/
def parsClimbsCard : Claim7 := { stood := { row := parsClimbsRow, standIns := [], harness := (true, "dd4fb305f6902f4b7afe8271006707741f295c8a0112ef445a7ac04dc7522378"), looks := false }, kinds := [], alts := [], laidByText := true, laidKinds := [.data, .data, .data], laidTests := true, laidLooks := .later }
def ParsClimbsCardSaid : Prop := Claim7.holds Tryz.pinned (.plain (OpenSpec.ofChange parsClimbsSpec)) parsClimbsCard

/-- THE SECOND FORM's CARD OF 'ablautlaw33.ParsLengths'. -/
def parsLengthsUptoCard : Claim7 := { stood := { row := parsLengthsUptoRow, standIns := [], harness := (true, "dd4fb305f6902f4b7afe8271006707741f295c8a0112ef445a7ac04dc7522378"), looks := false }, kinds := [], alts := [], laidByText := true, laidKinds := [.data, .data, .data], laidTests := true, laidLooks := .later }
def ParsLengthsUptoCardSaid : Prop := Claim7.holds Tryz.pinned (.plain (OpenSpec.upto parsLengthsSpec)) parsLengthsUptoCard

/-- THE SECOND FORM's CARD OF 'ablautlaw33.ParsNears'. -/
def parsNearsUptoCard : Claim7 := { stood := { row := parsNearsUptoRow, standIns := [], harness := (true, "dd4fb305f6902f4b7afe8271006707741f295c8a0112ef445a7ac04dc7522378"), looks := false }, kinds := [], alts := [], laidByText := true, laidKinds := [.data, .data, .data], laidTests := true, laidLooks := .later }
def ParsNearsUptoCardSaid : Prop := Claim7.holds Tryz.pinned (.plain (OpenSpec.upto parsNearsSpec)) parsNearsUptoCard

/-- THE SECOND FORM's CARD OF 'ablautlaw33.ParsAll'. -/
def parsAllUptoCard : Claim7 := { stood := { row := parsAllUptoRow, standIns := [], harness := (true, "dd4fb305f6902f4b7afe8271006707741f295c8a0112ef445a7ac04dc7522378"), looks := false }, kinds := [], alts := [], laidByText := true, laidKinds := [.data, .data, .data], laidTests := true, laidLooks := .later }
def ParsAllUptoCardSaid : Prop := Claim7.holds Tryz.pinned (.plain (OpenSpec.upto parsAllSpec)) parsAllUptoCard

/-- THE SECOND FORM's CARD OF 'ablautlaw33.ParsShortest'. -/
def parsShortestUptoCard : Claim7 := { stood := { row := parsShortestUptoRow, standIns := [], harness := (true, "dd4fb305f6902f4b7afe8271006707741f295c8a0112ef445a7ac04dc7522378"), looks := false }, kinds := [], alts := [], laidByText := true, laidKinds := [.data, .data, .data], laidTests := true, laidLooks := .later }
def ParsShortestUptoCardSaid : Prop := Claim7.holds Tryz.pinned (.plain (OpenSpec.upto parsShortestSpec)) parsShortestUptoCard

/-- THE SECOND FORM's CARD OF 'ablautlaw33.ParsClimbs'. -/
def parsClimbsUptoCard : Claim7 := { stood := { row := parsClimbsUptoRow, standIns := [], harness := (true, "dd4fb305f6902f4b7afe8271006707741f295c8a0112ef445a7ac04dc7522378"), looks := false }, kinds := [], alts := [], laidByText := true, laidKinds := [.data, .data, .data], laidTests := true, laidLooks := .later }
def ParsClimbsUptoCardSaid : Prop := Claim7.holds Tryz.pinned (.plain (OpenSpec.upto parsClimbsSpec)) parsClimbsUptoCard
end Rows
end Go.Proofs.YtjmnakkkimgifaaGreatDoor
