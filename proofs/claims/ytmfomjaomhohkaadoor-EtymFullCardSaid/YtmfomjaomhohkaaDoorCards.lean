/-
  DERIVED. GIVEN WITH THE SEED: THE CARDS: each row of YtmfomjaomhohkaaDoorRows.lean that lists a variable, with what it lists TIED to the program's text (the seventh form; the later family's looks); each row that meets fmt, with fmt's text TOLD by the authors' own Lean function (tested against real Go, not proved from fmt's source: count such statements apart). THE CARD IS WHAT COUNTS. Prove the row's statement (the work); the ties are given (YtmfomjaomhohkaaDoorTie.lean); close each card by the builder's one call (the guide's Derived/Test/ToyasCard.lean, 'card_holds'). Laid BY PROGRAM, IN A SANDBOX (cutbox-door.mjs). By AI agents, Wed Nov 11 2026. No macro, syntax, notation, axiom, sorry.
-/
import Derived.Test.YtmfomjaomhohkaaDoorRows
import GoSem.ClaimSeven
namespace Go.Proofs.YtmfomjaomhohkaaDoor
namespace Rows

/-- THE TIED CARD OF 'ablautlaw41.EtymSources'. -/
def etymSourcesCard : Claim7 := { stood := { row := etymSourcesRow, standIns := [], harness := (true, "13443b1be53c13d84ff8374358e63a5c8b9e42c848894c13afdf33983ac5f02e"), looks := false }, kinds := [], alts := [], laidByText := true, laidKinds := [.data, .data, .data], laidTests := true, laidLooks := .later }
def EtymSourcesCardSaid : Prop := Claim7.holds Tryd.pinned (.plain (OpenSpec.ofChange etymSourcesSpec)) etymSourcesCard

/-- THE TIED CARD OF 'ablautlaw41.EtymWays'. -/
def etymWaysCard : Claim7 := { stood := { row := etymWaysRow, standIns := [], harness := (true, "13443b1be53c13d84ff8374358e63a5c8b9e42c848894c13afdf33983ac5f02e"), looks := false }, kinds := [], alts := [], laidByText := true, laidKinds := [.data, .data, .data], laidTests := true, laidLooks := .later }
def EtymWaysCardSaid : Prop := Claim7.holds Tryd.pinned (.plain (OpenSpec.ofChange etymWaysSpec)) etymWaysCard

/-- THE TIED CARD OF 'ablautlaw41.EtymInherits'. -/
def etymInheritsCard : Claim7 := { stood := { row := etymInheritsRow, standIns := [], harness := (true, "13443b1be53c13d84ff8374358e63a5c8b9e42c848894c13afdf33983ac5f02e"), looks := false }, kinds := [], alts := [], laidByText := true, laidKinds := [.data, .data, .data], laidTests := true, laidLooks := .later }
def EtymInheritsCardSaid : Prop := Claim7.holds Tryd.pinned (.plain (OpenSpec.ofChange etymInheritsSpec)) etymInheritsCard

/-- THE TIED CARD OF 'ablautlaw41.EtymFull'. -/
def etymFullCard : Claim7 := { stood := { row := etymFullRow, standIns := [], harness := (true, "13443b1be53c13d84ff8374358e63a5c8b9e42c848894c13afdf33983ac5f02e"), looks := false }, kinds := [], alts := [], laidByText := true, laidKinds := [.data, .data, .data], laidTests := true, laidLooks := .later }
def EtymFullCardSaid : Prop := Claim7.holds Tryd.pinned (.plain (OpenSpec.ofChange etymFullSpec)) etymFullCard

/-- THE TIED CARD OF 'ablautlaw41.EtymKnown'. -/
def etymKnownCard : Claim7 := { stood := { row := etymKnownRow, standIns := [], harness := (true, "13443b1be53c13d84ff8374358e63a5c8b9e42c848894c13afdf33983ac5f02e"), looks := false }, kinds := [], alts := [], laidByText := true, laidKinds := [.data, .data, .data], laidTests := true, laidLooks := .later }
def EtymKnownCardSaid : Prop := Claim7.holds Tryd.pinned (.plain (OpenSpec.ofChange etymKnownSpec)) etymKnownCard

/-- THE TIED CARD OF 'ablautlaw41.EtymLoops'. -/
def etymLoopsCard : Claim7 := { stood := { row := etymLoopsRow, standIns := [], harness := (true, "13443b1be53c13d84ff8374358e63a5c8b9e42c848894c13afdf33983ac5f02e"), looks := false }, kinds := [], alts := [], laidByText := true, laidKinds := [.data, .data, .data], laidTests := true, laidLooks := .later }
def EtymLoopsCardSaid : Prop := Claim7.holds Tryd.pinned (.plain (OpenSpec.ofChange etymLoopsSpec)) etymLoopsCard

/-- THE TIED CARD OF 'ablautlaw41.EtymNil'. -/
def etymNilCard : Claim7 := { stood := { row := etymNilRow, standIns := [], harness := (true, "13443b1be53c13d84ff8374358e63a5c8b9e42c848894c13afdf33983ac5f02e"), looks := false }, kinds := [], alts := [], laidByText := true, laidKinds := [.data, .data, .data], laidTests := true, laidLooks := .later }
def EtymNilCardSaid : Prop := Claim7.holds Tryd.pinned (.plain (OpenSpec.ofChange etymNilSpec)) etymNilCard

/-- THE SECOND FORM's CARD OF 'ablautlaw41.EtymSources'. -/
def etymSourcesUptoCard : Claim7 := { stood := { row := etymSourcesUptoRow, standIns := [], harness := (true, "13443b1be53c13d84ff8374358e63a5c8b9e42c848894c13afdf33983ac5f02e"), looks := false }, kinds := [], alts := [], laidByText := true, laidKinds := [.data, .data, .data], laidTests := true, laidLooks := .later }
def EtymSourcesUptoCardSaid : Prop := Claim7.holds Tryd.pinned (.plain (OpenSpec.upto etymSourcesSpec)) etymSourcesUptoCard

/-- THE SECOND FORM's CARD OF 'ablautlaw41.EtymWays'. -/
def etymWaysUptoCard : Claim7 := { stood := { row := etymWaysUptoRow, standIns := [], harness := (true, "13443b1be53c13d84ff8374358e63a5c8b9e42c848894c13afdf33983ac5f02e"), looks := false }, kinds := [], alts := [], laidByText := true, laidKinds := [.data, .data, .data], laidTests := true, laidLooks := .later }
def EtymWaysUptoCardSaid : Prop := Claim7.holds Tryd.pinned (.plain (OpenSpec.upto etymWaysSpec)) etymWaysUptoCard

/-- THE SECOND FORM's CARD OF 'ablautlaw41.EtymInherits'. -/
def etymInheritsUptoCard : Claim7 := { stood := { row := etymInheritsUptoRow, standIns := [], harness := (true, "13443b1be53c13d84ff8374358e63a5c8b9e42c848894c13afdf33983ac5f02e"), looks := false }, kinds := [], alts := [], laidByText := true, laidKinds := [.data, .data, .data], laidTests := true, laidLooks := .later }
def EtymInheritsUptoCardSaid : Prop := Claim7.holds Tryd.pinned (.plain (OpenSpec.upto etymInheritsSpec)) etymInheritsUptoCard

/-- THE SECOND FORM's CARD OF 'ablautlaw41.EtymFull'. -/
def etymFullUptoCard : Claim7 := { stood := { row := etymFullUptoRow, standIns := [], harness := (true, "13443b1be53c13d84ff8374358e63a5c8b9e42c848894c13afdf33983ac5f02e"), looks := false }, kinds := [], alts := [], laidByText := true, laidKinds := [.data, .data, .data], laidTests := true, laidLooks := .later }
def EtymFullUptoCardSaid : Prop := Claim7.holds Tryd.pinned (.plain (OpenSpec.upto etymFullSpec)) etymFullUptoCard

/-- THE SECOND FORM's CARD OF 'ablautlaw41.EtymKnown'. -/
def etymKnownUptoCard : Claim7 := { stood := { row := etymKnownUptoRow, standIns := [], harness := (true, "13443b1be53c13d84ff8374358e63a5c8b9e42c848894c13afdf33983ac5f02e"), looks := false }, kinds := [], alts := [], laidByText := true, laidKinds := [.data, .data, .data], laidTests := true, laidLooks := .later }
def EtymKnownUptoCardSaid : Prop := Claim7.holds Tryd.pinned (.plain (OpenSpec.upto etymKnownSpec)) etymKnownUptoCard

/-- THE SECOND FORM's CARD OF 'ablautlaw41.EtymLoops'. -/
def etymLoopsUptoCard : Claim7 := { stood := { row := etymLoopsUptoRow, standIns := [], harness := (true, "13443b1be53c13d84ff8374358e63a5c8b9e42c848894c13afdf33983ac5f02e"), looks := false }, kinds := [], alts := [], laidByText := true, laidKinds := [.data, .data, .data], laidTests := true, laidLooks := .later }
def EtymLoopsUptoCardSaid : Prop := Claim7.holds Tryd.pinned (.plain (OpenSpec.upto etymLoopsSpec)) etymLoopsUptoCard

/-- THE SECOND FORM's CARD OF 'ablautlaw41.EtymNil'. -/
def etymNilUptoCard : Claim7 := { stood := { row := etymNilUptoRow, standIns := [], harness := (true, "13443b1be53c13d84ff8374358e63a5c8b9e42c848894c13afdf33983ac5f02e"), looks := false }, kinds := [], alts := [], laidByText := true, laidKinds := [.data, .data, .data], laidTests := true, laidLooks := .later }
def EtymNilUptoCardSaid : Prop := Claim7.holds Tryd.pinned (.plain (OpenSpec.upto etymNilSpec)) etymNilUptoCard
end Rows
end Go.Proofs.YtmfomjaomhohkaaDoor
