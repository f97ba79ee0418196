/-
  DERIVED. GIVEN WITH THE SEED: THE CARDS: each row of YtjmnakkkimgifaaDoorRows.lean that lists a variable, with what it lists TIED to the program's text (the seventh form; the later family's looks); each row that meets fmt, with fmt's text TOLD by the authors' own Lean function (tested against real Go, not proved from fmt's source: count such statements apart). THE CARD IS WHAT COUNTS. Prove the row's statement (the work); the ties are given (YtjmnakkkimgifaaDoorTie.lean); close each card by the builder's one call (the guide's Derived/Test/ToyasCard.lean, 'card_holds'). Laid BY PROGRAM, IN A SANDBOX (cutbox-door.mjs). By AI agents, Wed Nov 11 2026. No macro, syntax, notation, axiom, sorry.
-/
import Derived.Test.YtjmnakkkimgifaaDoorRows
import GoSem.ClaimSeven
namespace Go.Proofs.YtjmnakkkimgifaaDoor
namespace Rows

/-- THE TIED CARD OF 'ablautlaw33.ParsTrees'. -/
def parsTreesCard : Claim7 := { stood := { row := parsTreesRow, standIns := [], harness := (true, "dcf7a6bd78d1ac9fbd6ce45b926c81f7b645bf903f7f0c6d14b2218162a0ff20"), looks := false }, kinds := [], alts := [], laidByText := true, laidKinds := [.data, .data, .data], laidTests := true, laidLooks := .later }
def ParsTreesCardSaid : Prop := Claim7.holds Tryd.pinned (.plain (OpenSpec.ofChange parsTreesSpec)) parsTreesCard

/-- THE TIED CARD OF 'ablautlaw33.ParsReturns'. -/
def parsReturnsCard : Claim7 := { stood := { row := parsReturnsRow, standIns := [], harness := (true, "dcf7a6bd78d1ac9fbd6ce45b926c81f7b645bf903f7f0c6d14b2218162a0ff20"), looks := false }, kinds := [], alts := [], laidByText := true, laidKinds := [.data, .data, .data], laidTests := true, laidLooks := .later }
def ParsReturnsCardSaid : Prop := Claim7.holds Tryd.pinned (.plain (OpenSpec.ofChange parsReturnsSpec)) parsReturnsCard

/-- THE TIED CARD OF 'ablautlaw33.ParsTops'. -/
def parsTopsCard : Claim7 := { stood := { row := parsTopsRow, standIns := [], harness := (true, "dcf7a6bd78d1ac9fbd6ce45b926c81f7b645bf903f7f0c6d14b2218162a0ff20"), looks := false }, kinds := [], alts := [], laidByText := true, laidKinds := [.data, .data, .data], laidTests := true, laidLooks := .later }
def ParsTopsCardSaid : Prop := Claim7.holds Tryd.pinned (.plain (OpenSpec.ofChange parsTopsSpec)) parsTopsCard

/-- THE TIED CARD OF 'ablautlaw33.ParsKnown'. -/
def parsKnownCard : Claim7 := { stood := { row := parsKnownRow, standIns := [], harness := (true, "dcf7a6bd78d1ac9fbd6ce45b926c81f7b645bf903f7f0c6d14b2218162a0ff20"), looks := false }, kinds := [], alts := [], laidByText := true, laidKinds := [.data, .data, .data], laidTests := true, laidLooks := .later }
def ParsKnownCardSaid : Prop := Claim7.holds Tryd.pinned (.plain (OpenSpec.ofChange parsKnownSpec)) parsKnownCard

/-- THE TIED CARD OF 'ablautlaw33.ParsCounts'. -/
def parsCountsCard : Claim7 := { stood := { row := parsCountsRow, standIns := [], harness := (true, "dcf7a6bd78d1ac9fbd6ce45b926c81f7b645bf903f7f0c6d14b2218162a0ff20"), looks := false }, kinds := [], alts := [], laidByText := true, laidKinds := [.data, .data, .data], laidTests := true, laidLooks := .later }
def ParsCountsCardSaid : Prop := Claim7.holds Tryd.pinned (.plain (OpenSpec.ofChange parsCountsSpec)) parsCountsCard

/-- THE TIED CARD OF 'ablautlaw33.ParsClades'. -/
def parsCladesCard : Claim7 := { stood := { row := parsCladesRow, standIns := [], harness := (true, "dcf7a6bd78d1ac9fbd6ce45b926c81f7b645bf903f7f0c6d14b2218162a0ff20"), looks := false }, kinds := [], alts := [], laidByText := true, laidKinds := [.data, .data, .data], laidTests := true, laidLooks := .later }
def ParsCladesCardSaid : Prop := Claim7.holds Tryd.pinned (.plain (OpenSpec.ofChange parsCladesSpec)) parsCladesCard

/-- THE SECOND FORM's CARD OF 'ablautlaw33.ParsTrees'. -/
def parsTreesUptoCard : Claim7 := { stood := { row := parsTreesUptoRow, standIns := [], harness := (true, "dcf7a6bd78d1ac9fbd6ce45b926c81f7b645bf903f7f0c6d14b2218162a0ff20"), looks := false }, kinds := [], alts := [], laidByText := true, laidKinds := [.data, .data, .data], laidTests := true, laidLooks := .later }
def ParsTreesUptoCardSaid : Prop := Claim7.holds Tryd.pinned (.plain (OpenSpec.upto parsTreesSpec)) parsTreesUptoCard

/-- THE SECOND FORM's CARD OF 'ablautlaw33.ParsReturns'. -/
def parsReturnsUptoCard : Claim7 := { stood := { row := parsReturnsUptoRow, standIns := [], harness := (true, "dcf7a6bd78d1ac9fbd6ce45b926c81f7b645bf903f7f0c6d14b2218162a0ff20"), looks := false }, kinds := [], alts := [], laidByText := true, laidKinds := [.data, .data, .data], laidTests := true, laidLooks := .later }
def ParsReturnsUptoCardSaid : Prop := Claim7.holds Tryd.pinned (.plain (OpenSpec.upto parsReturnsSpec)) parsReturnsUptoCard

/-- THE SECOND FORM's CARD OF 'ablautlaw33.ParsTops'. -/
def parsTopsUptoCard : Claim7 := { stood := { row := parsTopsUptoRow, standIns := [], harness := (true, "dcf7a6bd78d1ac9fbd6ce45b926c81f7b645bf903f7f0c6d14b2218162a0ff20"), looks := false }, kinds := [], alts := [], laidByText := true, laidKinds := [.data, .data, .data], laidTests := true, laidLooks := .later }
def ParsTopsUptoCardSaid : Prop := Claim7.holds Tryd.pinned (.plain (OpenSpec.upto parsTopsSpec)) parsTopsUptoCard

/-- THE SECOND FORM's CARD OF 'ablautlaw33.ParsKnown'. -/
def parsKnownUptoCard : Claim7 := { stood := { row := parsKnownUptoRow, standIns := [], harness := (true, "dcf7a6bd78d1ac9fbd6ce45b926c81f7b645bf903f7f0c6d14b2218162a0ff20"), looks := false }, kinds := [], alts := [], laidByText := true, laidKinds := [.data, .data, .data], laidTests := true, laidLooks := .later }
def ParsKnownUptoCardSaid : Prop := Claim7.holds Tryd.pinned (.plain (OpenSpec.upto parsKnownSpec)) parsKnownUptoCard

/-- THE SECOND FORM's CARD OF 'ablautlaw33.ParsCounts'. -/
def parsCountsUptoCard : Claim7 := { stood := { row := parsCountsUptoRow, standIns := [], harness := (true, "dcf7a6bd78d1ac9fbd6ce45b926c81f7b645bf903f7f0c6d14b2218162a0ff20"), looks := false }, kinds := [], alts := [], laidByText := true, laidKinds := [.data, .data, .data], laidTests := true, laidLooks := .later }
def ParsCountsUptoCardSaid : Prop := Claim7.holds Tryd.pinned (.plain (OpenSpec.upto parsCountsSpec)) parsCountsUptoCard

/-- THE SECOND FORM's CARD OF 'ablautlaw33.ParsClades'. -/
def parsCladesUptoCard : Claim7 := { stood := { row := parsCladesUptoRow, standIns := [], harness := (true, "dcf7a6bd78d1ac9fbd6ce45b926c81f7b645bf903f7f0c6d14b2218162a0ff20"), looks := false }, kinds := [], alts := [], laidByText := true, laidKinds := [.data, .data, .data], laidTests := true, laidLooks := .later }
def ParsCladesUptoCardSaid : Prop := Claim7.holds Tryd.pinned (.plain (OpenSpec.upto parsCladesSpec)) parsCladesUptoCard
end Rows
end Go.Proofs.YtjmnakkkimgifaaDoor
