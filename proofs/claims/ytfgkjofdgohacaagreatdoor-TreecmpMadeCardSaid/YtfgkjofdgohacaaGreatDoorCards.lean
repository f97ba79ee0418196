/-
  DERIVED. GIVEN WITH THE SEED: THE CARDS: each row of YtfgkjofdgohacaaGreatDoorRows.lean that lists a variable, with what it lists TIED to the program's text (the seventh form; the later family's looks); each row that meets fmt, with fmt's text TOLD by the authors' own Lean function (tested against real Go, not proved from fmt's source: count such statements apart). THE CARD IS WHAT COUNTS. Prove the row's statement (the work); the ties are given (YtfgkjofdgohacaaGreatDoorTie.lean); close each card by the builder's one call (the guide's Derived/Test/ToyasCard.lean, 'card_holds'). Laid BY PROGRAM, IN A SANDBOX (cutbox-door.mjs). By AI agents, Wed Nov 11 2026. No macro, syntax, notation, axiom, sorry.
-/
import Derived.Test.YtfgkjofdgohacaaGreatDoorRows
import GoSem.ClaimSeven
namespace Go.Proofs.YtfgkjofdgohacaaGreatDoor
namespace Rows

/-- THE TIED CARD OF 'ablautlaw34.TreecmpTriples'. -/
def treecmpTriplesCard : Claim7 := { stood := { row := treecmpTriplesRow, standIns := [], harness := (true, "3cee5b0b804b102620b348b13f1e078122a5e65ec620bce0276ef11ece53ef83"), looks := false }, kinds := [], alts := [], laidByText := true, laidKinds := [.data, .data, .data], laidTests := true, laidLooks := .later }
def TreecmpTriplesCardSaid : Prop := Claim7.holds Tryz.pinned (.plain (OpenSpec.ofChange treecmpTriplesSpec)) treecmpTriplesCard

/-- THE TIED CARD OF 'ablautlaw34.TreecmpSupports'. -/
def treecmpSupportsCard : Claim7 := { stood := { row := treecmpSupportsRow, standIns := [], harness := (true, "3cee5b0b804b102620b348b13f1e078122a5e65ec620bce0276ef11ece53ef83"), looks := false }, kinds := [], alts := [], laidByText := true, laidKinds := [.data, .data, .data], laidTests := true, laidLooks := .later }
def TreecmpSupportsCardSaid : Prop := Claim7.holds Tryz.pinned (.plain (OpenSpec.ofChange treecmpSupportsSpec)) treecmpSupportsCard

/-- THE TIED CARD OF 'ablautlaw34.TreecmpConsensus'. -/
def treecmpConsensusCard : Claim7 := { stood := { row := treecmpConsensusRow, standIns := [], harness := (true, "3cee5b0b804b102620b348b13f1e078122a5e65ec620bce0276ef11ece53ef83"), looks := false }, kinds := [], alts := [], laidByText := true, laidKinds := [.data, .data, .data], laidTests := true, laidLooks := .later }
def TreecmpConsensusCardSaid : Prop := Claim7.holds Tryz.pinned (.plain (OpenSpec.ofChange treecmpConsensusSpec)) treecmpConsensusCard

/-- THE TIED CARD OF 'ablautlaw34.TreecmpVotes'. -/
def treecmpVotesCard : Claim7 := { stood := { row := treecmpVotesRow, standIns := [], harness := (true, "3cee5b0b804b102620b348b13f1e078122a5e65ec620bce0276ef11ece53ef83"), looks := false }, kinds := [], alts := [], laidByText := true, laidKinds := [.data, .data, .data], laidTests := true, laidLooks := .later }
def TreecmpVotesCardSaid : Prop := Claim7.holds Tryz.pinned (.plain (OpenSpec.ofChange treecmpVotesSpec)) treecmpVotesCard

/-- THE TIED CARD OF 'ablautlaw34.TreecmpPairs'. -/
def treecmpPairsCard : Claim7 := { stood := { row := treecmpPairsRow, standIns := [], harness := (true, "3cee5b0b804b102620b348b13f1e078122a5e65ec620bce0276ef11ece53ef83"), looks := false }, kinds := [], alts := [], laidByText := true, laidKinds := [.data, .data, .data], laidTests := true, laidLooks := .later }
def TreecmpPairsCardSaid : Prop := Claim7.holds Tryz.pinned (.plain (OpenSpec.ofChange treecmpPairsSpec)) treecmpPairsCard

/-- THE TIED CARD OF 'ablautlaw34.TreecmpMetric'. -/
def treecmpMetricCard : Claim7 := { stood := { row := treecmpMetricRow, standIns := [], harness := (true, "3cee5b0b804b102620b348b13f1e078122a5e65ec620bce0276ef11ece53ef83"), looks := false }, kinds := [], alts := [], laidByText := true, laidKinds := [.data, .data, .data], laidTests := true, laidLooks := .later }
def TreecmpMetricCardSaid : Prop := Claim7.holds Tryz.pinned (.plain (OpenSpec.ofChange treecmpMetricSpec)) treecmpMetricCard

/-- THE TIED CARD OF 'ablautlaw34.TreecmpBuilds'. -/
def treecmpBuildsCard : Claim7 := { stood := { row := treecmpBuildsRow, standIns := [], harness := (true, "3cee5b0b804b102620b348b13f1e078122a5e65ec620bce0276ef11ece53ef83"), looks := false }, kinds := [], alts := [], laidByText := true, laidKinds := [.data, .data, .data], laidTests := true, laidLooks := .later }
def TreecmpBuildsCardSaid : Prop := Claim7.holds Tryz.pinned (.plain (OpenSpec.ofChange treecmpBuildsSpec)) treecmpBuildsCard

/-- THE TIED CARD OF 'ablautlaw34.TreecmpSets'. -/
def treecmpSetsCard : Claim7 := { stood := { row := treecmpSetsRow, standIns := [], harness := (true, "3cee5b0b804b102620b348b13f1e078122a5e65ec620bce0276ef11ece53ef83"), looks := false }, kinds := [], alts := [], laidByText := true, laidKinds := [.data, .data, .data], laidTests := true, laidLooks := .later }
def TreecmpSetsCardSaid : Prop := Claim7.holds Tryz.pinned (.plain (OpenSpec.ofChange treecmpSetsSpec)) treecmpSetsCard

/-- THE TIED CARD OF 'ablautlaw34.TreecmpBack'. -/
def treecmpBackCard : Claim7 := { stood := { row := treecmpBackRow, standIns := [], harness := (true, "3cee5b0b804b102620b348b13f1e078122a5e65ec620bce0276ef11ece53ef83"), looks := false }, kinds := [], alts := [], laidByText := true, laidKinds := [.data, .data, .data], laidTests := true, laidLooks := .later }
def TreecmpBackCardSaid : Prop := Claim7.holds Tryz.pinned (.plain (OpenSpec.ofChange treecmpBackSpec)) treecmpBackCard

/-- THE TIED CARD OF 'ablautlaw34.TreecmpMade'. -/
def treecmpMadeCard : Claim7 := { stood := { row := treecmpMadeRow, standIns := [], harness := (true, "3cee5b0b804b102620b348b13f1e078122a5e65ec620bce0276ef11ece53ef83"), looks := false }, kinds := [], alts := [], laidByText := true, laidKinds := [.data, .data, .data], laidTests := true, laidLooks := .later }
def TreecmpMadeCardSaid : Prop := Claim7.holds Tryz.pinned (.plain (OpenSpec.ofChange treecmpMadeSpec)) treecmpMadeCard

/-- THE TIED CARD OF 'ablautlaw34.TreecmpKnown'. -/
def treecmpKnownCard : Claim7 := { stood := { row := treecmpKnownRow, standIns := [], harness := (true, "3cee5b0b804b102620b348b13f1e078122a5e65ec620bce0276ef11ece53ef83"), looks := false }, kinds := [], alts := [], laidByText := true, laidKinds := [.data, .data, .data], laidTests := true, laidLooks := .later }
def TreecmpKnownCardSaid : Prop := Claim7.holds Tryz.pinned (.plain (OpenSpec.ofChange treecmpKnownSpec)) treecmpKnownCard

/-- THE SECOND FORM's CARD OF 'ablautlaw34.TreecmpTriples'. -/
def treecmpTriplesUptoCard : Claim7 := { stood := { row := treecmpTriplesUptoRow, standIns := [], harness := (true, "3cee5b0b804b102620b348b13f1e078122a5e65ec620bce0276ef11ece53ef83"), looks := false }, kinds := [], alts := [], laidByText := true, laidKinds := [.data, .data, .data], laidTests := true, laidLooks := .later }
def TreecmpTriplesUptoCardSaid : Prop := Claim7.holds Tryz.pinned (.plain (OpenSpec.upto treecmpTriplesSpec)) treecmpTriplesUptoCard

/-- THE SECOND FORM's CARD OF 'ablautlaw34.TreecmpSupports'. -/
def treecmpSupportsUptoCard : Claim7 := { stood := { row := treecmpSupportsUptoRow, standIns := [], harness := (true, "3cee5b0b804b102620b348b13f1e078122a5e65ec620bce0276ef11ece53ef83"), looks := false }, kinds := [], alts := [], laidByText := true, laidKinds := [.data, .data, .data], laidTests := true, laidLooks := .later }
def TreecmpSupportsUptoCardSaid : Prop := Claim7.holds Tryz.pinned (.plain (OpenSpec.upto treecmpSupportsSpec)) treecmpSupportsUptoCard

/-- THE SECOND FORM's CARD OF 'ablautlaw34.TreecmpConsensus'. -/
def treecmpConsensusUptoCard : Claim7 := { stood := { row := treecmpConsensusUptoRow, standIns := [], harness := (true, "3cee5b0b804b102620b348b13f1e078122a5e65ec620bce0276ef11ece53ef83"), looks := false }, kinds := [], alts := [], laidByText := true, laidKinds := [.data, .data, .data], laidTests := true, laidLooks := .later }
def TreecmpConsensusUptoCardSaid : Prop := Claim7.holds Tryz.pinned (.plain (OpenSpec.upto treecmpConsensusSpec)) treecmpConsensusUptoCard

/-- THE SECOND FORM's CARD OF 'ablautlaw34.TreecmpVotes'. -/
def treecmpVotesUptoCard : Claim7 := { stood := { row := treecmpVotesUptoRow, standIns := [], harness := (true, "3cee5b0b804b102620b348b13f1e078122a5e65ec620bce0276ef11ece53ef83"), looks := false }, kinds := [], alts := [], laidByText := true, laidKinds := [.data, .data, .data], laidTests := true, laidLooks := .later }
def TreecmpVotesUptoCardSaid : Prop := Claim7.holds Tryz.pinned (.plain (OpenSpec.upto treecmpVotesSpec)) treecmpVotesUptoCard

/-- THE SECOND FORM's CARD OF 'ablautlaw34.TreecmpPairs'. -/
def treecmpPairsUptoCard : Claim7 := { stood := { row := treecmpPairsUptoRow, standIns := [], harness := (true, "3cee5b0b804b102620b348b13f1e078122a5e65ec620bce0276ef11ece53ef83"), looks := false }, kinds := [], alts := [], laidByText := true, laidKinds := [.data, .data, .data], laidTests := true, laidLooks := .later }
def TreecmpPairsUptoCardSaid : Prop := Claim7.holds Tryz.pinned (.plain (OpenSpec.upto treecmpPairsSpec)) treecmpPairsUptoCard

/-- THE SECOND FORM's CARD OF 'ablautlaw34.TreecmpMetric'. -/
def treecmpMetricUptoCard : Claim7 := { stood := { row := treecmpMetricUptoRow, standIns := [], harness := (true, "3cee5b0b804b102620b348b13f1e078122a5e65ec620bce0276ef11ece53ef83"), looks := false }, kinds := [], alts := [], laidByText := true, laidKinds := [.data, .data, .data], laidTests := true, laidLooks := .later }
def TreecmpMetricUptoCardSaid : Prop := Claim7.holds Tryz.pinned (.plain (OpenSpec.upto treecmpMetricSpec)) treecmpMetricUptoCard

/-- THE SECOND FORM's CARD OF 'ablautlaw34.TreecmpBuilds'. -/
def treecmpBuildsUptoCard : Claim7 := { stood := { row := treecmpBuildsUptoRow, standIns := [], harness := (true, "3cee5b0b804b102620b348b13f1e078122a5e65ec620bce0276ef11ece53ef83"), looks := false }, kinds := [], alts := [], laidByText := true, laidKinds := [.data, .data, .data], laidTests := true, laidLooks := .later }
def TreecmpBuildsUptoCardSaid : Prop := Claim7.holds Tryz.pinned (.plain (OpenSpec.upto treecmpBuildsSpec)) treecmpBuildsUptoCard

/-- THE SECOND FORM's CARD OF 'ablautlaw34.TreecmpSets'. -/
def treecmpSetsUptoCard : Claim7 := { stood := { row := treecmpSetsUptoRow, standIns := [], harness := (true, "3cee5b0b804b102620b348b13f1e078122a5e65ec620bce0276ef11ece53ef83"), looks := false }, kinds := [], alts := [], laidByText := true, laidKinds := [.data, .data, .data], laidTests := true, laidLooks := .later }
def TreecmpSetsUptoCardSaid : Prop := Claim7.holds Tryz.pinned (.plain (OpenSpec.upto treecmpSetsSpec)) treecmpSetsUptoCard

/-- THE SECOND FORM's CARD OF 'ablautlaw34.TreecmpBack'. -/
def treecmpBackUptoCard : Claim7 := { stood := { row := treecmpBackUptoRow, standIns := [], harness := (true, "3cee5b0b804b102620b348b13f1e078122a5e65ec620bce0276ef11ece53ef83"), looks := false }, kinds := [], alts := [], laidByText := true, laidKinds := [.data, .data, .data], laidTests := true, laidLooks := .later }
def TreecmpBackUptoCardSaid : Prop := Claim7.holds Tryz.pinned (.plain (OpenSpec.upto treecmpBackSpec)) treecmpBackUptoCard

/-- THE SECOND FORM's CARD OF 'ablautlaw34.TreecmpMade'. -/
def treecmpMadeUptoCard : Claim7 := { stood := { row := treecmpMadeUptoRow, standIns := [], harness := (true, "3cee5b0b804b102620b348b13f1e078122a5e65ec620bce0276ef11ece53ef83"), looks := false }, kinds := [], alts := [], laidByText := true, laidKinds := [.data, .data, .data], laidTests := true, laidLooks := .later }
def TreecmpMadeUptoCardSaid : Prop := Claim7.holds Tryz.pinned (.plain (OpenSpec.upto treecmpMadeSpec)) treecmpMadeUptoCard

/-- THE SECOND FORM's CARD OF 'ablautlaw34.TreecmpKnown'. -/
def treecmpKnownUptoCard : Claim7 := { stood := { row := treecmpKnownUptoRow, standIns := [], harness := (true, "3cee5b0b804b102620b348b13f1e078122a5e65ec620bce0276ef11ece53ef83"), looks := false }, kinds := [], alts := [], laidByText := true, laidKinds := [.data, .data, .data], laidTests := true, laidLooks := .later }
def TreecmpKnownUptoCardSaid : Prop := Claim7.holds Tryz.pinned (.plain (OpenSpec.upto treecmpKnownSpec)) treecmpKnownUptoCard
end Rows
end Go.Proofs.YtfgkjofdgohacaaGreatDoor
