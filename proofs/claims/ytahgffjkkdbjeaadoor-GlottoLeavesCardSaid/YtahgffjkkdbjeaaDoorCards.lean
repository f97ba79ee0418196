/-
  DERIVED. GIVEN WITH THE SEED: THE CARDS: each row of YtahgffjkkdbjeaaDoorRows.lean that lists a variable, with what it lists TIED to the program's text (the seventh form; the later family's looks); each row that meets fmt, with fmt's text TOLD by the authors' own Lean function (tested against real Go, not proved from fmt's source: count such statements apart). THE CARD IS WHAT COUNTS. Prove the row's statement (the work); the ties are given (YtahgffjkkdbjeaaDoorTie.lean); close each card by the builder's one call (the guide's Derived/Test/ToyasCard.lean, 'card_holds'). Laid BY PROGRAM, IN A SANDBOX (cutbox-door.mjs). By AI agents, Wed Nov 11 2026. No macro, syntax, notation, axiom, sorry.
-/
import Derived.Test.YtahgffjkkdbjeaaDoorRows
import GoSem.ClaimSeven
namespace Go.Proofs.YtahgffjkkdbjeaaDoor
namespace Rows

/-- THE TIED CARD OF 'ablautlaw35.GlottoAsks'. -/
def glottoAsksCard : Claim7 := { stood := { row := glottoAsksRow, standIns := [], harness := (true, "c52b2615edd3436d66bf1e1ca79ce45de8a9143ae732954b2bcd1a79da9cf9fa"), looks := false }, kinds := [], alts := [], laidByText := true, laidKinds := [.data, .data, .data], laidTests := true, laidLooks := .later }
def GlottoAsksCardSaid : Prop := Claim7.holds Tryd.pinned (.plain (OpenSpec.ofChange glottoAsksSpec)) glottoAsksCard

/-- THE TIED CARD OF 'ablautlaw35.GlottoScale'. -/
def glottoScaleCard : Claim7 := { stood := { row := glottoScaleRow, standIns := [], harness := (true, "c52b2615edd3436d66bf1e1ca79ce45de8a9143ae732954b2bcd1a79da9cf9fa"), looks := false }, kinds := [], alts := [], laidByText := true, laidKinds := [.data, .data, .data], laidTests := true, laidLooks := .later }
def GlottoScaleCardSaid : Prop := Claim7.holds Tryd.pinned (.plain (OpenSpec.ofChange glottoScaleSpec)) glottoScaleCard

/-- THE TIED CARD OF 'ablautlaw35.GlottoRanks'. -/
def glottoRanksCard : Claim7 := { stood := { row := glottoRanksRow, standIns := [], harness := (true, "c52b2615edd3436d66bf1e1ca79ce45de8a9143ae732954b2bcd1a79da9cf9fa"), looks := false }, kinds := [], alts := [], laidByText := true, laidKinds := [.data, .data, .data], laidTests := true, laidLooks := .later }
def GlottoRanksCardSaid : Prop := Claim7.holds Tryd.pinned (.plain (OpenSpec.ofChange glottoRanksSpec)) glottoRanksCard

/-- THE TIED CARD OF 'ablautlaw35.GlottoOwn'. -/
def glottoOwnCard : Claim7 := { stood := { row := glottoOwnRow, standIns := [], harness := (true, "c52b2615edd3436d66bf1e1ca79ce45de8a9143ae732954b2bcd1a79da9cf9fa"), looks := false }, kinds := [], alts := [], laidByText := true, laidKinds := [.data, .data, .data], laidTests := true, laidLooks := .later }
def GlottoOwnCardSaid : Prop := Claim7.holds Tryd.pinned (.plain (OpenSpec.ofChange glottoOwnSpec)) glottoOwnCard

/-- THE TIED CARD OF 'ablautlaw35.GlottoMerges'. -/
def glottoMergesCard : Claim7 := { stood := { row := glottoMergesRow, standIns := [], harness := (true, "c52b2615edd3436d66bf1e1ca79ce45de8a9143ae732954b2bcd1a79da9cf9fa"), looks := false }, kinds := [], alts := [], laidByText := true, laidKinds := [.data, .data, .data], laidTests := true, laidLooks := .later }
def GlottoMergesCardSaid : Prop := Claim7.holds Tryd.pinned (.plain (OpenSpec.ofChange glottoMergesSpec)) glottoMergesCard

/-- THE TIED CARD OF 'ablautlaw35.GlottoLeaves'. -/
def glottoLeavesCard : Claim7 := { stood := { row := glottoLeavesRow, standIns := [], harness := (true, "c52b2615edd3436d66bf1e1ca79ce45de8a9143ae732954b2bcd1a79da9cf9fa"), looks := false }, kinds := [], alts := [], laidByText := true, laidKinds := [.data, .data, .data], laidTests := true, laidLooks := .later }
def GlottoLeavesCardSaid : Prop := Claim7.holds Tryd.pinned (.plain (OpenSpec.ofChange glottoLeavesSpec)) glottoLeavesCard

/-- THE TIED CARD OF 'ablautlaw35.GlottoShares'. -/
def glottoSharesCard : Claim7 := { stood := { row := glottoSharesRow, standIns := [], harness := (true, "c52b2615edd3436d66bf1e1ca79ce45de8a9143ae732954b2bcd1a79da9cf9fa"), looks := false }, kinds := [], alts := [], laidByText := true, laidKinds := [.data, .data, .data], laidTests := true, laidLooks := .later }
def GlottoSharesCardSaid : Prop := Claim7.holds Tryd.pinned (.plain (OpenSpec.ofChange glottoSharesSpec)) glottoSharesCard

/-- THE TIED CARD OF 'ablautlaw35.GlottoTrees'. -/
def glottoTreesCard : Claim7 := { stood := { row := glottoTreesRow, standIns := [], harness := (true, "c52b2615edd3436d66bf1e1ca79ce45de8a9143ae732954b2bcd1a79da9cf9fa"), looks := false }, kinds := [], alts := [], laidByText := true, laidKinds := [.data, .data, .data], laidTests := true, laidLooks := .later }
def GlottoTreesCardSaid : Prop := Claim7.holds Tryd.pinned (.plain (OpenSpec.ofChange glottoTreesSpec)) glottoTreesCard

/-- THE TIED CARD OF 'ablautlaw35.GlottoRises'. -/
def glottoRisesCard : Claim7 := { stood := { row := glottoRisesRow, standIns := [], harness := (true, "c52b2615edd3436d66bf1e1ca79ce45de8a9143ae732954b2bcd1a79da9cf9fa"), looks := false }, kinds := [], alts := [], laidByText := true, laidKinds := [.data, .data, .data], laidTests := true, laidLooks := .later }
def GlottoRisesCardSaid : Prop := Claim7.holds Tryd.pinned (.plain (OpenSpec.ofChange glottoRisesSpec)) glottoRisesCard

/-- THE TIED CARD OF 'ablautlaw35.GlottoClock'. -/
def glottoClockCard : Claim7 := { stood := { row := glottoClockRow, standIns := [], harness := (true, "c52b2615edd3436d66bf1e1ca79ce45de8a9143ae732954b2bcd1a79da9cf9fa"), looks := false }, kinds := [], alts := [], laidByText := true, laidKinds := [.data, .data, .data], laidTests := true, laidLooks := .later }
def GlottoClockCardSaid : Prop := Claim7.holds Tryd.pinned (.plain (OpenSpec.ofChange glottoClockSpec)) glottoClockCard

/-- THE TIED CARD OF 'ablautlaw35.GlottoGreat'. -/
def glottoGreatCard : Claim7 := { stood := { row := glottoGreatRow, standIns := [], harness := (true, "c52b2615edd3436d66bf1e1ca79ce45de8a9143ae732954b2bcd1a79da9cf9fa"), looks := false }, kinds := [], alts := [], laidByText := true, laidKinds := [.data, .data, .data], laidTests := true, laidLooks := .later }
def GlottoGreatCardSaid : Prop := Claim7.holds Tryd.pinned (.plain (OpenSpec.ofChange glottoGreatSpec)) glottoGreatCard

/-- THE SECOND FORM's CARD OF 'ablautlaw35.GlottoAsks'. -/
def glottoAsksUptoCard : Claim7 := { stood := { row := glottoAsksUptoRow, standIns := [], harness := (true, "c52b2615edd3436d66bf1e1ca79ce45de8a9143ae732954b2bcd1a79da9cf9fa"), looks := false }, kinds := [], alts := [], laidByText := true, laidKinds := [.data, .data, .data], laidTests := true, laidLooks := .later }
def GlottoAsksUptoCardSaid : Prop := Claim7.holds Tryd.pinned (.plain (OpenSpec.upto glottoAsksSpec)) glottoAsksUptoCard

/-- THE SECOND FORM's CARD OF 'ablautlaw35.GlottoScale'. -/
def glottoScaleUptoCard : Claim7 := { stood := { row := glottoScaleUptoRow, standIns := [], harness := (true, "c52b2615edd3436d66bf1e1ca79ce45de8a9143ae732954b2bcd1a79da9cf9fa"), looks := false }, kinds := [], alts := [], laidByText := true, laidKinds := [.data, .data, .data], laidTests := true, laidLooks := .later }
def GlottoScaleUptoCardSaid : Prop := Claim7.holds Tryd.pinned (.plain (OpenSpec.upto glottoScaleSpec)) glottoScaleUptoCard

/-- THE SECOND FORM's CARD OF 'ablautlaw35.GlottoRanks'. -/
def glottoRanksUptoCard : Claim7 := { stood := { row := glottoRanksUptoRow, standIns := [], harness := (true, "c52b2615edd3436d66bf1e1ca79ce45de8a9143ae732954b2bcd1a79da9cf9fa"), looks := false }, kinds := [], alts := [], laidByText := true, laidKinds := [.data, .data, .data], laidTests := true, laidLooks := .later }
def GlottoRanksUptoCardSaid : Prop := Claim7.holds Tryd.pinned (.plain (OpenSpec.upto glottoRanksSpec)) glottoRanksUptoCard

/-- THE SECOND FORM's CARD OF 'ablautlaw35.GlottoOwn'. -/
def glottoOwnUptoCard : Claim7 := { stood := { row := glottoOwnUptoRow, standIns := [], harness := (true, "c52b2615edd3436d66bf1e1ca79ce45de8a9143ae732954b2bcd1a79da9cf9fa"), looks := false }, kinds := [], alts := [], laidByText := true, laidKinds := [.data, .data, .data], laidTests := true, laidLooks := .later }
def GlottoOwnUptoCardSaid : Prop := Claim7.holds Tryd.pinned (.plain (OpenSpec.upto glottoOwnSpec)) glottoOwnUptoCard

/-- THE SECOND FORM's CARD OF 'ablautlaw35.GlottoMerges'. -/
def glottoMergesUptoCard : Claim7 := { stood := { row := glottoMergesUptoRow, standIns := [], harness := (true, "c52b2615edd3436d66bf1e1ca79ce45de8a9143ae732954b2bcd1a79da9cf9fa"), looks := false }, kinds := [], alts := [], laidByText := true, laidKinds := [.data, .data, .data], laidTests := true, laidLooks := .later }
def GlottoMergesUptoCardSaid : Prop := Claim7.holds Tryd.pinned (.plain (OpenSpec.upto glottoMergesSpec)) glottoMergesUptoCard

/-- THE SECOND FORM's CARD OF 'ablautlaw35.GlottoLeaves'. -/
def glottoLeavesUptoCard : Claim7 := { stood := { row := glottoLeavesUptoRow, standIns := [], harness := (true, "c52b2615edd3436d66bf1e1ca79ce45de8a9143ae732954b2bcd1a79da9cf9fa"), looks := false }, kinds := [], alts := [], laidByText := true, laidKinds := [.data, .data, .data], laidTests := true, laidLooks := .later }
def GlottoLeavesUptoCardSaid : Prop := Claim7.holds Tryd.pinned (.plain (OpenSpec.upto glottoLeavesSpec)) glottoLeavesUptoCard

/-- THE SECOND FORM's CARD OF 'ablautlaw35.GlottoShares'. -/
def glottoSharesUptoCard : Claim7 := { stood := { row := glottoSharesUptoRow, standIns := [], harness := (true, "c52b2615edd3436d66bf1e1ca79ce45de8a9143ae732954b2bcd1a79da9cf9fa"), looks := false }, kinds := [], alts := [], laidByText := true, laidKinds := [.data, .data, .data], laidTests := true, laidLooks := .later }
def GlottoSharesUptoCardSaid : Prop := Claim7.holds Tryd.pinned (.plain (OpenSpec.upto glottoSharesSpec)) glottoSharesUptoCard

/-- THE SECOND FORM's CARD OF 'ablautlaw35.GlottoTrees'. -/
def glottoTreesUptoCard : Claim7 := { stood := { row := glottoTreesUptoRow, standIns := [], harness := (true, "c52b2615edd3436d66bf1e1ca79ce45de8a9143ae732954b2bcd1a79da9cf9fa"), looks := false }, kinds := [], alts := [], laidByText := true, laidKinds := [.data, .data, .data], laidTests := true, laidLooks := .later }
def GlottoTreesUptoCardSaid : Prop := Claim7.holds Tryd.pinned (.plain (OpenSpec.upto glottoTreesSpec)) glottoTreesUptoCard

/-- THE SECOND FORM's CARD OF 'ablautlaw35.GlottoRises'. -/
def glottoRisesUptoCard : Claim7 := { stood := { row := glottoRisesUptoRow, standIns := [], harness := (true, "c52b2615edd3436d66bf1e1ca79ce45de8a9143ae732954b2bcd1a79da9cf9fa"), looks := false }, kinds := [], alts := [], laidByText := true, laidKinds := [.data, .data, .data], laidTests := true, laidLooks := .later }
def GlottoRisesUptoCardSaid : Prop := Claim7.holds Tryd.pinned (.plain (OpenSpec.upto glottoRisesSpec)) glottoRisesUptoCard

/-- THE SECOND FORM's CARD OF 'ablautlaw35.GlottoClock'. -/
def glottoClockUptoCard : Claim7 := { stood := { row := glottoClockUptoRow, standIns := [], harness := (true, "c52b2615edd3436d66bf1e1ca79ce45de8a9143ae732954b2bcd1a79da9cf9fa"), looks := false }, kinds := [], alts := [], laidByText := true, laidKinds := [.data, .data, .data], laidTests := true, laidLooks := .later }
def GlottoClockUptoCardSaid : Prop := Claim7.holds Tryd.pinned (.plain (OpenSpec.upto glottoClockSpec)) glottoClockUptoCard

/-- THE SECOND FORM's CARD OF 'ablautlaw35.GlottoGreat'. -/
def glottoGreatUptoCard : Claim7 := { stood := { row := glottoGreatUptoRow, standIns := [], harness := (true, "c52b2615edd3436d66bf1e1ca79ce45de8a9143ae732954b2bcd1a79da9cf9fa"), looks := false }, kinds := [], alts := [], laidByText := true, laidKinds := [.data, .data, .data], laidTests := true, laidLooks := .later }
def GlottoGreatUptoCardSaid : Prop := Claim7.holds Tryd.pinned (.plain (OpenSpec.upto glottoGreatSpec)) glottoGreatUptoCard
end Rows
end Go.Proofs.YtahgffjkkdbjeaaDoor
