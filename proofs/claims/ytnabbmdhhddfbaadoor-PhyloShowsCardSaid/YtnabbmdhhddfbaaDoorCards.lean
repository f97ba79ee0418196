/-
  DERIVED. GIVEN WITH THE SEED: THE CARDS: each row of YtnabbmdhhddfbaaDoorRows.lean that lists a variable, with what it lists TIED to the program's text (the seventh form; the later family's looks); each row that meets fmt, with fmt's text TOLD by the authors' own Lean function (tested against real Go, not proved from fmt's source: count such statements apart). THE CARD IS WHAT COUNTS. Prove the row's statement (the work); the ties are given (YtnabbmdhhddfbaaDoorTie.lean); close each card by the builder's one call (the guide's Derived/Test/ToyasCard.lean, 'card_holds'). Laid BY PROGRAM, IN A SANDBOX (cutbox-door.mjs). By AI agents, Wed Nov 11 2026. No macro, syntax, notation, axiom, sorry.
-/
import Derived.Test.YtnabbmdhhddfbaaDoorRows
import GoSem.ClaimSeven
namespace Go.Proofs.YtnabbmdhhddfbaaDoor
namespace Rows

/-- THE TIED CARD OF 'ablautlaw32.PhyloBuilds'. -/
def phyloBuildsCard : Claim7 := { stood := { row := phyloBuildsRow, standIns := [], harness := (true, "4b16e268537d5ce7806830dce7994fe9db177b10ef5305e5c6aa73d0f0f5feff"), looks := false }, kinds := [], alts := [], laidByText := true, laidKinds := [.data, .data, .data], laidTests := true, laidLooks := .later }
def PhyloBuildsCardSaid : Prop := Claim7.holds Tryd.pinned (.plain (OpenSpec.ofChange phyloBuildsSpec)) phyloBuildsCard

/-- THE TIED CARD OF 'ablautlaw32.PhyloLargest'. -/
def phyloLargestCard : Claim7 := { stood := { row := phyloLargestRow, standIns := [], harness := (true, "4b16e268537d5ce7806830dce7994fe9db177b10ef5305e5c6aa73d0f0f5feff"), looks := false }, kinds := [], alts := [], laidByText := true, laidKinds := [.data, .data, .data], laidTests := true, laidLooks := .later }
def PhyloLargestCardSaid : Prop := Claim7.holds Tryd.pinned (.plain (OpenSpec.ofChange phyloLargestSpec)) phyloLargestCard

/-- THE TIED CARD OF 'ablautlaw32.PhyloMost'. -/
def phyloMostCard : Claim7 := { stood := { row := phyloMostRow, standIns := [], harness := (true, "4b16e268537d5ce7806830dce7994fe9db177b10ef5305e5c6aa73d0f0f5feff"), looks := false }, kinds := [], alts := [], laidByText := true, laidKinds := [.data, .data, .data], laidTests := true, laidLooks := .later }
def PhyloMostCardSaid : Prop := Claim7.holds Tryd.pinned (.plain (OpenSpec.ofChange phyloMostSpec)) phyloMostCard

/-- THE TIED CARD OF 'ablautlaw32.PhyloLosses'. -/
def phyloLossesCard : Claim7 := { stood := { row := phyloLossesRow, standIns := [], harness := (true, "4b16e268537d5ce7806830dce7994fe9db177b10ef5305e5c6aa73d0f0f5feff"), looks := false }, kinds := [], alts := [], laidByText := true, laidKinds := [.data, .data, .data], laidTests := true, laidLooks := .later }
def PhyloLossesCardSaid : Prop := Claim7.holds Tryd.pinned (.plain (OpenSpec.ofChange phyloLossesSpec)) phyloLossesCard

/-- THE TIED CARD OF 'ablautlaw32.PhyloGroups'. -/
def phyloGroupsCard : Claim7 := { stood := { row := phyloGroupsRow, standIns := [], harness := (true, "4b16e268537d5ce7806830dce7994fe9db177b10ef5305e5c6aa73d0f0f5feff"), looks := false }, kinds := [], alts := [], laidByText := true, laidKinds := [.data, .data, .data], laidTests := true, laidLooks := .later }
def PhyloGroupsCardSaid : Prop := Claim7.holds Tryd.pinned (.plain (OpenSpec.ofChange phyloGroupsSpec)) phyloGroupsCard

/-- THE TIED CARD OF 'ablautlaw32.PhyloOn'. -/
def phyloOnCard : Claim7 := { stood := { row := phyloOnRow, standIns := [], harness := (true, "4b16e268537d5ce7806830dce7994fe9db177b10ef5305e5c6aa73d0f0f5feff"), looks := false }, kinds := [], alts := [], laidByText := true, laidKinds := [.data, .data, .data], laidTests := true, laidLooks := .later }
def PhyloOnCardSaid : Prop := Claim7.holds Tryd.pinned (.plain (OpenSpec.ofChange phyloOnSpec)) phyloOnCard

/-- THE TIED CARD OF 'ablautlaw32.PhyloPerfect'. -/
def phyloPerfectCard : Claim7 := { stood := { row := phyloPerfectRow, standIns := [], harness := (true, "4b16e268537d5ce7806830dce7994fe9db177b10ef5305e5c6aa73d0f0f5feff"), looks := false }, kinds := [], alts := [], laidByText := true, laidKinds := [.data, .data, .data], laidTests := true, laidLooks := .later }
def PhyloPerfectCardSaid : Prop := Claim7.holds Tryd.pinned (.plain (OpenSpec.ofChange phyloPerfectSpec)) phyloPerfectCard

/-- THE TIED CARD OF 'ablautlaw32.PhyloShows'. -/
def phyloShowsCard : Claim7 := { stood := { row := phyloShowsRow, standIns := [], harness := (true, "4b16e268537d5ce7806830dce7994fe9db177b10ef5305e5c6aa73d0f0f5feff"), looks := false }, kinds := [], alts := [], laidByText := true, laidKinds := [.data, .data, .data], laidTests := true, laidLooks := .later }
def PhyloShowsCardSaid : Prop := Claim7.holds Tryd.pinned (.plain (OpenSpec.ofChange phyloShowsSpec)) phyloShowsCard

/-- THE TIED CARD OF 'ablautlaw32.PhyloOnce'. -/
def phyloOnceCard : Claim7 := { stood := { row := phyloOnceRow, standIns := [], harness := (true, "4b16e268537d5ce7806830dce7994fe9db177b10ef5305e5c6aa73d0f0f5feff"), looks := false }, kinds := [], alts := [], laidByText := true, laidKinds := [.data, .data, .data], laidTests := true, laidLooks := .later }
def PhyloOnceCardSaid : Prop := Claim7.holds Tryd.pinned (.plain (OpenSpec.ofChange phyloOnceSpec)) phyloOnceCard

/-- THE TIED CARD OF 'ablautlaw32.PhyloClades'. -/
def phyloCladesCard : Claim7 := { stood := { row := phyloCladesRow, standIns := [], harness := (true, "4b16e268537d5ce7806830dce7994fe9db177b10ef5305e5c6aa73d0f0f5feff"), looks := false }, kinds := [], alts := [], laidByText := true, laidKinds := [.data, .data, .data], laidTests := true, laidLooks := .later }
def PhyloCladesCardSaid : Prop := Claim7.holds Tryd.pinned (.plain (OpenSpec.ofChange phyloCladesSpec)) phyloCladesCard

/-- THE SECOND FORM's CARD OF 'ablautlaw32.PhyloBuilds'. -/
def phyloBuildsUptoCard : Claim7 := { stood := { row := phyloBuildsUptoRow, standIns := [], harness := (true, "4b16e268537d5ce7806830dce7994fe9db177b10ef5305e5c6aa73d0f0f5feff"), looks := false }, kinds := [], alts := [], laidByText := true, laidKinds := [.data, .data, .data], laidTests := true, laidLooks := .later }
def PhyloBuildsUptoCardSaid : Prop := Claim7.holds Tryd.pinned (.plain (OpenSpec.upto phyloBuildsSpec)) phyloBuildsUptoCard

/-- THE SECOND FORM's CARD OF 'ablautlaw32.PhyloLargest'. -/
def phyloLargestUptoCard : Claim7 := { stood := { row := phyloLargestUptoRow, standIns := [], harness := (true, "4b16e268537d5ce7806830dce7994fe9db177b10ef5305e5c6aa73d0f0f5feff"), looks := false }, kinds := [], alts := [], laidByText := true, laidKinds := [.data, .data, .data], laidTests := true, laidLooks := .later }
def PhyloLargestUptoCardSaid : Prop := Claim7.holds Tryd.pinned (.plain (OpenSpec.upto phyloLargestSpec)) phyloLargestUptoCard

/-- THE SECOND FORM's CARD OF 'ablautlaw32.PhyloMost'. -/
def phyloMostUptoCard : Claim7 := { stood := { row := phyloMostUptoRow, standIns := [], harness := (true, "4b16e268537d5ce7806830dce7994fe9db177b10ef5305e5c6aa73d0f0f5feff"), looks := false }, kinds := [], alts := [], laidByText := true, laidKinds := [.data, .data, .data], laidTests := true, laidLooks := .later }
def PhyloMostUptoCardSaid : Prop := Claim7.holds Tryd.pinned (.plain (OpenSpec.upto phyloMostSpec)) phyloMostUptoCard

/-- THE SECOND FORM's CARD OF 'ablautlaw32.PhyloLosses'. -/
def phyloLossesUptoCard : Claim7 := { stood := { row := phyloLossesUptoRow, standIns := [], harness := (true, "4b16e268537d5ce7806830dce7994fe9db177b10ef5305e5c6aa73d0f0f5feff"), looks := false }, kinds := [], alts := [], laidByText := true, laidKinds := [.data, .data, .data], laidTests := true, laidLooks := .later }
def PhyloLossesUptoCardSaid : Prop := Claim7.holds Tryd.pinned (.plain (OpenSpec.upto phyloLossesSpec)) phyloLossesUptoCard

/-- THE SECOND FORM's CARD OF 'ablautlaw32.PhyloGroups'. -/
def phyloGroupsUptoCard : Claim7 := { stood := { row := phyloGroupsUptoRow, standIns := [], harness := (true, "4b16e268537d5ce7806830dce7994fe9db177b10ef5305e5c6aa73d0f0f5feff"), looks := false }, kinds := [], alts := [], laidByText := true, laidKinds := [.data, .data, .data], laidTests := true, laidLooks := .later }
def PhyloGroupsUptoCardSaid : Prop := Claim7.holds Tryd.pinned (.plain (OpenSpec.upto phyloGroupsSpec)) phyloGroupsUptoCard

/-- THE SECOND FORM's CARD OF 'ablautlaw32.PhyloOn'. -/
def phyloOnUptoCard : Claim7 := { stood := { row := phyloOnUptoRow, standIns := [], harness := (true, "4b16e268537d5ce7806830dce7994fe9db177b10ef5305e5c6aa73d0f0f5feff"), looks := false }, kinds := [], alts := [], laidByText := true, laidKinds := [.data, .data, .data], laidTests := true, laidLooks := .later }
def PhyloOnUptoCardSaid : Prop := Claim7.holds Tryd.pinned (.plain (OpenSpec.upto phyloOnSpec)) phyloOnUptoCard

/-- THE SECOND FORM's CARD OF 'ablautlaw32.PhyloPerfect'. -/
def phyloPerfectUptoCard : Claim7 := { stood := { row := phyloPerfectUptoRow, standIns := [], harness := (true, "4b16e268537d5ce7806830dce7994fe9db177b10ef5305e5c6aa73d0f0f5feff"), looks := false }, kinds := [], alts := [], laidByText := true, laidKinds := [.data, .data, .data], laidTests := true, laidLooks := .later }
def PhyloPerfectUptoCardSaid : Prop := Claim7.holds Tryd.pinned (.plain (OpenSpec.upto phyloPerfectSpec)) phyloPerfectUptoCard

/-- THE SECOND FORM's CARD OF 'ablautlaw32.PhyloShows'. -/
def phyloShowsUptoCard : Claim7 := { stood := { row := phyloShowsUptoRow, standIns := [], harness := (true, "4b16e268537d5ce7806830dce7994fe9db177b10ef5305e5c6aa73d0f0f5feff"), looks := false }, kinds := [], alts := [], laidByText := true, laidKinds := [.data, .data, .data], laidTests := true, laidLooks := .later }
def PhyloShowsUptoCardSaid : Prop := Claim7.holds Tryd.pinned (.plain (OpenSpec.upto phyloShowsSpec)) phyloShowsUptoCard

/-- THE SECOND FORM's CARD OF 'ablautlaw32.PhyloOnce'. -/
def phyloOnceUptoCard : Claim7 := { stood := { row := phyloOnceUptoRow, standIns := [], harness := (true, "4b16e268537d5ce7806830dce7994fe9db177b10ef5305e5c6aa73d0f0f5feff"), looks := false }, kinds := [], alts := [], laidByText := true, laidKinds := [.data, .data, .data], laidTests := true, laidLooks := .later }
def PhyloOnceUptoCardSaid : Prop := Claim7.holds Tryd.pinned (.plain (OpenSpec.upto phyloOnceSpec)) phyloOnceUptoCard

/-- THE SECOND FORM's CARD OF 'ablautlaw32.PhyloClades'. -/
def phyloCladesUptoCard : Claim7 := { stood := { row := phyloCladesUptoRow, standIns := [], harness := (true, "4b16e268537d5ce7806830dce7994fe9db177b10ef5305e5c6aa73d0f0f5feff"), looks := false }, kinds := [], alts := [], laidByText := true, laidKinds := [.data, .data, .data], laidTests := true, laidLooks := .later }
def PhyloCladesUptoCardSaid : Prop := Claim7.holds Tryd.pinned (.plain (OpenSpec.upto phyloCladesSpec)) phyloCladesUptoCard
end Rows
end Go.Proofs.YtnabbmdhhddfbaaDoor
