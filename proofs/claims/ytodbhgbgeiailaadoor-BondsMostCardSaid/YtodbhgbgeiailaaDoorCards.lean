/-
  DERIVED. GIVEN WITH THE SEED: THE CARDS: each row of YtodbhgbgeiailaaDoorRows.lean that lists a variable, with what it lists TIED to the program's text (the seventh form; the later family's looks); each row that meets fmt, with fmt's text TOLD by the authors' own Lean function (tested against real Go, not proved from fmt's source: count such statements apart). THE CARD IS WHAT COUNTS. Prove the row's statement (the work); the ties are given (YtodbhgbgeiailaaDoorTie.lean); close each card by the builder's one call (the guide's Derived/Test/ToyasCard.lean, 'card_holds'). Laid BY PROGRAM, IN A SANDBOX (cutbox-door.mjs). By AI agents, Wed Nov 11 2026. No macro, syntax, notation, axiom, sorry.
-/
import Derived.Test.YtodbhgbgeiailaaDoorRows
import GoSem.ClaimSeven
namespace Go.Proofs.YtodbhgbgeiailaaDoor
namespace Rows

/-- THE TIED CARD OF 'teamsterlaw.BondsMost'. -/
def bondsMostCard : Claim7 := { stood := { row := bondsMostRow, standIns := [], harness := (true, "3a491cfe8b82cf21e26b27c1a91ebce2e84b37452ca8c5c391ccbcc906a6bc9b"), looks := false }, kinds := [], alts := [], laidByText := true, laidKinds := [.data], laidTests := true, laidLooks := .later }
def BondsMostCardSaid : Prop := Claim7.holds Tryd.pinned (.plain (OpenSpec.ofChange bondsMostSpec)) bondsMostCard

/-- THE TIED CARD OF 'teamsterlaw.PairsMost'. -/
def pairsMostCard : Claim7 := { stood := { row := pairsMostRow, standIns := [], harness := (true, "3a491cfe8b82cf21e26b27c1a91ebce2e84b37452ca8c5c391ccbcc906a6bc9b"), looks := false }, kinds := [], alts := [], laidByText := true, laidKinds := [.data], laidTests := true, laidLooks := .later }
def PairsMostCardSaid : Prop := Claim7.holds Tryd.pinned (.plain (OpenSpec.ofChange pairsMostSpec)) pairsMostCard

/-- THE TIED CARD OF 'teamsterlaw.ColourTurns'. -/
def colourTurnsCard : Claim7 := { stood := { row := colourTurnsRow, standIns := [], harness := (true, "3a491cfe8b82cf21e26b27c1a91ebce2e84b37452ca8c5c391ccbcc906a6bc9b"), looks := false }, kinds := [], alts := [], laidByText := true, laidKinds := [.data], laidTests := true, laidLooks := .later }
def ColourTurnsCardSaid : Prop := Claim7.holds Tryd.pinned (.plain (OpenSpec.ofChange colourTurnsSpec)) colourTurnsCard

/-- THE TIED CARD OF 'teamsterlaw.ColourCounts'. -/
def colourCountsCard : Claim7 := { stood := { row := colourCountsRow, standIns := [], harness := (true, "3a491cfe8b82cf21e26b27c1a91ebce2e84b37452ca8c5c391ccbcc906a6bc9b"), looks := false }, kinds := [], alts := [], laidByText := true, laidKinds := [.data], laidTests := true, laidLooks := .later }
def ColourCountsCardSaid : Prop := Claim7.holds Tryd.pinned (.plain (OpenSpec.ofChange colourCountsSpec)) colourCountsCard

/-- THE SECOND FORM's CARD OF 'teamsterlaw.BondsMost'. -/
def bondsMostUptoCard : Claim7 := { stood := { row := bondsMostUptoRow, standIns := [], harness := (true, "3a491cfe8b82cf21e26b27c1a91ebce2e84b37452ca8c5c391ccbcc906a6bc9b"), looks := false }, kinds := [], alts := [], laidByText := true, laidKinds := [.data], laidTests := true, laidLooks := .later }
def BondsMostUptoCardSaid : Prop := Claim7.holds Tryd.pinned (.plain (OpenSpec.upto bondsMostSpec)) bondsMostUptoCard

/-- THE SECOND FORM's CARD OF 'teamsterlaw.PairsMost'. -/
def pairsMostUptoCard : Claim7 := { stood := { row := pairsMostUptoRow, standIns := [], harness := (true, "3a491cfe8b82cf21e26b27c1a91ebce2e84b37452ca8c5c391ccbcc906a6bc9b"), looks := false }, kinds := [], alts := [], laidByText := true, laidKinds := [.data], laidTests := true, laidLooks := .later }
def PairsMostUptoCardSaid : Prop := Claim7.holds Tryd.pinned (.plain (OpenSpec.upto pairsMostSpec)) pairsMostUptoCard

/-- THE SECOND FORM's CARD OF 'teamsterlaw.ColourTurns'. -/
def colourTurnsUptoCard : Claim7 := { stood := { row := colourTurnsUptoRow, standIns := [], harness := (true, "3a491cfe8b82cf21e26b27c1a91ebce2e84b37452ca8c5c391ccbcc906a6bc9b"), looks := false }, kinds := [], alts := [], laidByText := true, laidKinds := [.data], laidTests := true, laidLooks := .later }
def ColourTurnsUptoCardSaid : Prop := Claim7.holds Tryd.pinned (.plain (OpenSpec.upto colourTurnsSpec)) colourTurnsUptoCard

/-- THE SECOND FORM's CARD OF 'teamsterlaw.ColourCounts'. -/
def colourCountsUptoCard : Claim7 := { stood := { row := colourCountsUptoRow, standIns := [], harness := (true, "3a491cfe8b82cf21e26b27c1a91ebce2e84b37452ca8c5c391ccbcc906a6bc9b"), looks := false }, kinds := [], alts := [], laidByText := true, laidKinds := [.data], laidTests := true, laidLooks := .later }
def ColourCountsUptoCardSaid : Prop := Claim7.holds Tryd.pinned (.plain (OpenSpec.upto colourCountsSpec)) colourCountsUptoCard
end Rows
end Go.Proofs.YtodbhgbgeiailaaDoor
