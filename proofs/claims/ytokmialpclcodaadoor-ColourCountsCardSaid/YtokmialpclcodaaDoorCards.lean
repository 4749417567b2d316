/-
  DERIVED. GIVEN WITH THE SEED: THE CARDS: each row of YtokmialpclcodaaDoorRows.lean that lists a variable, with what it lists TIED to the program's text (the seventh form; the later family's looks); each row that meets fmt, with fmt's text TOLD by the authors' own Lean function (tested against real Go, not proved from fmt's source: count such statements apart). THE CARD IS WHAT COUNTS. Prove the row's statement (the work); the ties are given (YtokmialpclcodaaDoorTie.lean); close each card by the builder's one call (the guide's Derived/Test/ToyasCard.lean, 'card_holds'). Laid BY PROGRAM, IN A SANDBOX (cutbox-door.mjs). By AI agents, Wed Nov 11 2026. No macro, syntax, notation, axiom, sorry.
-/
import Derived.Test.YtokmialpclcodaaDoorRows
import GoSem.ClaimSeven
namespace Go.Proofs.YtokmialpclcodaaDoor
namespace Rows

/-- THE TIED CARD OF 'teamsterlaw.PairsMost'. -/
def pairsMostCard : Claim7 := { stood := { row := pairsMostRow, standIns := [], harness := (true, "9dd2f90a9b3e6f238eaed9c9ab14807e382cbbb53622def99c81744928b82314"), looks := false }, kinds := [], alts := [], laidByText := true, laidKinds := [.data], laidTests := true, laidLooks := .later }
def PairsMostCardSaid : Prop := Claim7.holds Tryd.pinned (.plain (OpenSpec.ofChange pairsMostSpec)) pairsMostCard

/-- THE TIED CARD OF 'teamsterlaw.ColourTurns'. -/
def colourTurnsCard : Claim7 := { stood := { row := colourTurnsRow, standIns := [], harness := (true, "9dd2f90a9b3e6f238eaed9c9ab14807e382cbbb53622def99c81744928b82314"), looks := false }, kinds := [], alts := [], laidByText := true, laidKinds := [.data], laidTests := true, laidLooks := .later }
def ColourTurnsCardSaid : Prop := Claim7.holds Tryd.pinned (.plain (OpenSpec.ofChange colourTurnsSpec)) colourTurnsCard

/-- THE TIED CARD OF 'teamsterlaw.ColourCounts'. -/
def colourCountsCard : Claim7 := { stood := { row := colourCountsRow, standIns := [], harness := (true, "9dd2f90a9b3e6f238eaed9c9ab14807e382cbbb53622def99c81744928b82314"), looks := false }, kinds := [], alts := [], laidByText := true, laidKinds := [.data], laidTests := true, laidLooks := .later }
def ColourCountsCardSaid : Prop := Claim7.holds Tryd.pinned (.plain (OpenSpec.ofChange colourCountsSpec)) colourCountsCard

/-- THE TIED CARD OF 'teamsterlaw.TourTells'. -/
def tourTellsCard : Claim7 := { stood := { row := tourTellsRow, standIns := [], harness := (true, "9dd2f90a9b3e6f238eaed9c9ab14807e382cbbb53622def99c81744928b82314"), looks := false }, kinds := [], alts := [], laidByText := true, laidKinds := [.data], laidTests := true, laidLooks := .later }
def TourTellsCardSaid : Prop := Claim7.holds Tryd.pinned (.plain (OpenSpec.ofChange tourTellsSpec)) tourTellsCard

/-- THE TIED CARD OF 'teamsterlaw.MapsChecks'. -/
def mapsChecksCard : Claim7 := { stood := { row := mapsChecksRow, standIns := [], harness := (true, "9dd2f90a9b3e6f238eaed9c9ab14807e382cbbb53622def99c81744928b82314"), looks := false }, kinds := [], alts := [], laidByText := true, laidKinds := [.data], laidTests := true, laidLooks := .later }
def MapsChecksCardSaid : Prop := Claim7.holds Tryd.pinned (.plain (OpenSpec.ofChange mapsChecksSpec)) mapsChecksCard

/-- THE TIED CARD OF 'teamsterlaw.MapsFaces'. -/
def mapsFacesCard : Claim7 := { stood := { row := mapsFacesRow, standIns := [], harness := (true, "9dd2f90a9b3e6f238eaed9c9ab14807e382cbbb53622def99c81744928b82314"), looks := false }, kinds := [], alts := [], laidByText := true, laidKinds := [.data], laidTests := true, laidLooks := .later }
def MapsFacesCardSaid : Prop := Claim7.holds Tryd.pinned (.plain (OpenSpec.ofChange mapsFacesSpec)) mapsFacesCard

/-- THE TIED CARD OF 'teamsterlaw.MapsHoles'. -/
def mapsHolesCard : Claim7 := { stood := { row := mapsHolesRow, standIns := [], harness := (true, "9dd2f90a9b3e6f238eaed9c9ab14807e382cbbb53622def99c81744928b82314"), looks := false }, kinds := [], alts := [], laidByText := true, laidKinds := [.data], laidTests := true, laidLooks := .later }
def MapsHolesCardSaid : Prop := Claim7.holds Tryd.pinned (.plain (OpenSpec.ofChange mapsHolesSpec)) mapsHolesCard

/-- THE TIED CARD OF 'teamsterlaw.SpanMany'. -/
def spanManyCard : Claim7 := { stood := { row := spanManyRow, standIns := [], harness := (true, "9dd2f90a9b3e6f238eaed9c9ab14807e382cbbb53622def99c81744928b82314"), looks := false }, kinds := [], alts := [], laidByText := true, laidKinds := [.data], laidTests := true, laidLooks := .later }
def SpanManyCardSaid : Prop := Claim7.holds Tryd.pinned (.plain (OpenSpec.ofChange spanManySpec)) spanManyCard

/-- THE SECOND FORM's CARD OF 'teamsterlaw.PairsMost'. -/
def pairsMostUptoCard : Claim7 := { stood := { row := pairsMostUptoRow, standIns := [], harness := (true, "9dd2f90a9b3e6f238eaed9c9ab14807e382cbbb53622def99c81744928b82314"), looks := false }, kinds := [], alts := [], laidByText := true, laidKinds := [.data], laidTests := true, laidLooks := .later }
def PairsMostUptoCardSaid : Prop := Claim7.holds Tryd.pinned (.plain (OpenSpec.upto pairsMostSpec)) pairsMostUptoCard

/-- THE SECOND FORM's CARD OF 'teamsterlaw.ColourTurns'. -/
def colourTurnsUptoCard : Claim7 := { stood := { row := colourTurnsUptoRow, standIns := [], harness := (true, "9dd2f90a9b3e6f238eaed9c9ab14807e382cbbb53622def99c81744928b82314"), looks := false }, kinds := [], alts := [], laidByText := true, laidKinds := [.data], laidTests := true, laidLooks := .later }
def ColourTurnsUptoCardSaid : Prop := Claim7.holds Tryd.pinned (.plain (OpenSpec.upto colourTurnsSpec)) colourTurnsUptoCard

/-- THE SECOND FORM's CARD OF 'teamsterlaw.ColourCounts'. -/
def colourCountsUptoCard : Claim7 := { stood := { row := colourCountsUptoRow, standIns := [], harness := (true, "9dd2f90a9b3e6f238eaed9c9ab14807e382cbbb53622def99c81744928b82314"), looks := false }, kinds := [], alts := [], laidByText := true, laidKinds := [.data], laidTests := true, laidLooks := .later }
def ColourCountsUptoCardSaid : Prop := Claim7.holds Tryd.pinned (.plain (OpenSpec.upto colourCountsSpec)) colourCountsUptoCard

/-- THE SECOND FORM's CARD OF 'teamsterlaw.TourTells'. -/
def tourTellsUptoCard : Claim7 := { stood := { row := tourTellsUptoRow, standIns := [], harness := (true, "9dd2f90a9b3e6f238eaed9c9ab14807e382cbbb53622def99c81744928b82314"), looks := false }, kinds := [], alts := [], laidByText := true, laidKinds := [.data], laidTests := true, laidLooks := .later }
def TourTellsUptoCardSaid : Prop := Claim7.holds Tryd.pinned (.plain (OpenSpec.upto tourTellsSpec)) tourTellsUptoCard

/-- THE SECOND FORM's CARD OF 'teamsterlaw.MapsChecks'. -/
def mapsChecksUptoCard : Claim7 := { stood := { row := mapsChecksUptoRow, standIns := [], harness := (true, "9dd2f90a9b3e6f238eaed9c9ab14807e382cbbb53622def99c81744928b82314"), looks := false }, kinds := [], alts := [], laidByText := true, laidKinds := [.data], laidTests := true, laidLooks := .later }
def MapsChecksUptoCardSaid : Prop := Claim7.holds Tryd.pinned (.plain (OpenSpec.upto mapsChecksSpec)) mapsChecksUptoCard

/-- THE SECOND FORM's CARD OF 'teamsterlaw.MapsFaces'. -/
def mapsFacesUptoCard : Claim7 := { stood := { row := mapsFacesUptoRow, standIns := [], harness := (true, "9dd2f90a9b3e6f238eaed9c9ab14807e382cbbb53622def99c81744928b82314"), looks := false }, kinds := [], alts := [], laidByText := true, laidKinds := [.data], laidTests := true, laidLooks := .later }
def MapsFacesUptoCardSaid : Prop := Claim7.holds Tryd.pinned (.plain (OpenSpec.upto mapsFacesSpec)) mapsFacesUptoCard

/-- THE SECOND FORM's CARD OF 'teamsterlaw.MapsHoles'. -/
def mapsHolesUptoCard : Claim7 := { stood := { row := mapsHolesUptoRow, standIns := [], harness := (true, "9dd2f90a9b3e6f238eaed9c9ab14807e382cbbb53622def99c81744928b82314"), looks := false }, kinds := [], alts := [], laidByText := true, laidKinds := [.data], laidTests := true, laidLooks := .later }
def MapsHolesUptoCardSaid : Prop := Claim7.holds Tryd.pinned (.plain (OpenSpec.upto mapsHolesSpec)) mapsHolesUptoCard

/-- THE SECOND FORM's CARD OF 'teamsterlaw.SpanMany'. -/
def spanManyUptoCard : Claim7 := { stood := { row := spanManyUptoRow, standIns := [], harness := (true, "9dd2f90a9b3e6f238eaed9c9ab14807e382cbbb53622def99c81744928b82314"), looks := false }, kinds := [], alts := [], laidByText := true, laidKinds := [.data], laidTests := true, laidLooks := .later }
def SpanManyUptoCardSaid : Prop := Claim7.holds Tryd.pinned (.plain (OpenSpec.upto spanManySpec)) spanManyUptoCard
end Rows
end Go.Proofs.YtokmialpclcodaaDoor
