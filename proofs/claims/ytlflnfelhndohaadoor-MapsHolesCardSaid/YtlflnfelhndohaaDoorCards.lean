/-
  DERIVED. GIVEN WITH THE SEED: THE CARDS: each row of YtlflnfelhndohaaDoorRows.lean that lists a variable, with what it lists TIED to the program's text (the seventh form; the later family's looks); each row that meets fmt, with fmt's text TOLD by the authors' own Lean function (tested against real Go, not proved from fmt's source: count such statements apart). THE CARD IS WHAT COUNTS. Prove the row's statement (the work); the ties are given (YtlflnfelhndohaaDoorTie.lean); close each card by the builder's one call (the guide's Derived/Test/ToyasCard.lean, 'card_holds'). Laid BY PROGRAM, IN A SANDBOX (cutbox-door.mjs). By AI agents, Wed Nov 11 2026. No macro, syntax, notation, axiom, sorry.
-/
import Derived.Test.YtlflnfelhndohaaDoorRows
import GoSem.ClaimSeven
namespace Go.Proofs.YtlflnfelhndohaaDoor
namespace Rows

/-- THE TIED CARD OF 'teamsterlaw.TourTells'. -/
def tourTellsCard : Claim7 := { stood := { row := tourTellsRow, standIns := [], harness := (true, "f5ea12a80560d8fa9604c3679e9d199598cb7a70da778bd3339ee409d0e21cac"), looks := false }, kinds := [], alts := [], laidByText := true, laidKinds := [.data], laidTests := true, laidLooks := .later }
def TourTellsCardSaid : Prop := Claim7.holds Tryd.pinned (.plain (OpenSpec.ofChange tourTellsSpec)) tourTellsCard

/-- THE TIED CARD OF 'teamsterlaw.MapsChecks'. -/
def mapsChecksCard : Claim7 := { stood := { row := mapsChecksRow, standIns := [], harness := (true, "f5ea12a80560d8fa9604c3679e9d199598cb7a70da778bd3339ee409d0e21cac"), looks := false }, kinds := [], alts := [], laidByText := true, laidKinds := [.data], laidTests := true, laidLooks := .later }
def MapsChecksCardSaid : Prop := Claim7.holds Tryd.pinned (.plain (OpenSpec.ofChange mapsChecksSpec)) mapsChecksCard

/-- THE TIED CARD OF 'teamsterlaw.MapsFaces'. -/
def mapsFacesCard : Claim7 := { stood := { row := mapsFacesRow, standIns := [], harness := (true, "f5ea12a80560d8fa9604c3679e9d199598cb7a70da778bd3339ee409d0e21cac"), looks := false }, kinds := [], alts := [], laidByText := true, laidKinds := [.data], laidTests := true, laidLooks := .later }
def MapsFacesCardSaid : Prop := Claim7.holds Tryd.pinned (.plain (OpenSpec.ofChange mapsFacesSpec)) mapsFacesCard

/-- THE TIED CARD OF 'teamsterlaw.MapsHoles'. -/
def mapsHolesCard : Claim7 := { stood := { row := mapsHolesRow, standIns := [], harness := (true, "f5ea12a80560d8fa9604c3679e9d199598cb7a70da778bd3339ee409d0e21cac"), looks := false }, kinds := [], alts := [], laidByText := true, laidKinds := [.data], laidTests := true, laidLooks := .later }
def MapsHolesCardSaid : Prop := Claim7.holds Tryd.pinned (.plain (OpenSpec.ofChange mapsHolesSpec)) mapsHolesCard

/-- THE TIED CARD OF 'teamsterlaw.SpanMany'. -/
def spanManyCard : Claim7 := { stood := { row := spanManyRow, standIns := [], harness := (true, "f5ea12a80560d8fa9604c3679e9d199598cb7a70da778bd3339ee409d0e21cac"), looks := false }, kinds := [], alts := [], laidByText := true, laidKinds := [.data], laidTests := true, laidLooks := .later }
def SpanManyCardSaid : Prop := Claim7.holds Tryd.pinned (.plain (OpenSpec.ofChange spanManySpec)) spanManyCard

/-- THE SECOND FORM's CARD OF 'teamsterlaw.TourTells'. -/
def tourTellsUptoCard : Claim7 := { stood := { row := tourTellsUptoRow, standIns := [], harness := (true, "f5ea12a80560d8fa9604c3679e9d199598cb7a70da778bd3339ee409d0e21cac"), looks := false }, kinds := [], alts := [], laidByText := true, laidKinds := [.data], laidTests := true, laidLooks := .later }
def TourTellsUptoCardSaid : Prop := Claim7.holds Tryd.pinned (.plain (OpenSpec.upto tourTellsSpec)) tourTellsUptoCard

/-- THE SECOND FORM's CARD OF 'teamsterlaw.MapsChecks'. -/
def mapsChecksUptoCard : Claim7 := { stood := { row := mapsChecksUptoRow, standIns := [], harness := (true, "f5ea12a80560d8fa9604c3679e9d199598cb7a70da778bd3339ee409d0e21cac"), looks := false }, kinds := [], alts := [], laidByText := true, laidKinds := [.data], laidTests := true, laidLooks := .later }
def MapsChecksUptoCardSaid : Prop := Claim7.holds Tryd.pinned (.plain (OpenSpec.upto mapsChecksSpec)) mapsChecksUptoCard

/-- THE SECOND FORM's CARD OF 'teamsterlaw.MapsFaces'. -/
def mapsFacesUptoCard : Claim7 := { stood := { row := mapsFacesUptoRow, standIns := [], harness := (true, "f5ea12a80560d8fa9604c3679e9d199598cb7a70da778bd3339ee409d0e21cac"), looks := false }, kinds := [], alts := [], laidByText := true, laidKinds := [.data], laidTests := true, laidLooks := .later }
def MapsFacesUptoCardSaid : Prop := Claim7.holds Tryd.pinned (.plain (OpenSpec.upto mapsFacesSpec)) mapsFacesUptoCard

/-- THE SECOND FORM's CARD OF 'teamsterlaw.MapsHoles'. -/
def mapsHolesUptoCard : Claim7 := { stood := { row := mapsHolesUptoRow, standIns := [], harness := (true, "f5ea12a80560d8fa9604c3679e9d199598cb7a70da778bd3339ee409d0e21cac"), looks := false }, kinds := [], alts := [], laidByText := true, laidKinds := [.data], laidTests := true, laidLooks := .later }
def MapsHolesUptoCardSaid : Prop := Claim7.holds Tryd.pinned (.plain (OpenSpec.upto mapsHolesSpec)) mapsHolesUptoCard

/-- THE SECOND FORM's CARD OF 'teamsterlaw.SpanMany'. -/
def spanManyUptoCard : Claim7 := { stood := { row := spanManyUptoRow, standIns := [], harness := (true, "f5ea12a80560d8fa9604c3679e9d199598cb7a70da778bd3339ee409d0e21cac"), looks := false }, kinds := [], alts := [], laidByText := true, laidKinds := [.data], laidTests := true, laidLooks := .later }
def SpanManyUptoCardSaid : Prop := Claim7.holds Tryd.pinned (.plain (OpenSpec.upto spanManySpec)) spanManyUptoCard
end Rows
end Go.Proofs.YtlflnfelhndohaaDoor
