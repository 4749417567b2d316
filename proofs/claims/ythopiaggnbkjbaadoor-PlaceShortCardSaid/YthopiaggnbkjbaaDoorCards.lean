/-
  DERIVED. GIVEN WITH THE SEED: THE CARDS: each row of YthopiaggnbkjbaaDoorRows.lean that lists a variable, with what it lists TIED to the program's text (the seventh form; the later family's looks); each row that meets fmt, with fmt's text TOLD by the authors' own Lean function (tested against real Go, not proved from fmt's source: count such statements apart). THE CARD IS WHAT COUNTS. Prove the row's statement (the work); the ties are given (YthopiaggnbkjbaaDoorTie.lean); close each card by the builder's one call (the guide's Derived/Test/ToyasCard.lean, 'card_holds'). Laid BY PROGRAM, IN A SANDBOX (cutbox-door.mjs). By AI agents, Wed Nov 11 2026. No macro, syntax, notation, axiom, sorry.
-/
import Derived.Test.YthopiaggnbkjbaaDoorRows
import GoSem.ClaimSeven
namespace Go.Proofs.YthopiaggnbkjbaaDoor
namespace Rows

/-- THE TIED CARD OF 'teamsterlaw.BeatsKings'. -/
def beatsKingsCard : Claim7 := { stood := { row := beatsKingsRow, standIns := [], harness := (true, "0ad7af763d014b95375a3553eea1fcb846f16403849b8596d119f419fbbae80e"), looks := false }, kinds := [], alts := [], laidByText := true, laidKinds := [.data], laidTests := true, laidLooks := .later }
def BeatsKingsCardSaid : Prop := Claim7.holds Tryd.pinned (.plain (OpenSpec.ofChange beatsKingsSpec)) beatsKingsCard

/-- THE TIED CARD OF 'teamsterlaw.PairsShort'. -/
def pairsShortCard : Claim7 := { stood := { row := pairsShortRow, standIns := [], harness := (true, "0ad7af763d014b95375a3553eea1fcb846f16403849b8596d119f419fbbae80e"), looks := false }, kinds := [], alts := [], laidByText := true, laidKinds := [.data], laidTests := true, laidLooks := .later }
def PairsShortCardSaid : Prop := Claim7.holds Tryd.pinned (.plain (OpenSpec.ofChange pairsShortSpec)) pairsShortCard

/-- THE TIED CARD OF 'teamsterlaw.PairsCovers'. -/
def pairsCoversCard : Claim7 := { stood := { row := pairsCoversRow, standIns := [], harness := (true, "0ad7af763d014b95375a3553eea1fcb846f16403849b8596d119f419fbbae80e"), looks := false }, kinds := [], alts := [], laidByText := true, laidKinds := [.data], laidTests := true, laidLooks := .later }
def PairsCoversCardSaid : Prop := Claim7.holds Tryd.pinned (.plain (OpenSpec.ofChange pairsCoversSpec)) pairsCoversCard

/-- THE TIED CARD OF 'teamsterlaw.BeatsRows'. -/
def beatsRowsCard : Claim7 := { stood := { row := beatsRowsRow, standIns := [], harness := (true, "0ad7af763d014b95375a3553eea1fcb846f16403849b8596d119f419fbbae80e"), looks := false }, kinds := [], alts := [], laidByText := true, laidKinds := [.data], laidTests := true, laidLooks := .later }
def BeatsRowsCardSaid : Prop := Claim7.holds Tryd.pinned (.plain (OpenSpec.ofChange beatsRowsSpec)) beatsRowsCard

/-- THE TIED CARD OF 'teamsterlaw.PlaceShort'. -/
def placeShortCard : Claim7 := { stood := { row := placeShortRow, standIns := [], harness := (true, "0ad7af763d014b95375a3553eea1fcb846f16403849b8596d119f419fbbae80e"), looks := false }, kinds := [], alts := [], laidByText := true, laidKinds := [.data], laidTests := true, laidLooks := .later }
def PlaceShortCardSaid : Prop := Claim7.holds Tryd.pinned (.plain (OpenSpec.ofChange placeShortSpec)) placeShortCard

/-- THE TIED CARD OF 'teamsterlaw.GraphParts'. -/
def graphPartsCard : Claim7 := { stood := { row := graphPartsRow, standIns := [], harness := (true, "0ad7af763d014b95375a3553eea1fcb846f16403849b8596d119f419fbbae80e"), looks := false }, kinds := [], alts := [], laidByText := true, laidKinds := [.data], laidTests := true, laidLooks := .later }
def GraphPartsCardSaid : Prop := Claim7.holds Tryd.pinned (.plain (OpenSpec.ofChange graphPartsSpec)) graphPartsCard

/-- THE TIED CARD OF 'teamsterlaw.BeatsRings'. -/
def beatsRingsCard : Claim7 := { stood := { row := beatsRingsRow, standIns := [], harness := (true, "0ad7af763d014b95375a3553eea1fcb846f16403849b8596d119f419fbbae80e"), looks := false }, kinds := [], alts := [], laidByText := true, laidKinds := [.data], laidTests := true, laidLooks := .later }
def BeatsRingsCardSaid : Prop := Claim7.holds Tryd.pinned (.plain (OpenSpec.ofChange beatsRingsSpec)) beatsRingsCard

/-- THE TIED CARD OF 'teamsterlaw.GraphDists'. -/
def graphDistsCard : Claim7 := { stood := { row := graphDistsRow, standIns := [], harness := (true, "0ad7af763d014b95375a3553eea1fcb846f16403849b8596d119f419fbbae80e"), looks := false }, kinds := [], alts := [], laidByText := true, laidKinds := [.data], laidTests := true, laidLooks := .later }
def GraphDistsCardSaid : Prop := Claim7.holds Tryd.pinned (.plain (OpenSpec.ofChange graphDistsSpec)) graphDistsCard

/-- THE TIED CARD OF 'teamsterlaw.SidesRings'. -/
def sidesRingsCard : Claim7 := { stood := { row := sidesRingsRow, standIns := [], harness := (true, "0ad7af763d014b95375a3553eea1fcb846f16403849b8596d119f419fbbae80e"), looks := false }, kinds := [], alts := [], laidByText := true, laidKinds := [.data], laidTests := true, laidLooks := .later }
def SidesRingsCardSaid : Prop := Claim7.holds Tryd.pinned (.plain (OpenSpec.ofChange sidesRingsSpec)) sidesRingsCard

/-- THE TIED CARD OF 'teamsterlaw.LotsRanks'. -/
def lotsRanksCard : Claim7 := { stood := { row := lotsRanksRow, standIns := [], harness := (true, "0ad7af763d014b95375a3553eea1fcb846f16403849b8596d119f419fbbae80e"), looks := false }, kinds := [], alts := [], laidByText := true, laidKinds := [.data], laidTests := true, laidLooks := .later }
def LotsRanksCardSaid : Prop := Claim7.holds Tryd.pinned (.plain (OpenSpec.ofChange lotsRanksSpec)) lotsRanksCard

/-- THE SECOND FORM's CARD OF 'teamsterlaw.BeatsKings'. -/
def beatsKingsUptoCard : Claim7 := { stood := { row := beatsKingsUptoRow, standIns := [], harness := (true, "0ad7af763d014b95375a3553eea1fcb846f16403849b8596d119f419fbbae80e"), looks := false }, kinds := [], alts := [], laidByText := true, laidKinds := [.data], laidTests := true, laidLooks := .later }
def BeatsKingsUptoCardSaid : Prop := Claim7.holds Tryd.pinned (.plain (OpenSpec.upto beatsKingsSpec)) beatsKingsUptoCard

/-- THE SECOND FORM's CARD OF 'teamsterlaw.PairsShort'. -/
def pairsShortUptoCard : Claim7 := { stood := { row := pairsShortUptoRow, standIns := [], harness := (true, "0ad7af763d014b95375a3553eea1fcb846f16403849b8596d119f419fbbae80e"), looks := false }, kinds := [], alts := [], laidByText := true, laidKinds := [.data], laidTests := true, laidLooks := .later }
def PairsShortUptoCardSaid : Prop := Claim7.holds Tryd.pinned (.plain (OpenSpec.upto pairsShortSpec)) pairsShortUptoCard

/-- THE SECOND FORM's CARD OF 'teamsterlaw.PairsCovers'. -/
def pairsCoversUptoCard : Claim7 := { stood := { row := pairsCoversUptoRow, standIns := [], harness := (true, "0ad7af763d014b95375a3553eea1fcb846f16403849b8596d119f419fbbae80e"), looks := false }, kinds := [], alts := [], laidByText := true, laidKinds := [.data], laidTests := true, laidLooks := .later }
def PairsCoversUptoCardSaid : Prop := Claim7.holds Tryd.pinned (.plain (OpenSpec.upto pairsCoversSpec)) pairsCoversUptoCard

/-- THE SECOND FORM's CARD OF 'teamsterlaw.BeatsRows'. -/
def beatsRowsUptoCard : Claim7 := { stood := { row := beatsRowsUptoRow, standIns := [], harness := (true, "0ad7af763d014b95375a3553eea1fcb846f16403849b8596d119f419fbbae80e"), looks := false }, kinds := [], alts := [], laidByText := true, laidKinds := [.data], laidTests := true, laidLooks := .later }
def BeatsRowsUptoCardSaid : Prop := Claim7.holds Tryd.pinned (.plain (OpenSpec.upto beatsRowsSpec)) beatsRowsUptoCard

/-- THE SECOND FORM's CARD OF 'teamsterlaw.PlaceShort'. -/
def placeShortUptoCard : Claim7 := { stood := { row := placeShortUptoRow, standIns := [], harness := (true, "0ad7af763d014b95375a3553eea1fcb846f16403849b8596d119f419fbbae80e"), looks := false }, kinds := [], alts := [], laidByText := true, laidKinds := [.data], laidTests := true, laidLooks := .later }
def PlaceShortUptoCardSaid : Prop := Claim7.holds Tryd.pinned (.plain (OpenSpec.upto placeShortSpec)) placeShortUptoCard

/-- THE SECOND FORM's CARD OF 'teamsterlaw.GraphParts'. -/
def graphPartsUptoCard : Claim7 := { stood := { row := graphPartsUptoRow, standIns := [], harness := (true, "0ad7af763d014b95375a3553eea1fcb846f16403849b8596d119f419fbbae80e"), looks := false }, kinds := [], alts := [], laidByText := true, laidKinds := [.data], laidTests := true, laidLooks := .later }
def GraphPartsUptoCardSaid : Prop := Claim7.holds Tryd.pinned (.plain (OpenSpec.upto graphPartsSpec)) graphPartsUptoCard

/-- THE SECOND FORM's CARD OF 'teamsterlaw.BeatsRings'. -/
def beatsRingsUptoCard : Claim7 := { stood := { row := beatsRingsUptoRow, standIns := [], harness := (true, "0ad7af763d014b95375a3553eea1fcb846f16403849b8596d119f419fbbae80e"), looks := false }, kinds := [], alts := [], laidByText := true, laidKinds := [.data], laidTests := true, laidLooks := .later }
def BeatsRingsUptoCardSaid : Prop := Claim7.holds Tryd.pinned (.plain (OpenSpec.upto beatsRingsSpec)) beatsRingsUptoCard

/-- THE SECOND FORM's CARD OF 'teamsterlaw.GraphDists'. -/
def graphDistsUptoCard : Claim7 := { stood := { row := graphDistsUptoRow, standIns := [], harness := (true, "0ad7af763d014b95375a3553eea1fcb846f16403849b8596d119f419fbbae80e"), looks := false }, kinds := [], alts := [], laidByText := true, laidKinds := [.data], laidTests := true, laidLooks := .later }
def GraphDistsUptoCardSaid : Prop := Claim7.holds Tryd.pinned (.plain (OpenSpec.upto graphDistsSpec)) graphDistsUptoCard

/-- THE SECOND FORM's CARD OF 'teamsterlaw.SidesRings'. -/
def sidesRingsUptoCard : Claim7 := { stood := { row := sidesRingsUptoRow, standIns := [], harness := (true, "0ad7af763d014b95375a3553eea1fcb846f16403849b8596d119f419fbbae80e"), looks := false }, kinds := [], alts := [], laidByText := true, laidKinds := [.data], laidTests := true, laidLooks := .later }
def SidesRingsUptoCardSaid : Prop := Claim7.holds Tryd.pinned (.plain (OpenSpec.upto sidesRingsSpec)) sidesRingsUptoCard

/-- THE SECOND FORM's CARD OF 'teamsterlaw.LotsRanks'. -/
def lotsRanksUptoCard : Claim7 := { stood := { row := lotsRanksUptoRow, standIns := [], harness := (true, "0ad7af763d014b95375a3553eea1fcb846f16403849b8596d119f419fbbae80e"), looks := false }, kinds := [], alts := [], laidByText := true, laidKinds := [.data], laidTests := true, laidLooks := .later }
def LotsRanksUptoCardSaid : Prop := Claim7.holds Tryd.pinned (.plain (OpenSpec.upto lotsRanksSpec)) lotsRanksUptoCard
end Rows
end Go.Proofs.YthopiaggnbkjbaaDoor
