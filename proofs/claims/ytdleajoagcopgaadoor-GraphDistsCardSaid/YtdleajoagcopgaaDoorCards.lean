/-
  DERIVED. GIVEN WITH THE SEED: THE CARDS: each row of YtdleajoagcopgaaDoorRows.lean that lists a variable, with what it lists TIED to the program's text (the seventh form; the later family's looks); each row that meets fmt, with fmt's text TOLD by the authors' own Lean function (tested against real Go, not proved from fmt's source: count such statements apart). THE CARD IS WHAT COUNTS. Prove the row's statement (the work); the ties are given (YtdleajoagcopgaaDoorTie.lean); close each card by the builder's one call (the guide's Derived/Test/ToyasCard.lean, 'card_holds'). Laid BY PROGRAM, IN A SANDBOX (cutbox-door.mjs). By AI agents, Wed Nov 11 2026. No macro, syntax, notation, axiom, sorry.
-/
import Derived.Test.YtdleajoagcopgaaDoorRows
import GoSem.ClaimSeven
namespace Go.Proofs.YtdleajoagcopgaaDoor
namespace Rows

/-- THE TIED CARD OF 'teamsterlaw.GraphDists'. -/
def graphDistsCard : Claim7 := { stood := { row := graphDistsRow, standIns := [], harness := (true, "7b55af952bc8e05d999f6be4a912415b9bc3c84a95404f2747bd8ebf9b9d4f75"), looks := false }, kinds := [], alts := [], laidByText := true, laidKinds := [.data], laidTests := true, laidLooks := .later }
def GraphDistsCardSaid : Prop := Claim7.holds Tryd.pinned (.plain (OpenSpec.ofChange graphDistsSpec)) graphDistsCard

/-- THE TIED CARD OF 'teamsterlaw.GraphParts'. -/
def graphPartsCard : Claim7 := { stood := { row := graphPartsRow, standIns := [], harness := (true, "7b55af952bc8e05d999f6be4a912415b9bc3c84a95404f2747bd8ebf9b9d4f75"), looks := false }, kinds := [], alts := [], laidByText := true, laidKinds := [.data], laidTests := true, laidLooks := .later }
def GraphPartsCardSaid : Prop := Claim7.holds Tryd.pinned (.plain (OpenSpec.ofChange graphPartsSpec)) graphPartsCard

/-- THE TIED CARD OF 'teamsterlaw.PackFewest'. -/
def packFewestCard : Claim7 := { stood := { row := packFewestRow, standIns := [], harness := (true, "7b55af952bc8e05d999f6be4a912415b9bc3c84a95404f2747bd8ebf9b9d4f75"), looks := false }, kinds := [], alts := [], laidByText := true, laidKinds := [.data], laidTests := true, laidLooks := .later }
def PackFewestCardSaid : Prop := Claim7.holds Tryd.pinned (.plain (OpenSpec.ofChange packFewestSpec)) packFewestCard

/-- THE TIED CARD OF 'teamsterlaw.LotsRanks'. -/
def lotsRanksCard : Claim7 := { stood := { row := lotsRanksRow, standIns := [], harness := (true, "7b55af952bc8e05d999f6be4a912415b9bc3c84a95404f2747bd8ebf9b9d4f75"), looks := false }, kinds := [], alts := [], laidByText := true, laidKinds := [.data], laidTests := true, laidLooks := .later }
def LotsRanksCardSaid : Prop := Claim7.holds Tryd.pinned (.plain (OpenSpec.ofChange lotsRanksSpec)) lotsRanksCard

/-- THE TIED CARD OF 'teamsterlaw.SidesTells'. -/
def sidesTellsCard : Claim7 := { stood := { row := sidesTellsRow, standIns := [], harness := (true, "7b55af952bc8e05d999f6be4a912415b9bc3c84a95404f2747bd8ebf9b9d4f75"), looks := false }, kinds := [], alts := [], laidByText := true, laidKinds := [.data], laidTests := true, laidLooks := .later }
def SidesTellsCardSaid : Prop := Claim7.holds Tryd.pinned (.plain (OpenSpec.ofChange sidesTellsSpec)) sidesTellsCard

/-- THE SECOND FORM's CARD OF 'teamsterlaw.GraphDists'. -/
def graphDistsUptoCard : Claim7 := { stood := { row := graphDistsUptoRow, standIns := [], harness := (true, "7b55af952bc8e05d999f6be4a912415b9bc3c84a95404f2747bd8ebf9b9d4f75"), looks := false }, kinds := [], alts := [], laidByText := true, laidKinds := [.data], laidTests := true, laidLooks := .later }
def GraphDistsUptoCardSaid : Prop := Claim7.holds Tryd.pinned (.plain (OpenSpec.upto graphDistsSpec)) graphDistsUptoCard

/-- THE SECOND FORM's CARD OF 'teamsterlaw.GraphParts'. -/
def graphPartsUptoCard : Claim7 := { stood := { row := graphPartsUptoRow, standIns := [], harness := (true, "7b55af952bc8e05d999f6be4a912415b9bc3c84a95404f2747bd8ebf9b9d4f75"), looks := false }, kinds := [], alts := [], laidByText := true, laidKinds := [.data], laidTests := true, laidLooks := .later }
def GraphPartsUptoCardSaid : Prop := Claim7.holds Tryd.pinned (.plain (OpenSpec.upto graphPartsSpec)) graphPartsUptoCard

/-- THE SECOND FORM's CARD OF 'teamsterlaw.PackFewest'. -/
def packFewestUptoCard : Claim7 := { stood := { row := packFewestUptoRow, standIns := [], harness := (true, "7b55af952bc8e05d999f6be4a912415b9bc3c84a95404f2747bd8ebf9b9d4f75"), looks := false }, kinds := [], alts := [], laidByText := true, laidKinds := [.data], laidTests := true, laidLooks := .later }
def PackFewestUptoCardSaid : Prop := Claim7.holds Tryd.pinned (.plain (OpenSpec.upto packFewestSpec)) packFewestUptoCard

/-- THE SECOND FORM's CARD OF 'teamsterlaw.LotsRanks'. -/
def lotsRanksUptoCard : Claim7 := { stood := { row := lotsRanksUptoRow, standIns := [], harness := (true, "7b55af952bc8e05d999f6be4a912415b9bc3c84a95404f2747bd8ebf9b9d4f75"), looks := false }, kinds := [], alts := [], laidByText := true, laidKinds := [.data], laidTests := true, laidLooks := .later }
def LotsRanksUptoCardSaid : Prop := Claim7.holds Tryd.pinned (.plain (OpenSpec.upto lotsRanksSpec)) lotsRanksUptoCard

/-- THE SECOND FORM's CARD OF 'teamsterlaw.SidesTells'. -/
def sidesTellsUptoCard : Claim7 := { stood := { row := sidesTellsUptoRow, standIns := [], harness := (true, "7b55af952bc8e05d999f6be4a912415b9bc3c84a95404f2747bd8ebf9b9d4f75"), looks := false }, kinds := [], alts := [], laidByText := true, laidKinds := [.data], laidTests := true, laidLooks := .later }
def SidesTellsUptoCardSaid : Prop := Claim7.holds Tryd.pinned (.plain (OpenSpec.upto sidesTellsSpec)) sidesTellsUptoCard
end Rows
end Go.Proofs.YtdleajoagcopgaaDoor
