/-
  DERIVED. GIVEN WITH THE SEED: THE CARDS: each row of YtnpcbbdfpbnakaaDoorRows.lean that lists a variable, with what it lists TIED to the program's text (the seventh form; the later family's looks); each row that meets fmt, with fmt's text TOLD by the authors' own Lean function (tested against real Go, not proved from fmt's source: count such statements apart). THE CARD IS WHAT COUNTS. Prove the row's statement (the work); the ties are given (YtnpcbbdfpbnakaaDoorTie.lean); close each card by the builder's one call (the guide's Derived/Test/ToyasCard.lean, 'card_holds'). Laid BY PROGRAM, IN A SANDBOX (cutbox-door.mjs). By AI agents, Wed Nov 11 2026. No macro, syntax, notation, axiom, sorry.
-/
import Derived.Test.YtnpcbbdfpbnakaaDoorRows
import GoSem.ClaimSeven
namespace Go.Proofs.YtnpcbbdfpbnakaaDoor
namespace Rows

/-- THE TIED CARD OF 'teamsterlaw.PackFewest'. -/
def packFewestCard : Claim7 := { stood := { row := packFewestRow, standIns := [], harness := (true, "03414313e14862c1047af04739227468940e2a1e16b84131528c0f2a600bb4b9"), looks := false }, kinds := [], alts := [], laidByText := true, laidKinds := [.data], laidTests := true, laidLooks := .later }
def PackFewestCardSaid : Prop := Claim7.holds Tryd.pinned (.plain (OpenSpec.ofChange packFewestSpec)) packFewestCard

/-- THE TIED CARD OF 'teamsterlaw.SidesTells'. -/
def sidesTellsCard : Claim7 := { stood := { row := sidesTellsRow, standIns := [], harness := (true, "03414313e14862c1047af04739227468940e2a1e16b84131528c0f2a600bb4b9"), looks := false }, kinds := [], alts := [], laidByText := true, laidKinds := [.data], laidTests := true, laidLooks := .later }
def SidesTellsCardSaid : Prop := Claim7.holds Tryd.pinned (.plain (OpenSpec.ofChange sidesTellsSpec)) sidesTellsCard

/-- THE TIED CARD OF 'teamsterlaw.SidesRings'. -/
def sidesRingsCard : Claim7 := { stood := { row := sidesRingsRow, standIns := [], harness := (true, "03414313e14862c1047af04739227468940e2a1e16b84131528c0f2a600bb4b9"), looks := false }, kinds := [], alts := [], laidByText := true, laidKinds := [.data], laidTests := true, laidLooks := .later }
def SidesRingsCardSaid : Prop := Claim7.holds Tryd.pinned (.plain (OpenSpec.ofChange sidesRingsSpec)) sidesRingsCard

/-- THE TIED CARD OF 'teamsterlaw.BeatsRows'. -/
def beatsRowsCard : Claim7 := { stood := { row := beatsRowsRow, standIns := [], harness := (true, "03414313e14862c1047af04739227468940e2a1e16b84131528c0f2a600bb4b9"), looks := false }, kinds := [], alts := [], laidByText := true, laidKinds := [.data], laidTests := true, laidLooks := .later }
def BeatsRowsCardSaid : Prop := Claim7.holds Tryd.pinned (.plain (OpenSpec.ofChange beatsRowsSpec)) beatsRowsCard

/-- THE TIED CARD OF 'teamsterlaw.BeatsRings'. -/
def beatsRingsCard : Claim7 := { stood := { row := beatsRingsRow, standIns := [], harness := (true, "03414313e14862c1047af04739227468940e2a1e16b84131528c0f2a600bb4b9"), looks := false }, kinds := [], alts := [], laidByText := true, laidKinds := [.data], laidTests := true, laidLooks := .later }
def BeatsRingsCardSaid : Prop := Claim7.holds Tryd.pinned (.plain (OpenSpec.ofChange beatsRingsSpec)) beatsRingsCard

/-- THE TIED CARD OF 'teamsterlaw.LotsRanks'. -/
def lotsRanksCard : Claim7 := { stood := { row := lotsRanksRow, standIns := [], harness := (true, "03414313e14862c1047af04739227468940e2a1e16b84131528c0f2a600bb4b9"), looks := false }, kinds := [], alts := [], laidByText := true, laidKinds := [.data], laidTests := true, laidLooks := .later }
def LotsRanksCardSaid : Prop := Claim7.holds Tryd.pinned (.plain (OpenSpec.ofChange lotsRanksSpec)) lotsRanksCard

/-- THE TIED CARD OF 'teamsterlaw.LotsCommons'. -/
def lotsCommonsCard : Claim7 := { stood := { row := lotsCommonsRow, standIns := [], harness := (true, "03414313e14862c1047af04739227468940e2a1e16b84131528c0f2a600bb4b9"), looks := false }, kinds := [], alts := [], laidByText := true, laidKinds := [.data], laidTests := true, laidLooks := .later }
def LotsCommonsCardSaid : Prop := Claim7.holds Tryd.pinned (.plain (OpenSpec.ofChange lotsCommonsSpec)) lotsCommonsCard

/-- THE TIED CARD OF 'teamsterlaw.CircleRings'. -/
def circleRingsCard : Claim7 := { stood := { row := circleRingsRow, standIns := [], harness := (true, "03414313e14862c1047af04739227468940e2a1e16b84131528c0f2a600bb4b9"), looks := false }, kinds := [], alts := [], laidByText := true, laidKinds := [.data], laidTests := true, laidLooks := .later }
def CircleRingsCardSaid : Prop := Claim7.holds Tryd.pinned (.plain (OpenSpec.ofChange circleRingsSpec)) circleRingsCard

/-- THE TIED CARD OF 'teamsterlaw.BondsWalls'. -/
def bondsWallsCard : Claim7 := { stood := { row := bondsWallsRow, standIns := [], harness := (true, "03414313e14862c1047af04739227468940e2a1e16b84131528c0f2a600bb4b9"), looks := false }, kinds := [], alts := [], laidByText := true, laidKinds := [.data], laidTests := true, laidLooks := .later }
def BondsWallsCardSaid : Prop := Claim7.holds Tryd.pinned (.plain (OpenSpec.ofChange bondsWallsSpec)) bondsWallsCard

/-- THE TIED CARD OF 'teamsterlaw.LanesWalls'. -/
def lanesWallsCard : Claim7 := { stood := { row := lanesWallsRow, standIns := [], harness := (true, "03414313e14862c1047af04739227468940e2a1e16b84131528c0f2a600bb4b9"), looks := false }, kinds := [], alts := [], laidByText := true, laidKinds := [.data], laidTests := true, laidLooks := .later }
def LanesWallsCardSaid : Prop := Claim7.holds Tryd.pinned (.plain (OpenSpec.ofChange lanesWallsSpec)) lanesWallsCard

/-- THE TIED CARD OF 'teamsterlaw.ChordOrders'. -/
def chordOrdersCard : Claim7 := { stood := { row := chordOrdersRow, standIns := [], harness := (true, "03414313e14862c1047af04739227468940e2a1e16b84131528c0f2a600bb4b9"), looks := false }, kinds := [], alts := [], laidByText := true, laidKinds := [.data], laidTests := true, laidLooks := .later }
def ChordOrdersCardSaid : Prop := Claim7.holds Tryd.pinned (.plain (OpenSpec.ofChange chordOrdersSpec)) chordOrdersCard

/-- THE SECOND FORM's CARD OF 'teamsterlaw.PackFewest'. -/
def packFewestUptoCard : Claim7 := { stood := { row := packFewestUptoRow, standIns := [], harness := (true, "03414313e14862c1047af04739227468940e2a1e16b84131528c0f2a600bb4b9"), looks := false }, kinds := [], alts := [], laidByText := true, laidKinds := [.data], laidTests := true, laidLooks := .later }
def PackFewestUptoCardSaid : Prop := Claim7.holds Tryd.pinned (.plain (OpenSpec.upto packFewestSpec)) packFewestUptoCard

/-- THE SECOND FORM's CARD OF 'teamsterlaw.SidesTells'. -/
def sidesTellsUptoCard : Claim7 := { stood := { row := sidesTellsUptoRow, standIns := [], harness := (true, "03414313e14862c1047af04739227468940e2a1e16b84131528c0f2a600bb4b9"), looks := false }, kinds := [], alts := [], laidByText := true, laidKinds := [.data], laidTests := true, laidLooks := .later }
def SidesTellsUptoCardSaid : Prop := Claim7.holds Tryd.pinned (.plain (OpenSpec.upto sidesTellsSpec)) sidesTellsUptoCard

/-- THE SECOND FORM's CARD OF 'teamsterlaw.SidesRings'. -/
def sidesRingsUptoCard : Claim7 := { stood := { row := sidesRingsUptoRow, standIns := [], harness := (true, "03414313e14862c1047af04739227468940e2a1e16b84131528c0f2a600bb4b9"), looks := false }, kinds := [], alts := [], laidByText := true, laidKinds := [.data], laidTests := true, laidLooks := .later }
def SidesRingsUptoCardSaid : Prop := Claim7.holds Tryd.pinned (.plain (OpenSpec.upto sidesRingsSpec)) sidesRingsUptoCard

/-- THE SECOND FORM's CARD OF 'teamsterlaw.BeatsRows'. -/
def beatsRowsUptoCard : Claim7 := { stood := { row := beatsRowsUptoRow, standIns := [], harness := (true, "03414313e14862c1047af04739227468940e2a1e16b84131528c0f2a600bb4b9"), looks := false }, kinds := [], alts := [], laidByText := true, laidKinds := [.data], laidTests := true, laidLooks := .later }
def BeatsRowsUptoCardSaid : Prop := Claim7.holds Tryd.pinned (.plain (OpenSpec.upto beatsRowsSpec)) beatsRowsUptoCard

/-- THE SECOND FORM's CARD OF 'teamsterlaw.BeatsRings'. -/
def beatsRingsUptoCard : Claim7 := { stood := { row := beatsRingsUptoRow, standIns := [], harness := (true, "03414313e14862c1047af04739227468940e2a1e16b84131528c0f2a600bb4b9"), looks := false }, kinds := [], alts := [], laidByText := true, laidKinds := [.data], laidTests := true, laidLooks := .later }
def BeatsRingsUptoCardSaid : Prop := Claim7.holds Tryd.pinned (.plain (OpenSpec.upto beatsRingsSpec)) beatsRingsUptoCard

/-- THE SECOND FORM's CARD OF 'teamsterlaw.LotsRanks'. -/
def lotsRanksUptoCard : Claim7 := { stood := { row := lotsRanksUptoRow, standIns := [], harness := (true, "03414313e14862c1047af04739227468940e2a1e16b84131528c0f2a600bb4b9"), looks := false }, kinds := [], alts := [], laidByText := true, laidKinds := [.data], laidTests := true, laidLooks := .later }
def LotsRanksUptoCardSaid : Prop := Claim7.holds Tryd.pinned (.plain (OpenSpec.upto lotsRanksSpec)) lotsRanksUptoCard

/-- THE SECOND FORM's CARD OF 'teamsterlaw.LotsCommons'. -/
def lotsCommonsUptoCard : Claim7 := { stood := { row := lotsCommonsUptoRow, standIns := [], harness := (true, "03414313e14862c1047af04739227468940e2a1e16b84131528c0f2a600bb4b9"), looks := false }, kinds := [], alts := [], laidByText := true, laidKinds := [.data], laidTests := true, laidLooks := .later }
def LotsCommonsUptoCardSaid : Prop := Claim7.holds Tryd.pinned (.plain (OpenSpec.upto lotsCommonsSpec)) lotsCommonsUptoCard

/-- THE SECOND FORM's CARD OF 'teamsterlaw.CircleRings'. -/
def circleRingsUptoCard : Claim7 := { stood := { row := circleRingsUptoRow, standIns := [], harness := (true, "03414313e14862c1047af04739227468940e2a1e16b84131528c0f2a600bb4b9"), looks := false }, kinds := [], alts := [], laidByText := true, laidKinds := [.data], laidTests := true, laidLooks := .later }
def CircleRingsUptoCardSaid : Prop := Claim7.holds Tryd.pinned (.plain (OpenSpec.upto circleRingsSpec)) circleRingsUptoCard

/-- THE SECOND FORM's CARD OF 'teamsterlaw.BondsWalls'. -/
def bondsWallsUptoCard : Claim7 := { stood := { row := bondsWallsUptoRow, standIns := [], harness := (true, "03414313e14862c1047af04739227468940e2a1e16b84131528c0f2a600bb4b9"), looks := false }, kinds := [], alts := [], laidByText := true, laidKinds := [.data], laidTests := true, laidLooks := .later }
def BondsWallsUptoCardSaid : Prop := Claim7.holds Tryd.pinned (.plain (OpenSpec.upto bondsWallsSpec)) bondsWallsUptoCard

/-- THE SECOND FORM's CARD OF 'teamsterlaw.LanesWalls'. -/
def lanesWallsUptoCard : Claim7 := { stood := { row := lanesWallsUptoRow, standIns := [], harness := (true, "03414313e14862c1047af04739227468940e2a1e16b84131528c0f2a600bb4b9"), looks := false }, kinds := [], alts := [], laidByText := true, laidKinds := [.data], laidTests := true, laidLooks := .later }
def LanesWallsUptoCardSaid : Prop := Claim7.holds Tryd.pinned (.plain (OpenSpec.upto lanesWallsSpec)) lanesWallsUptoCard

/-- THE SECOND FORM's CARD OF 'teamsterlaw.ChordOrders'. -/
def chordOrdersUptoCard : Claim7 := { stood := { row := chordOrdersUptoRow, standIns := [], harness := (true, "03414313e14862c1047af04739227468940e2a1e16b84131528c0f2a600bb4b9"), looks := false }, kinds := [], alts := [], laidByText := true, laidKinds := [.data], laidTests := true, laidLooks := .later }
def ChordOrdersUptoCardSaid : Prop := Claim7.holds Tryd.pinned (.plain (OpenSpec.upto chordOrdersSpec)) chordOrdersUptoCard
end Rows
end Go.Proofs.YtnpcbbdfpbnakaaDoor
