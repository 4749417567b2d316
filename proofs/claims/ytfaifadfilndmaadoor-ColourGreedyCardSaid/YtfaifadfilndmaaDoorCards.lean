/-
  DERIVED. GIVEN WITH THE SEED: THE CARDS: each row of YtfaifadfilndmaaDoorRows.lean that lists a variable, with what it lists TIED to the program's text (the seventh form; the later family's looks); each row that meets fmt, with fmt's text TOLD by the authors' own Lean function (tested against real Go, not proved from fmt's source: count such statements apart). THE CARD IS WHAT COUNTS. Prove the row's statement (the work); the ties are given (YtfaifadfilndmaaDoorTie.lean); close each card by the builder's one call (the guide's Derived/Test/ToyasCard.lean, 'card_holds'). Laid BY PROGRAM, IN A SANDBOX (cutbox-door.mjs). By AI agents, Wed Nov 11 2026. No macro, syntax, notation, axiom, sorry.
-/
import Derived.Test.YtfaifadfilndmaaDoorRows
import GoSem.ClaimSeven
namespace Go.Proofs.YtfaifadfilndmaaDoor
namespace Rows

/-- THE TIED CARD OF 'teamsterlaw.ColourTurns'. -/
def colourTurnsCard : Claim7 := { stood := { row := colourTurnsRow, standIns := [], harness := (true, "2d4a3136d122ddc6c2d3bd51d7a804595cd8fc6c4d5be616715256a4003946fb"), looks := false }, kinds := [], alts := [], laidByText := true, laidKinds := [.data], laidTests := true, laidLooks := .later }
def ColourTurnsCardSaid : Prop := Claim7.holds Tryd.pinned (.plain (OpenSpec.ofChange colourTurnsSpec)) colourTurnsCard

/-- THE TIED CARD OF 'teamsterlaw.BondsMost'. -/
def bondsMostCard : Claim7 := { stood := { row := bondsMostRow, standIns := [], harness := (true, "2d4a3136d122ddc6c2d3bd51d7a804595cd8fc6c4d5be616715256a4003946fb"), looks := false }, kinds := [], alts := [], laidByText := true, laidKinds := [.data], laidTests := true, laidLooks := .later }
def BondsMostCardSaid : Prop := Claim7.holds Tryd.pinned (.plain (OpenSpec.ofChange bondsMostSpec)) bondsMostCard

/-- THE TIED CARD OF 'teamsterlaw.SpanCodes'. -/
def spanCodesCard : Claim7 := { stood := { row := spanCodesRow, standIns := [], harness := (true, "2d4a3136d122ddc6c2d3bd51d7a804595cd8fc6c4d5be616715256a4003946fb"), looks := false }, kinds := [], alts := [], laidByText := true, laidKinds := [.data], laidTests := true, laidLooks := .later }
def SpanCodesCardSaid : Prop := Claim7.holds Tryd.pinned (.plain (OpenSpec.ofChange spanCodesSpec)) spanCodesCard

/-- THE TIED CARD OF 'teamsterlaw.ChordRings'. -/
def chordRingsCard : Claim7 := { stood := { row := chordRingsRow, standIns := [], harness := (true, "2d4a3136d122ddc6c2d3bd51d7a804595cd8fc6c4d5be616715256a4003946fb"), looks := false }, kinds := [], alts := [], laidByText := true, laidKinds := [.data], laidTests := true, laidLooks := .later }
def ChordRingsCardSaid : Prop := Claim7.holds Tryd.pinned (.plain (OpenSpec.ofChange chordRingsSpec)) chordRingsCard

/-- THE TIED CARD OF 'teamsterlaw.PairsMost'. -/
def pairsMostCard : Claim7 := { stood := { row := pairsMostRow, standIns := [], harness := (true, "2d4a3136d122ddc6c2d3bd51d7a804595cd8fc6c4d5be616715256a4003946fb"), looks := false }, kinds := [], alts := [], laidByText := true, laidKinds := [.data], laidTests := true, laidLooks := .later }
def PairsMostCardSaid : Prop := Claim7.holds Tryd.pinned (.plain (OpenSpec.ofChange pairsMostSpec)) pairsMostCard

/-- THE TIED CARD OF 'teamsterlaw.PackFewest'. -/
def packFewestCard : Claim7 := { stood := { row := packFewestRow, standIns := [], harness := (true, "2d4a3136d122ddc6c2d3bd51d7a804595cd8fc6c4d5be616715256a4003946fb"), looks := false }, kinds := [], alts := [], laidByText := true, laidKinds := [.data], laidTests := true, laidLooks := .later }
def PackFewestCardSaid : Prop := Claim7.holds Tryd.pinned (.plain (OpenSpec.ofChange packFewestSpec)) packFewestCard

/-- THE TIED CARD OF 'teamsterlaw.ColourGreedy'. -/
def colourGreedyCard : Claim7 := { stood := { row := colourGreedyRow, standIns := [], harness := (true, "2d4a3136d122ddc6c2d3bd51d7a804595cd8fc6c4d5be616715256a4003946fb"), looks := false }, kinds := [], alts := [], laidByText := true, laidKinds := [.data], laidTests := true, laidLooks := .later }
def ColourGreedyCardSaid : Prop := Claim7.holds Tryd.pinned (.plain (OpenSpec.ofChange colourGreedySpec)) colourGreedyCard

/-- THE TIED CARD OF 'teamsterlaw.ColourLeast'. -/
def colourLeastCard : Claim7 := { stood := { row := colourLeastRow, standIns := [], harness := (true, "2d4a3136d122ddc6c2d3bd51d7a804595cd8fc6c4d5be616715256a4003946fb"), looks := false }, kinds := [], alts := [], laidByText := true, laidKinds := [.data], laidTests := true, laidLooks := .later }
def ColourLeastCardSaid : Prop := Claim7.holds Tryd.pinned (.plain (OpenSpec.ofChange colourLeastSpec)) colourLeastCard

/-- THE TIED CARD OF 'teamsterlaw.ColourCounts'. -/
def colourCountsCard : Claim7 := { stood := { row := colourCountsRow, standIns := [], harness := (true, "2d4a3136d122ddc6c2d3bd51d7a804595cd8fc6c4d5be616715256a4003946fb"), looks := false }, kinds := [], alts := [], laidByText := true, laidKinds := [.data], laidTests := true, laidLooks := .later }
def ColourCountsCardSaid : Prop := Claim7.holds Tryd.pinned (.plain (OpenSpec.ofChange colourCountsSpec)) colourCountsCard

/-- THE SECOND FORM's CARD OF 'teamsterlaw.ColourTurns'. -/
def colourTurnsUptoCard : Claim7 := { stood := { row := colourTurnsUptoRow, standIns := [], harness := (true, "2d4a3136d122ddc6c2d3bd51d7a804595cd8fc6c4d5be616715256a4003946fb"), looks := false }, kinds := [], alts := [], laidByText := true, laidKinds := [.data], laidTests := true, laidLooks := .later }
def ColourTurnsUptoCardSaid : Prop := Claim7.holds Tryd.pinned (.plain (OpenSpec.upto colourTurnsSpec)) colourTurnsUptoCard

/-- THE SECOND FORM's CARD OF 'teamsterlaw.BondsMost'. -/
def bondsMostUptoCard : Claim7 := { stood := { row := bondsMostUptoRow, standIns := [], harness := (true, "2d4a3136d122ddc6c2d3bd51d7a804595cd8fc6c4d5be616715256a4003946fb"), looks := false }, kinds := [], alts := [], laidByText := true, laidKinds := [.data], laidTests := true, laidLooks := .later }
def BondsMostUptoCardSaid : Prop := Claim7.holds Tryd.pinned (.plain (OpenSpec.upto bondsMostSpec)) bondsMostUptoCard

/-- THE SECOND FORM's CARD OF 'teamsterlaw.SpanCodes'. -/
def spanCodesUptoCard : Claim7 := { stood := { row := spanCodesUptoRow, standIns := [], harness := (true, "2d4a3136d122ddc6c2d3bd51d7a804595cd8fc6c4d5be616715256a4003946fb"), looks := false }, kinds := [], alts := [], laidByText := true, laidKinds := [.data], laidTests := true, laidLooks := .later }
def SpanCodesUptoCardSaid : Prop := Claim7.holds Tryd.pinned (.plain (OpenSpec.upto spanCodesSpec)) spanCodesUptoCard

/-- THE SECOND FORM's CARD OF 'teamsterlaw.ChordRings'. -/
def chordRingsUptoCard : Claim7 := { stood := { row := chordRingsUptoRow, standIns := [], harness := (true, "2d4a3136d122ddc6c2d3bd51d7a804595cd8fc6c4d5be616715256a4003946fb"), looks := false }, kinds := [], alts := [], laidByText := true, laidKinds := [.data], laidTests := true, laidLooks := .later }
def ChordRingsUptoCardSaid : Prop := Claim7.holds Tryd.pinned (.plain (OpenSpec.upto chordRingsSpec)) chordRingsUptoCard

/-- THE SECOND FORM's CARD OF 'teamsterlaw.PairsMost'. -/
def pairsMostUptoCard : Claim7 := { stood := { row := pairsMostUptoRow, standIns := [], harness := (true, "2d4a3136d122ddc6c2d3bd51d7a804595cd8fc6c4d5be616715256a4003946fb"), looks := false }, kinds := [], alts := [], laidByText := true, laidKinds := [.data], laidTests := true, laidLooks := .later }
def PairsMostUptoCardSaid : Prop := Claim7.holds Tryd.pinned (.plain (OpenSpec.upto pairsMostSpec)) pairsMostUptoCard

/-- THE SECOND FORM's CARD OF 'teamsterlaw.PackFewest'. -/
def packFewestUptoCard : Claim7 := { stood := { row := packFewestUptoRow, standIns := [], harness := (true, "2d4a3136d122ddc6c2d3bd51d7a804595cd8fc6c4d5be616715256a4003946fb"), looks := false }, kinds := [], alts := [], laidByText := true, laidKinds := [.data], laidTests := true, laidLooks := .later }
def PackFewestUptoCardSaid : Prop := Claim7.holds Tryd.pinned (.plain (OpenSpec.upto packFewestSpec)) packFewestUptoCard

/-- THE SECOND FORM's CARD OF 'teamsterlaw.ColourGreedy'. -/
def colourGreedyUptoCard : Claim7 := { stood := { row := colourGreedyUptoRow, standIns := [], harness := (true, "2d4a3136d122ddc6c2d3bd51d7a804595cd8fc6c4d5be616715256a4003946fb"), looks := false }, kinds := [], alts := [], laidByText := true, laidKinds := [.data], laidTests := true, laidLooks := .later }
def ColourGreedyUptoCardSaid : Prop := Claim7.holds Tryd.pinned (.plain (OpenSpec.upto colourGreedySpec)) colourGreedyUptoCard

/-- THE SECOND FORM's CARD OF 'teamsterlaw.ColourLeast'. -/
def colourLeastUptoCard : Claim7 := { stood := { row := colourLeastUptoRow, standIns := [], harness := (true, "2d4a3136d122ddc6c2d3bd51d7a804595cd8fc6c4d5be616715256a4003946fb"), looks := false }, kinds := [], alts := [], laidByText := true, laidKinds := [.data], laidTests := true, laidLooks := .later }
def ColourLeastUptoCardSaid : Prop := Claim7.holds Tryd.pinned (.plain (OpenSpec.upto colourLeastSpec)) colourLeastUptoCard

/-- THE SECOND FORM's CARD OF 'teamsterlaw.ColourCounts'. -/
def colourCountsUptoCard : Claim7 := { stood := { row := colourCountsUptoRow, standIns := [], harness := (true, "2d4a3136d122ddc6c2d3bd51d7a804595cd8fc6c4d5be616715256a4003946fb"), looks := false }, kinds := [], alts := [], laidByText := true, laidKinds := [.data], laidTests := true, laidLooks := .later }
def ColourCountsUptoCardSaid : Prop := Claim7.holds Tryd.pinned (.plain (OpenSpec.upto colourCountsSpec)) colourCountsUptoCard
end Rows
end Go.Proofs.YtfaifadfilndmaaDoor
