/-
  DERIVED. GIVEN WITH THE SEED: THE CARDS: each row of YtjkfogkpacmdlaaDoorRows.lean that lists a variable, with what it lists TIED to the program's text (the seventh form; the later family's looks); each row that meets fmt, with fmt's text TOLD by the authors' own Lean function (tested against real Go, not proved from fmt's source: count such statements apart). THE CARD IS WHAT COUNTS. Prove the row's statement (the work); the ties are given (YtjkfogkpacmdlaaDoorTie.lean); close each card by the builder's one call (the guide's Derived/Test/ToyasCard.lean, 'card_holds'). Laid BY PROGRAM, IN A SANDBOX (cutbox-door.mjs). By AI agents, Wed Nov 11 2026. No macro, syntax, notation, axiom, sorry.
-/
import Derived.Test.YtjkfogkpacmdlaaDoorRows
import GoSem.ClaimSeven
namespace Go.Proofs.YtjkfogkpacmdlaaDoor
namespace Rows

/-- THE TIED CARD OF 'teamsterlaw.TourTells'. -/
def tourTellsCard : Claim7 := { stood := { row := tourTellsRow, standIns := [], harness := (true, "edca24082a629abe0e8b8850f2987852e745bef40e1a5580cd4797e903ebff9f"), looks := false }, kinds := [], alts := [], laidByText := true, laidKinds := [.data], laidTests := true, laidLooks := .later }
def TourTellsCardSaid : Prop := Claim7.holds Tryd.pinned (.plain (OpenSpec.ofChange tourTellsSpec)) tourTellsCard

/-- THE TIED CARD OF 'teamsterlaw.SpanMany'. -/
def spanManyCard : Claim7 := { stood := { row := spanManyRow, standIns := [], harness := (true, "edca24082a629abe0e8b8850f2987852e745bef40e1a5580cd4797e903ebff9f"), looks := false }, kinds := [], alts := [], laidByText := true, laidKinds := [.data], laidTests := true, laidLooks := .later }
def SpanManyCardSaid : Prop := Claim7.holds Tryd.pinned (.plain (OpenSpec.ofChange spanManySpec)) spanManyCard

/-- THE SECOND FORM's CARD OF 'teamsterlaw.TourTells'. -/
def tourTellsUptoCard : Claim7 := { stood := { row := tourTellsUptoRow, standIns := [], harness := (true, "edca24082a629abe0e8b8850f2987852e745bef40e1a5580cd4797e903ebff9f"), looks := false }, kinds := [], alts := [], laidByText := true, laidKinds := [.data], laidTests := true, laidLooks := .later }
def TourTellsUptoCardSaid : Prop := Claim7.holds Tryd.pinned (.plain (OpenSpec.upto tourTellsSpec)) tourTellsUptoCard

/-- THE SECOND FORM's CARD OF 'teamsterlaw.SpanMany'. -/
def spanManyUptoCard : Claim7 := { stood := { row := spanManyUptoRow, standIns := [], harness := (true, "edca24082a629abe0e8b8850f2987852e745bef40e1a5580cd4797e903ebff9f"), looks := false }, kinds := [], alts := [], laidByText := true, laidKinds := [.data], laidTests := true, laidLooks := .later }
def SpanManyUptoCardSaid : Prop := Claim7.holds Tryd.pinned (.plain (OpenSpec.upto spanManySpec)) spanManyUptoCard
end Rows
end Go.Proofs.YtjkfogkpacmdlaaDoor
