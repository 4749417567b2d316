/-
  DERIVED. GIVEN WITH THE SEED: THE CARDS: each row of YtbbdiondhnmnaaaDoorRows.lean that lists a variable, with what it lists TIED to the program's text (the seventh form; the later family's looks); each row that meets fmt, with fmt's text TOLD by the authors' own Lean function (tested against real Go, not proved from fmt's source: count such statements apart). THE CARD IS WHAT COUNTS. Prove the row's statement (the work); the ties are given (YtbbdiondhnmnaaaDoorTie.lean); close each card by the builder's one call (the guide's Derived/Test/ToyasCard.lean, 'card_holds'). Laid BY PROGRAM, IN A SANDBOX (cutbox-door.mjs). By AI agents, Wed Nov 11 2026. No macro, syntax, notation, axiom, sorry.
-/
import Derived.Test.YtbbdiondhnmnaaaDoorRows
import GoSem.ClaimSeven
namespace Go.Proofs.YtbbdiondhnmnaaaDoor
namespace Rows

/-- THE TIED CARD OF 'teamsterlaw.SpanMany'. -/
def spanManyCard : Claim7 := { stood := { row := spanManyRow, standIns := [], harness := (true, "dfc308c952b31fcce18e8018c4d1ba1b9160bc09b370466e46d60fecd2c2334b"), looks := false }, kinds := [], alts := [], laidByText := true, laidKinds := [.data], laidTests := true, laidLooks := .later }
def SpanManyCardSaid : Prop := Claim7.holds Tryd.pinned (.plain (OpenSpec.ofChange spanManySpec)) spanManyCard

/-- THE SECOND FORM's CARD OF 'teamsterlaw.SpanMany'. -/
def spanManyUptoCard : Claim7 := { stood := { row := spanManyUptoRow, standIns := [], harness := (true, "dfc308c952b31fcce18e8018c4d1ba1b9160bc09b370466e46d60fecd2c2334b"), looks := false }, kinds := [], alts := [], laidByText := true, laidKinds := [.data], laidTests := true, laidLooks := .later }
def SpanManyUptoCardSaid : Prop := Claim7.holds Tryd.pinned (.plain (OpenSpec.upto spanManySpec)) spanManyUptoCard
end Rows
end Go.Proofs.YtbbdiondhnmnaaaDoor
