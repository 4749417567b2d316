/-
  NARROWER THAN 'FOR EVERY INPUT', by the rows' own cells (each row's printed sentence says how): PackFewest: laid · SidesTells: laid · SidesRings: laid · BeatsRows: laid · BeatsRings: laid · LotsRanks: laid · LotsCommons: laid · CircleRings: laid · BondsWalls: laid · LanesWalls: laid · ChordOrders: laid.
  DERIVED. THE GIVEN ROWS OF THIS SEAT. 11 by the template 'for every input the law returns true; each argument reads behind the call as it read before'; 0 by the template 'total and deterministic' (their statements: YtnpcbbdfpbnakaaDoorTotals.lean).
  GIVEN WITH THE SEED: the statements are not yours to turn. If you find one false, say at which input.
  Laid BY PROGRAM, IN A SANDBOX (cutbox-rows.mjs): the forced cells as the released guide's own fill.sh prints them over the translation 4808e3413014b05f… (all of the seat's roots in one cut). By AI agents, Wed Nov 11 2026. No macro, syntax, notation, axiom, sorry.
-/
import Derived.Test.YtnpcbbdfpbnakaaDoorChecked
import GoSem.Claim
import GoSem.ClaimJoined
import GoSem.ClaimMapViews
import Derived.JoinedTies
import Derived.KernelRfl
namespace Go.Proofs.YtnpcbbdfpbnakaaDoor
/- THE CELL 'sum', in the pinned program and in every row, IS THE sha256 OF THE DUMP (.gsa) THAT YtnpcbbdfpbnakaaDoorProg.lean LOADS. Nothing in Lean hashes anything: it is a label: what it is worth is what the hold of that sum in a sandbox is worth. -/
noncomputable def Tryd.pinned : Pinned := { name := "ytnpcbbdfpbnakaadoor", sum := "4808e3413014b05fb64082d2bac0b895d91fbfc13c9b1caa7be6b94ea408b27b", checked := Tryd.checked }
namespace Rows
def none {H : Type} : Left H := { results := [], args := [] }

/- WHAT THE LISTED PACKAGE-LEVEL VARIABLES READ AS WHEN THE CALL BEGINS. Each datum BY PROGRAM (the guide's laid-datum.mjs) off the statement by which the dump's own 'gosem.cut.vars' lays the variable. In a bare row this is a premise. The card (YtnpcbbdfpbnakaaDoorCards.lean) ties it to the program's text. -/
def laid_math_bits_deBruijn32tab {H : Type} : DataW H := .agg [.lit (.int .u8 0), .lit (.int .u8 1), .lit (.int .u8 28), .lit (.int .u8 2), .lit (.int .u8 29), .lit (.int .u8 14), .lit (.int .u8 24), .lit (.int .u8 3), .lit (.int .u8 30), .lit (.int .u8 22), .lit (.int .u8 20), .lit (.int .u8 15), .lit (.int .u8 25), .lit (.int .u8 17), .lit (.int .u8 4), .lit (.int .u8 8), .lit (.int .u8 31), .lit (.int .u8 27), .lit (.int .u8 13), .lit (.int .u8 23), .lit (.int .u8 21), .lit (.int .u8 19), .lit (.int .u8 16), .lit (.int .u8 7), .lit (.int .u8 26), .lit (.int .u8 12), .lit (.int .u8 18), .lit (.int .u8 6), .lit (.int .u8 11), .lit (.int .u8 5), .lit (.int .u8 10), .lit (.int .u8 9)]

/-- 'teamsterlaw.PackFewest': WHATEVER THE INPUT: true; the input reads as it did. -/
def packFewestSpec : ChangeSpec := { name := "packFewest", fn := fun _ => fun
  | [d1, d2] => { results := [.lit (.bool true)], args := [d1, d2] }
  | _ => none }
def packFewestRow : OpenClaim := { program := "ytnpcbbdfpbnakaadoor", sum := "4808e3413014b05fb64082d2bac0b895d91fbfc13c9b1caa7be6b94ea408b27b", func := "teamster/teamsterlaw.PackFewest", spec := "packFewest", unfollowed := true, recurses := true, named := ["math/bits.deBruijn32tab"], plainKeys := false, apart := false, laid := [("math/bits.deBruijn32tab", laid_math_bits_deBruijn32tab)] }
def PackFewestSaid : Prop := packFewestRow.holds Tryd.pinned (OpenSpec.ofChange packFewestSpec)

/-- ITS FALSE NEIGHBOUR: 'it returns false'. Refute it at one input. -/
def packFewestWrong : ChangeSpec := { name := "packFewest", fn := fun _ => fun
  | [d1, d2] => { results := [.lit (.bool false)], args := [d1, d2] }
  | _ => none }
def PackFewestWrongFalsely : Prop := packFewestRow.holds Tryd.pinned (OpenSpec.ofChange packFewestWrong)

/-- 'teamsterlaw.SidesTells': WHATEVER THE INPUT: true; the input reads as it did. -/
def sidesTellsSpec : ChangeSpec := { name := "sidesTells", fn := fun _ => fun
  | [d] => { results := [.lit (.bool true)], args := [d] }
  | _ => none }
def sidesTellsRow : OpenClaim := { program := "ytnpcbbdfpbnakaadoor", sum := "4808e3413014b05fb64082d2bac0b895d91fbfc13c9b1caa7be6b94ea408b27b", func := "teamster/teamsterlaw.SidesTells", spec := "sidesTells", unfollowed := true, recurses := true, named := ["math/bits.deBruijn32tab"], plainKeys := false, apart := false, laid := [("math/bits.deBruijn32tab", laid_math_bits_deBruijn32tab)] }
def SidesTellsSaid : Prop := sidesTellsRow.holds Tryd.pinned (OpenSpec.ofChange sidesTellsSpec)

/-- ITS FALSE NEIGHBOUR: 'it returns false'. Refute it at one input. -/
def sidesTellsWrong : ChangeSpec := { name := "sidesTells", fn := fun _ => fun
  | [d] => { results := [.lit (.bool false)], args := [d] }
  | _ => none }
def SidesTellsWrongFalsely : Prop := sidesTellsRow.holds Tryd.pinned (OpenSpec.ofChange sidesTellsWrong)

/-- 'teamsterlaw.SidesRings': WHATEVER THE INPUT: true; the input reads as it did. -/
def sidesRingsSpec : ChangeSpec := { name := "sidesRings", fn := fun _ => fun
  | [d] => { results := [.lit (.bool true)], args := [d] }
  | _ => none }
def sidesRingsRow : OpenClaim := { program := "ytnpcbbdfpbnakaadoor", sum := "4808e3413014b05fb64082d2bac0b895d91fbfc13c9b1caa7be6b94ea408b27b", func := "teamster/teamsterlaw.SidesRings", spec := "sidesRings", unfollowed := true, recurses := true, named := ["math/bits.deBruijn32tab"], plainKeys := false, apart := false, laid := [("math/bits.deBruijn32tab", laid_math_bits_deBruijn32tab)] }
def SidesRingsSaid : Prop := sidesRingsRow.holds Tryd.pinned (OpenSpec.ofChange sidesRingsSpec)

/-- ITS FALSE NEIGHBOUR: 'it returns false'. Refute it at one input. -/
def sidesRingsWrong : ChangeSpec := { name := "sidesRings", fn := fun _ => fun
  | [d] => { results := [.lit (.bool false)], args := [d] }
  | _ => none }
def SidesRingsWrongFalsely : Prop := sidesRingsRow.holds Tryd.pinned (OpenSpec.ofChange sidesRingsWrong)

/-- 'teamsterlaw.BeatsRows': WHATEVER THE INPUT: true; the input reads as it did. -/
def beatsRowsSpec : ChangeSpec := { name := "beatsRows", fn := fun _ => fun
  | [d] => { results := [.lit (.bool true)], args := [d] }
  | _ => none }
def beatsRowsRow : OpenClaim := { program := "ytnpcbbdfpbnakaadoor", sum := "4808e3413014b05fb64082d2bac0b895d91fbfc13c9b1caa7be6b94ea408b27b", func := "teamster/teamsterlaw.BeatsRows", spec := "beatsRows", unfollowed := true, recurses := true, named := ["math/bits.deBruijn32tab"], plainKeys := false, apart := false, laid := [("math/bits.deBruijn32tab", laid_math_bits_deBruijn32tab)] }
def BeatsRowsSaid : Prop := beatsRowsRow.holds Tryd.pinned (OpenSpec.ofChange beatsRowsSpec)

/-- ITS FALSE NEIGHBOUR: 'it returns false'. Refute it at one input. -/
def beatsRowsWrong : ChangeSpec := { name := "beatsRows", fn := fun _ => fun
  | [d] => { results := [.lit (.bool false)], args := [d] }
  | _ => none }
def BeatsRowsWrongFalsely : Prop := beatsRowsRow.holds Tryd.pinned (OpenSpec.ofChange beatsRowsWrong)

/-- 'teamsterlaw.BeatsRings': WHATEVER THE INPUT: true; the input reads as it did. -/
def beatsRingsSpec : ChangeSpec := { name := "beatsRings", fn := fun _ => fun
  | [d] => { results := [.lit (.bool true)], args := [d] }
  | _ => none }
def beatsRingsRow : OpenClaim := { program := "ytnpcbbdfpbnakaadoor", sum := "4808e3413014b05fb64082d2bac0b895d91fbfc13c9b1caa7be6b94ea408b27b", func := "teamster/teamsterlaw.BeatsRings", spec := "beatsRings", unfollowed := true, recurses := true, named := ["math/bits.deBruijn32tab"], plainKeys := false, apart := false, laid := [("math/bits.deBruijn32tab", laid_math_bits_deBruijn32tab)] }
def BeatsRingsSaid : Prop := beatsRingsRow.holds Tryd.pinned (OpenSpec.ofChange beatsRingsSpec)

/-- ITS FALSE NEIGHBOUR: 'it returns false'. Refute it at one input. -/
def beatsRingsWrong : ChangeSpec := { name := "beatsRings", fn := fun _ => fun
  | [d] => { results := [.lit (.bool false)], args := [d] }
  | _ => none }
def BeatsRingsWrongFalsely : Prop := beatsRingsRow.holds Tryd.pinned (OpenSpec.ofChange beatsRingsWrong)

/-- 'teamsterlaw.LotsRanks': WHATEVER THE INPUT: true; the input reads as it did. -/
def lotsRanksSpec : ChangeSpec := { name := "lotsRanks", fn := fun _ => fun
  | [d1, d2] => { results := [.lit (.bool true)], args := [d1, d2] }
  | _ => none }
def lotsRanksRow : OpenClaim := { program := "ytnpcbbdfpbnakaadoor", sum := "4808e3413014b05fb64082d2bac0b895d91fbfc13c9b1caa7be6b94ea408b27b", func := "teamster/teamsterlaw.LotsRanks", spec := "lotsRanks", unfollowed := true, recurses := true, named := ["math/bits.deBruijn32tab"], plainKeys := false, apart := false, laid := [("math/bits.deBruijn32tab", laid_math_bits_deBruijn32tab)] }
def LotsRanksSaid : Prop := lotsRanksRow.holds Tryd.pinned (OpenSpec.ofChange lotsRanksSpec)

/-- ITS FALSE NEIGHBOUR: 'it returns false'. Refute it at one input. -/
def lotsRanksWrong : ChangeSpec := { name := "lotsRanks", fn := fun _ => fun
  | [d1, d2] => { results := [.lit (.bool false)], args := [d1, d2] }
  | _ => none }
def LotsRanksWrongFalsely : Prop := lotsRanksRow.holds Tryd.pinned (OpenSpec.ofChange lotsRanksWrong)

/-- 'teamsterlaw.LotsCommons': WHATEVER THE INPUT: true; the input reads as it did. -/
def lotsCommonsSpec : ChangeSpec := { name := "lotsCommons", fn := fun _ => fun
  | [d1, d2] => { results := [.lit (.bool true)], args := [d1, d2] }
  | _ => none }
def lotsCommonsRow : OpenClaim := { program := "ytnpcbbdfpbnakaadoor", sum := "4808e3413014b05fb64082d2bac0b895d91fbfc13c9b1caa7be6b94ea408b27b", func := "teamster/teamsterlaw.LotsCommons", spec := "lotsCommons", unfollowed := true, recurses := true, named := ["math/bits.deBruijn32tab"], plainKeys := false, apart := false, laid := [("math/bits.deBruijn32tab", laid_math_bits_deBruijn32tab)] }
def LotsCommonsSaid : Prop := lotsCommonsRow.holds Tryd.pinned (OpenSpec.ofChange lotsCommonsSpec)

/-- ITS FALSE NEIGHBOUR: 'it returns false'. Refute it at one input. -/
def lotsCommonsWrong : ChangeSpec := { name := "lotsCommons", fn := fun _ => fun
  | [d1, d2] => { results := [.lit (.bool false)], args := [d1, d2] }
  | _ => none }
def LotsCommonsWrongFalsely : Prop := lotsCommonsRow.holds Tryd.pinned (OpenSpec.ofChange lotsCommonsWrong)

/-- 'teamsterlaw.CircleRings': WHATEVER THE INPUT: true; the input reads as it did. -/
def circleRingsSpec : ChangeSpec := { name := "circleRings", fn := fun _ => fun
  | [d] => { results := [.lit (.bool true)], args := [d] }
  | _ => none }
def circleRingsRow : OpenClaim := { program := "ytnpcbbdfpbnakaadoor", sum := "4808e3413014b05fb64082d2bac0b895d91fbfc13c9b1caa7be6b94ea408b27b", func := "teamster/teamsterlaw.CircleRings", spec := "circleRings", unfollowed := true, recurses := true, named := ["math/bits.deBruijn32tab"], plainKeys := false, apart := false, laid := [("math/bits.deBruijn32tab", laid_math_bits_deBruijn32tab)] }
def CircleRingsSaid : Prop := circleRingsRow.holds Tryd.pinned (OpenSpec.ofChange circleRingsSpec)

/-- ITS FALSE NEIGHBOUR: 'it returns false'. Refute it at one input. -/
def circleRingsWrong : ChangeSpec := { name := "circleRings", fn := fun _ => fun
  | [d] => { results := [.lit (.bool false)], args := [d] }
  | _ => none }
def CircleRingsWrongFalsely : Prop := circleRingsRow.holds Tryd.pinned (OpenSpec.ofChange circleRingsWrong)

/-- 'teamsterlaw.BondsWalls': WHATEVER THE INPUT: true; the input reads as it did. -/
def bondsWallsSpec : ChangeSpec := { name := "bondsWalls", fn := fun _ => fun
  | [d] => { results := [.lit (.bool true)], args := [d] }
  | _ => none }
def bondsWallsRow : OpenClaim := { program := "ytnpcbbdfpbnakaadoor", sum := "4808e3413014b05fb64082d2bac0b895d91fbfc13c9b1caa7be6b94ea408b27b", func := "teamster/teamsterlaw.BondsWalls", spec := "bondsWalls", unfollowed := true, recurses := true, named := ["math/bits.deBruijn32tab"], plainKeys := false, apart := false, laid := [("math/bits.deBruijn32tab", laid_math_bits_deBruijn32tab)] }
def BondsWallsSaid : Prop := bondsWallsRow.holds Tryd.pinned (OpenSpec.ofChange bondsWallsSpec)

/-- ITS FALSE NEIGHBOUR: 'it returns false'. Refute it at one input. -/
def bondsWallsWrong : ChangeSpec := { name := "bondsWalls", fn := fun _ => fun
  | [d] => { results := [.lit (.bool false)], args := [d] }
  | _ => none }
def BondsWallsWrongFalsely : Prop := bondsWallsRow.holds Tryd.pinned (OpenSpec.ofChange bondsWallsWrong)

/-- 'teamsterlaw.LanesWalls': WHATEVER THE INPUT: true; the input reads as it did. -/
def lanesWallsSpec : ChangeSpec := { name := "lanesWalls", fn := fun _ => fun
  | [d1, d2, d3] => { results := [.lit (.bool true)], args := [d1, d2, d3] }
  | _ => none }
def lanesWallsRow : OpenClaim := { program := "ytnpcbbdfpbnakaadoor", sum := "4808e3413014b05fb64082d2bac0b895d91fbfc13c9b1caa7be6b94ea408b27b", func := "teamster/teamsterlaw.LanesWalls", spec := "lanesWalls", unfollowed := true, recurses := true, named := ["math/bits.deBruijn32tab"], plainKeys := false, apart := false, laid := [("math/bits.deBruijn32tab", laid_math_bits_deBruijn32tab)] }
def LanesWallsSaid : Prop := lanesWallsRow.holds Tryd.pinned (OpenSpec.ofChange lanesWallsSpec)

/-- ITS FALSE NEIGHBOUR: 'it returns false'. Refute it at one input. -/
def lanesWallsWrong : ChangeSpec := { name := "lanesWalls", fn := fun _ => fun
  | [d1, d2, d3] => { results := [.lit (.bool false)], args := [d1, d2, d3] }
  | _ => none }
def LanesWallsWrongFalsely : Prop := lanesWallsRow.holds Tryd.pinned (OpenSpec.ofChange lanesWallsWrong)

/-- 'teamsterlaw.ChordOrders': WHATEVER THE INPUT: true; the input reads as it did. -/
def chordOrdersSpec : ChangeSpec := { name := "chordOrders", fn := fun _ => fun
  | [d] => { results := [.lit (.bool true)], args := [d] }
  | _ => none }
def chordOrdersRow : OpenClaim := { program := "ytnpcbbdfpbnakaadoor", sum := "4808e3413014b05fb64082d2bac0b895d91fbfc13c9b1caa7be6b94ea408b27b", func := "teamster/teamsterlaw.ChordOrders", spec := "chordOrders", unfollowed := true, recurses := true, named := ["math/bits.deBruijn32tab"], plainKeys := false, apart := false, laid := [("math/bits.deBruijn32tab", laid_math_bits_deBruijn32tab)] }
def ChordOrdersSaid : Prop := chordOrdersRow.holds Tryd.pinned (OpenSpec.ofChange chordOrdersSpec)

/-- ITS FALSE NEIGHBOUR: 'it returns false'. Refute it at one input. -/
def chordOrdersWrong : ChangeSpec := { name := "chordOrders", fn := fun _ => fun
  | [d] => { results := [.lit (.bool false)], args := [d] }
  | _ => none }
def ChordOrdersWrongFalsely : Prop := chordOrdersRow.holds Tryd.pinned (OpenSpec.ofChange chordOrdersWrong)

/- THE SECOND FORM. 'bulk': how many values and letters a reading holds, each counted each time it is reached (what is shared counts as often as it is met; a slice's spare places count too). A statement '..UptoSaid' is the law's where the arguments, and the package variables that the reading takes, are together of bulk at most 1048576: NARROWER than '..Said'. Prove '..Said' where nothing that the law and all that it calls make is longer than what came in: it says more and counts as full. Else prove '..UptoSaid'. A law counts once. -/
mutual
def uptoBulk {H : Type} : DataW H → Nat
  | .lit (.string bytes) => bytes.length + 1
  | .lit _ => 1
  | .nil => 1
  | .ptr d => uptoBulk d + 1
  | .slice elems spare => uptoBulkAll elems + uptoBulkAll spare + 1
  | .agg parts => uptoBulkAll parts + 1
  | .iface _ d => uptoBulk d + 1
  | .map entries => uptoBulkEntries entries + 1
  | .held _ => 1
def uptoBulkAll {H : Type} : List (DataW H) → Nat
  | [] => 0
  | d :: r => uptoBulk d + uptoBulkAll r
def uptoBulkEntries {H : Type} : List (Lit × DataW H) → Nat
  | [] => 0
  | x :: r => uptoBulkEntry x + uptoBulkEntries r
def uptoBulkEntry {H : Type} : Lit × DataW H → Nat
  | (.string bytes, d) => bytes.length + uptoBulk d + 1
  | (_, d) => uptoBulk d + 1
 end
def uptoSmall : (H : Type) → List (DataW H) → Bool := fun _ ds => decide (uptoBulkAll ds ≤ 1048576)
def OpenSpec.upto (s : _root_.Go.ChangeSpec) : _root_.Go.OpenSpec := { _root_.Go.OpenSpec.ofChange s with cond := some uptoSmall }

/-- 'teamsterlaw.PackFewest', WHERE WHAT IT READS IS OF BULK AT MOST 1048576: true; the input reads as it did. -/
def packFewestUptoRow : OpenClaim := { program := "ytnpcbbdfpbnakaadoor", sum := "4808e3413014b05fb64082d2bac0b895d91fbfc13c9b1caa7be6b94ea408b27b", func := "teamster/teamsterlaw.PackFewest", spec := "packFewest", unfollowed := true, recurses := true, named := ["math/bits.deBruijn32tab"], plainKeys := false, apart := false, laid := [("math/bits.deBruijn32tab", laid_math_bits_deBruijn32tab)], narrowed := true }
def PackFewestUptoSaid : Prop := packFewestUptoRow.holds Tryd.pinned (OpenSpec.upto packFewestSpec)

/-- 'teamsterlaw.SidesTells', WHERE WHAT IT READS IS OF BULK AT MOST 1048576: true; the input reads as it did. -/
def sidesTellsUptoRow : OpenClaim := { program := "ytnpcbbdfpbnakaadoor", sum := "4808e3413014b05fb64082d2bac0b895d91fbfc13c9b1caa7be6b94ea408b27b", func := "teamster/teamsterlaw.SidesTells", spec := "sidesTells", unfollowed := true, recurses := true, named := ["math/bits.deBruijn32tab"], plainKeys := false, apart := false, laid := [("math/bits.deBruijn32tab", laid_math_bits_deBruijn32tab)], narrowed := true }
def SidesTellsUptoSaid : Prop := sidesTellsUptoRow.holds Tryd.pinned (OpenSpec.upto sidesTellsSpec)

/-- 'teamsterlaw.SidesRings', WHERE WHAT IT READS IS OF BULK AT MOST 1048576: true; the input reads as it did. -/
def sidesRingsUptoRow : OpenClaim := { program := "ytnpcbbdfpbnakaadoor", sum := "4808e3413014b05fb64082d2bac0b895d91fbfc13c9b1caa7be6b94ea408b27b", func := "teamster/teamsterlaw.SidesRings", spec := "sidesRings", unfollowed := true, recurses := true, named := ["math/bits.deBruijn32tab"], plainKeys := false, apart := false, laid := [("math/bits.deBruijn32tab", laid_math_bits_deBruijn32tab)], narrowed := true }
def SidesRingsUptoSaid : Prop := sidesRingsUptoRow.holds Tryd.pinned (OpenSpec.upto sidesRingsSpec)

/-- 'teamsterlaw.BeatsRows', WHERE WHAT IT READS IS OF BULK AT MOST 1048576: true; the input reads as it did. -/
def beatsRowsUptoRow : OpenClaim := { program := "ytnpcbbdfpbnakaadoor", sum := "4808e3413014b05fb64082d2bac0b895d91fbfc13c9b1caa7be6b94ea408b27b", func := "teamster/teamsterlaw.BeatsRows", spec := "beatsRows", unfollowed := true, recurses := true, named := ["math/bits.deBruijn32tab"], plainKeys := false, apart := false, laid := [("math/bits.deBruijn32tab", laid_math_bits_deBruijn32tab)], narrowed := true }
def BeatsRowsUptoSaid : Prop := beatsRowsUptoRow.holds Tryd.pinned (OpenSpec.upto beatsRowsSpec)

/-- 'teamsterlaw.BeatsRings', WHERE WHAT IT READS IS OF BULK AT MOST 1048576: true; the input reads as it did. -/
def beatsRingsUptoRow : OpenClaim := { program := "ytnpcbbdfpbnakaadoor", sum := "4808e3413014b05fb64082d2bac0b895d91fbfc13c9b1caa7be6b94ea408b27b", func := "teamster/teamsterlaw.BeatsRings", spec := "beatsRings", unfollowed := true, recurses := true, named := ["math/bits.deBruijn32tab"], plainKeys := false, apart := false, laid := [("math/bits.deBruijn32tab", laid_math_bits_deBruijn32tab)], narrowed := true }
def BeatsRingsUptoSaid : Prop := beatsRingsUptoRow.holds Tryd.pinned (OpenSpec.upto beatsRingsSpec)

/-- 'teamsterlaw.LotsRanks', WHERE WHAT IT READS IS OF BULK AT MOST 1048576: true; the input reads as it did. -/
def lotsRanksUptoRow : OpenClaim := { program := "ytnpcbbdfpbnakaadoor", sum := "4808e3413014b05fb64082d2bac0b895d91fbfc13c9b1caa7be6b94ea408b27b", func := "teamster/teamsterlaw.LotsRanks", spec := "lotsRanks", unfollowed := true, recurses := true, named := ["math/bits.deBruijn32tab"], plainKeys := false, apart := false, laid := [("math/bits.deBruijn32tab", laid_math_bits_deBruijn32tab)], narrowed := true }
def LotsRanksUptoSaid : Prop := lotsRanksUptoRow.holds Tryd.pinned (OpenSpec.upto lotsRanksSpec)

/-- 'teamsterlaw.LotsCommons', WHERE WHAT IT READS IS OF BULK AT MOST 1048576: true; the input reads as it did. -/
def lotsCommonsUptoRow : OpenClaim := { program := "ytnpcbbdfpbnakaadoor", sum := "4808e3413014b05fb64082d2bac0b895d91fbfc13c9b1caa7be6b94ea408b27b", func := "teamster/teamsterlaw.LotsCommons", spec := "lotsCommons", unfollowed := true, recurses := true, named := ["math/bits.deBruijn32tab"], plainKeys := false, apart := false, laid := [("math/bits.deBruijn32tab", laid_math_bits_deBruijn32tab)], narrowed := true }
def LotsCommonsUptoSaid : Prop := lotsCommonsUptoRow.holds Tryd.pinned (OpenSpec.upto lotsCommonsSpec)

/-- 'teamsterlaw.CircleRings', WHERE WHAT IT READS IS OF BULK AT MOST 1048576: true; the input reads as it did. -/
def circleRingsUptoRow : OpenClaim := { program := "ytnpcbbdfpbnakaadoor", sum := "4808e3413014b05fb64082d2bac0b895d91fbfc13c9b1caa7be6b94ea408b27b", func := "teamster/teamsterlaw.CircleRings", spec := "circleRings", unfollowed := true, recurses := true, named := ["math/bits.deBruijn32tab"], plainKeys := false, apart := false, laid := [("math/bits.deBruijn32tab", laid_math_bits_deBruijn32tab)], narrowed := true }
def CircleRingsUptoSaid : Prop := circleRingsUptoRow.holds Tryd.pinned (OpenSpec.upto circleRingsSpec)

/-- 'teamsterlaw.BondsWalls', WHERE WHAT IT READS IS OF BULK AT MOST 1048576: true; the input reads as it did. -/
def bondsWallsUptoRow : OpenClaim := { program := "ytnpcbbdfpbnakaadoor", sum := "4808e3413014b05fb64082d2bac0b895d91fbfc13c9b1caa7be6b94ea408b27b", func := "teamster/teamsterlaw.BondsWalls", spec := "bondsWalls", unfollowed := true, recurses := true, named := ["math/bits.deBruijn32tab"], plainKeys := false, apart := false, laid := [("math/bits.deBruijn32tab", laid_math_bits_deBruijn32tab)], narrowed := true }
def BondsWallsUptoSaid : Prop := bondsWallsUptoRow.holds Tryd.pinned (OpenSpec.upto bondsWallsSpec)

/-- 'teamsterlaw.LanesWalls', WHERE WHAT IT READS IS OF BULK AT MOST 1048576: true; the input reads as it did. -/
def lanesWallsUptoRow : OpenClaim := { program := "ytnpcbbdfpbnakaadoor", sum := "4808e3413014b05fb64082d2bac0b895d91fbfc13c9b1caa7be6b94ea408b27b", func := "teamster/teamsterlaw.LanesWalls", spec := "lanesWalls", unfollowed := true, recurses := true, named := ["math/bits.deBruijn32tab"], plainKeys := false, apart := false, laid := [("math/bits.deBruijn32tab", laid_math_bits_deBruijn32tab)], narrowed := true }
def LanesWallsUptoSaid : Prop := lanesWallsUptoRow.holds Tryd.pinned (OpenSpec.upto lanesWallsSpec)

/-- 'teamsterlaw.ChordOrders', WHERE WHAT IT READS IS OF BULK AT MOST 1048576: true; the input reads as it did. -/
def chordOrdersUptoRow : OpenClaim := { program := "ytnpcbbdfpbnakaadoor", sum := "4808e3413014b05fb64082d2bac0b895d91fbfc13c9b1caa7be6b94ea408b27b", func := "teamster/teamsterlaw.ChordOrders", spec := "chordOrders", unfollowed := true, recurses := true, named := ["math/bits.deBruijn32tab"], plainKeys := false, apart := false, laid := [("math/bits.deBruijn32tab", laid_math_bits_deBruijn32tab)], narrowed := true }
def ChordOrdersUptoSaid : Prop := chordOrdersUptoRow.holds Tryd.pinned (OpenSpec.upto chordOrdersSpec)

end Rows
end Go.Proofs.YtnpcbbdfpbnakaaDoor
