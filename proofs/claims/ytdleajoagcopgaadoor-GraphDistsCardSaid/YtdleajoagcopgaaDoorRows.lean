/-
  NARROWER THAN 'FOR EVERY INPUT', by the rows' own cells (each row's printed sentence says how): GraphDists: laid · GraphParts: laid · PackFewest: laid · LotsRanks: laid · SidesTells: laid.
  DERIVED. THE GIVEN ROWS OF THIS SEAT. 5 by the template 'for every input the law returns true; each argument reads behind the call as it read before'; 0 by the template 'total and deterministic' (their statements: YtdleajoagcopgaaDoorTotals.lean).
  GIVEN WITH THE SEED: the statements are not yours to turn. If you find one false, say at which input.
  Laid BY PROGRAM, IN A SANDBOX (cutbox-rows.mjs): the forced cells as the released guide's own fill.sh prints them over the translation f3710964e3df8eba… (all of the seat's roots in one cut). By AI agents, Wed Nov 11 2026. No macro, syntax, notation, axiom, sorry.
-/
import Derived.Test.YtdleajoagcopgaaDoorChecked
import GoSem.Claim
import GoSem.ClaimJoined
import GoSem.ClaimMapViews
import Derived.JoinedTies
import Derived.KernelRfl
namespace Go.Proofs.YtdleajoagcopgaaDoor
/- THE CELL 'sum', in the pinned program and in every row, IS THE sha256 OF THE DUMP (.gsa) THAT YtdleajoagcopgaaDoorProg.lean LOADS. Nothing in Lean hashes anything: it is a label: what it is worth is what the hold of that sum in a sandbox is worth. -/
noncomputable def Tryd.pinned : Pinned := { name := "ytdleajoagcopgaadoor", sum := "f3710964e3df8eba96311bf31478afd6082ad109bf772d259623963346c7c8f9", checked := Tryd.checked }
namespace Rows
def none {H : Type} : Left H := { results := [], args := [] }

/- WHAT THE LISTED PACKAGE-LEVEL VARIABLES READ AS WHEN THE CALL BEGINS. Each datum BY PROGRAM (the guide's laid-datum.mjs) off the statement by which the dump's own 'gosem.cut.vars' lays the variable. In a bare row this is a premise. The card (YtdleajoagcopgaaDoorCards.lean) ties it to the program's text. -/
def laid_math_bits_deBruijn32tab {H : Type} : DataW H := .agg [.lit (.int .u8 0), .lit (.int .u8 1), .lit (.int .u8 28), .lit (.int .u8 2), .lit (.int .u8 29), .lit (.int .u8 14), .lit (.int .u8 24), .lit (.int .u8 3), .lit (.int .u8 30), .lit (.int .u8 22), .lit (.int .u8 20), .lit (.int .u8 15), .lit (.int .u8 25), .lit (.int .u8 17), .lit (.int .u8 4), .lit (.int .u8 8), .lit (.int .u8 31), .lit (.int .u8 27), .lit (.int .u8 13), .lit (.int .u8 23), .lit (.int .u8 21), .lit (.int .u8 19), .lit (.int .u8 16), .lit (.int .u8 7), .lit (.int .u8 26), .lit (.int .u8 12), .lit (.int .u8 18), .lit (.int .u8 6), .lit (.int .u8 11), .lit (.int .u8 5), .lit (.int .u8 10), .lit (.int .u8 9)]

/-- 'teamsterlaw.GraphDists': WHATEVER THE INPUT: true; the input reads as it did. -/
def graphDistsSpec : ChangeSpec := { name := "graphDists", fn := fun _ => fun
  | [d] => { results := [.lit (.bool true)], args := [d] }
  | _ => none }
def graphDistsRow : OpenClaim := { program := "ytdleajoagcopgaadoor", sum := "f3710964e3df8eba96311bf31478afd6082ad109bf772d259623963346c7c8f9", func := "teamster/teamsterlaw.GraphDists", spec := "graphDists", unfollowed := true, recurses := true, named := ["math/bits.deBruijn32tab"], plainKeys := false, apart := false, laid := [("math/bits.deBruijn32tab", laid_math_bits_deBruijn32tab)] }
def GraphDistsSaid : Prop := graphDistsRow.holds Tryd.pinned (OpenSpec.ofChange graphDistsSpec)

/-- ITS FALSE NEIGHBOUR: 'it returns false'. Refute it at one input. -/
def graphDistsWrong : ChangeSpec := { name := "graphDists", fn := fun _ => fun
  | [d] => { results := [.lit (.bool false)], args := [d] }
  | _ => none }
def GraphDistsWrongFalsely : Prop := graphDistsRow.holds Tryd.pinned (OpenSpec.ofChange graphDistsWrong)

/-- 'teamsterlaw.GraphParts': WHATEVER THE INPUT: true; the input reads as it did. -/
def graphPartsSpec : ChangeSpec := { name := "graphParts", fn := fun _ => fun
  | [d] => { results := [.lit (.bool true)], args := [d] }
  | _ => none }
def graphPartsRow : OpenClaim := { program := "ytdleajoagcopgaadoor", sum := "f3710964e3df8eba96311bf31478afd6082ad109bf772d259623963346c7c8f9", func := "teamster/teamsterlaw.GraphParts", spec := "graphParts", unfollowed := true, recurses := true, named := ["math/bits.deBruijn32tab"], plainKeys := false, apart := false, laid := [("math/bits.deBruijn32tab", laid_math_bits_deBruijn32tab)] }
def GraphPartsSaid : Prop := graphPartsRow.holds Tryd.pinned (OpenSpec.ofChange graphPartsSpec)

/-- ITS FALSE NEIGHBOUR: 'it returns false'. Refute it at one input. -/
def graphPartsWrong : ChangeSpec := { name := "graphParts", fn := fun _ => fun
  | [d] => { results := [.lit (.bool false)], args := [d] }
  | _ => none }
def GraphPartsWrongFalsely : Prop := graphPartsRow.holds Tryd.pinned (OpenSpec.ofChange graphPartsWrong)

/-- 'teamsterlaw.PackFewest': WHATEVER THE INPUT: true; the input reads as it did. -/
def packFewestSpec : ChangeSpec := { name := "packFewest", fn := fun _ => fun
  | [d1, d2] => { results := [.lit (.bool true)], args := [d1, d2] }
  | _ => none }
def packFewestRow : OpenClaim := { program := "ytdleajoagcopgaadoor", sum := "f3710964e3df8eba96311bf31478afd6082ad109bf772d259623963346c7c8f9", func := "teamster/teamsterlaw.PackFewest", spec := "packFewest", unfollowed := true, recurses := true, named := ["math/bits.deBruijn32tab"], plainKeys := false, apart := false, laid := [("math/bits.deBruijn32tab", laid_math_bits_deBruijn32tab)] }
def PackFewestSaid : Prop := packFewestRow.holds Tryd.pinned (OpenSpec.ofChange packFewestSpec)

/-- ITS FALSE NEIGHBOUR: 'it returns false'. Refute it at one input. -/
def packFewestWrong : ChangeSpec := { name := "packFewest", fn := fun _ => fun
  | [d1, d2] => { results := [.lit (.bool false)], args := [d1, d2] }
  | _ => none }
def PackFewestWrongFalsely : Prop := packFewestRow.holds Tryd.pinned (OpenSpec.ofChange packFewestWrong)

/-- 'teamsterlaw.LotsRanks': WHATEVER THE INPUT: true; the input reads as it did. -/
def lotsRanksSpec : ChangeSpec := { name := "lotsRanks", fn := fun _ => fun
  | [d1, d2] => { results := [.lit (.bool true)], args := [d1, d2] }
  | _ => none }
def lotsRanksRow : OpenClaim := { program := "ytdleajoagcopgaadoor", sum := "f3710964e3df8eba96311bf31478afd6082ad109bf772d259623963346c7c8f9", func := "teamster/teamsterlaw.LotsRanks", spec := "lotsRanks", unfollowed := true, recurses := true, named := ["math/bits.deBruijn32tab"], plainKeys := false, apart := false, laid := [("math/bits.deBruijn32tab", laid_math_bits_deBruijn32tab)] }
def LotsRanksSaid : Prop := lotsRanksRow.holds Tryd.pinned (OpenSpec.ofChange lotsRanksSpec)

/-- ITS FALSE NEIGHBOUR: 'it returns false'. Refute it at one input. -/
def lotsRanksWrong : ChangeSpec := { name := "lotsRanks", fn := fun _ => fun
  | [d1, d2] => { results := [.lit (.bool false)], args := [d1, d2] }
  | _ => none }
def LotsRanksWrongFalsely : Prop := lotsRanksRow.holds Tryd.pinned (OpenSpec.ofChange lotsRanksWrong)

/-- 'teamsterlaw.SidesTells': WHATEVER THE INPUT: true; the input reads as it did. -/
def sidesTellsSpec : ChangeSpec := { name := "sidesTells", fn := fun _ => fun
  | [d] => { results := [.lit (.bool true)], args := [d] }
  | _ => none }
def sidesTellsRow : OpenClaim := { program := "ytdleajoagcopgaadoor", sum := "f3710964e3df8eba96311bf31478afd6082ad109bf772d259623963346c7c8f9", func := "teamster/teamsterlaw.SidesTells", spec := "sidesTells", unfollowed := true, recurses := true, named := ["math/bits.deBruijn32tab"], plainKeys := false, apart := false, laid := [("math/bits.deBruijn32tab", laid_math_bits_deBruijn32tab)] }
def SidesTellsSaid : Prop := sidesTellsRow.holds Tryd.pinned (OpenSpec.ofChange sidesTellsSpec)

/-- ITS FALSE NEIGHBOUR: 'it returns false'. Refute it at one input. -/
def sidesTellsWrong : ChangeSpec := { name := "sidesTells", fn := fun _ => fun
  | [d] => { results := [.lit (.bool false)], args := [d] }
  | _ => none }
def SidesTellsWrongFalsely : Prop := sidesTellsRow.holds Tryd.pinned (OpenSpec.ofChange sidesTellsWrong)

/- THE SECOND FORM. 'bulk': how many values and letters a reading holds, each counted each time it is reached (what is shared counts as often as it is met; a slice's spare places count too). A statement '..UptoSaid' is the law's where the arguments, and the package variables that the reading takes, are together of bulk at most 1048576: NARROWER than '..Said'. Prove '..Said' where nothing that the law and all that it calls make is longer than what came in: it says more and counts as full. Else prove '..UptoSaid'. A law counts once. -/
mutual
def uptoBulk {H : Type} : DataW H → Nat
  | .lit (.string bytes) => bytes.length + 1
  | .lit _ => 1
  | .nil => 1
  | .ptr d => uptoBulk d + 1
  | .slice elems spare => uptoBulkAll elems + uptoBulkAll spare + 1
  | .agg parts => uptoBulkAll parts + 1
  | .iface _ d => uptoBulk d + 1
  | .map entries => uptoBulkEntries entries + 1
  | .held _ => 1
def uptoBulkAll {H : Type} : List (DataW H) → Nat
  | [] => 0
  | d :: r => uptoBulk d + uptoBulkAll r
def uptoBulkEntries {H : Type} : List (Lit × DataW H) → Nat
  | [] => 0
  | x :: r => uptoBulkEntry x + uptoBulkEntries r
def uptoBulkEntry {H : Type} : Lit × DataW H → Nat
  | (.string bytes, d) => bytes.length + uptoBulk d + 1
  | (_, d) => uptoBulk d + 1
 end
def uptoSmall : (H : Type) → List (DataW H) → Bool := fun _ ds => decide (uptoBulkAll ds ≤ 1048576)
def OpenSpec.upto (s : _root_.Go.ChangeSpec) : _root_.Go.OpenSpec := { _root_.Go.OpenSpec.ofChange s with cond := some uptoSmall }

/-- 'teamsterlaw.GraphDists', WHERE WHAT IT READS IS OF BULK AT MOST 1048576: true; the input reads as it did. -/
def graphDistsUptoRow : OpenClaim := { program := "ytdleajoagcopgaadoor", sum := "f3710964e3df8eba96311bf31478afd6082ad109bf772d259623963346c7c8f9", func := "teamster/teamsterlaw.GraphDists", spec := "graphDists", unfollowed := true, recurses := true, named := ["math/bits.deBruijn32tab"], plainKeys := false, apart := false, laid := [("math/bits.deBruijn32tab", laid_math_bits_deBruijn32tab)], narrowed := true }
def GraphDistsUptoSaid : Prop := graphDistsUptoRow.holds Tryd.pinned (OpenSpec.upto graphDistsSpec)

/-- 'teamsterlaw.GraphParts', WHERE WHAT IT READS IS OF BULK AT MOST 1048576: true; the input reads as it did. -/
def graphPartsUptoRow : OpenClaim := { program := "ytdleajoagcopgaadoor", sum := "f3710964e3df8eba96311bf31478afd6082ad109bf772d259623963346c7c8f9", func := "teamster/teamsterlaw.GraphParts", spec := "graphParts", unfollowed := true, recurses := true, named := ["math/bits.deBruijn32tab"], plainKeys := false, apart := false, laid := [("math/bits.deBruijn32tab", laid_math_bits_deBruijn32tab)], narrowed := true }
def GraphPartsUptoSaid : Prop := graphPartsUptoRow.holds Tryd.pinned (OpenSpec.upto graphPartsSpec)

/-- 'teamsterlaw.PackFewest', WHERE WHAT IT READS IS OF BULK AT MOST 1048576: true; the input reads as it did. -/
def packFewestUptoRow : OpenClaim := { program := "ytdleajoagcopgaadoor", sum := "f3710964e3df8eba96311bf31478afd6082ad109bf772d259623963346c7c8f9", func := "teamster/teamsterlaw.PackFewest", spec := "packFewest", unfollowed := true, recurses := true, named := ["math/bits.deBruijn32tab"], plainKeys := false, apart := false, laid := [("math/bits.deBruijn32tab", laid_math_bits_deBruijn32tab)], narrowed := true }
def PackFewestUptoSaid : Prop := packFewestUptoRow.holds Tryd.pinned (OpenSpec.upto packFewestSpec)

/-- 'teamsterlaw.LotsRanks', WHERE WHAT IT READS IS OF BULK AT MOST 1048576: true; the input reads as it did. -/
def lotsRanksUptoRow : OpenClaim := { program := "ytdleajoagcopgaadoor", sum := "f3710964e3df8eba96311bf31478afd6082ad109bf772d259623963346c7c8f9", func := "teamster/teamsterlaw.LotsRanks", spec := "lotsRanks", unfollowed := true, recurses := true, named := ["math/bits.deBruijn32tab"], plainKeys := false, apart := false, laid := [("math/bits.deBruijn32tab", laid_math_bits_deBruijn32tab)], narrowed := true }
def LotsRanksUptoSaid : Prop := lotsRanksUptoRow.holds Tryd.pinned (OpenSpec.upto lotsRanksSpec)

/-- 'teamsterlaw.SidesTells', WHERE WHAT IT READS IS OF BULK AT MOST 1048576: true; the input reads as it did. -/
def sidesTellsUptoRow : OpenClaim := { program := "ytdleajoagcopgaadoor", sum := "f3710964e3df8eba96311bf31478afd6082ad109bf772d259623963346c7c8f9", func := "teamster/teamsterlaw.SidesTells", spec := "sidesTells", unfollowed := true, recurses := true, named := ["math/bits.deBruijn32tab"], plainKeys := false, apart := false, laid := [("math/bits.deBruijn32tab", laid_math_bits_deBruijn32tab)], narrowed := true }
def SidesTellsUptoSaid : Prop := sidesTellsUptoRow.holds Tryd.pinned (OpenSpec.upto sidesTellsSpec)

end Rows
end Go.Proofs.YtdleajoagcopgaaDoor
