/-
  NARROWER THAN 'FOR EVERY INPUT', by the rows' own cells (each row's printed sentence says how): ColourTurns: laid · BondsMost: laid · SpanCodes: laid · ChordRings: laid · PairsMost: laid · PackFewest: laid · ColourGreedy: laid · ColourLeast: laid · ColourCounts: laid.
  DERIVED. THE GIVEN ROWS OF THIS SEAT. 9 by the template 'for every input the law returns true; each argument reads behind the call as it read before'; 0 by the template 'total and deterministic' (their statements: YtfaifadfilndmaaDoorTotals.lean).
  GIVEN WITH THE SEED: the statements are not yours to turn. If you find one false, say at which input.
  Laid BY PROGRAM, IN A SANDBOX (cutbox-rows.mjs): the forced cells as the released guide's own fill.sh prints them over the translation 764580809f66575d… (all of the seat's roots in one cut). By AI agents, Wed Nov 11 2026. No macro, syntax, notation, axiom, sorry.
-/
import Derived.Test.YtfaifadfilndmaaDoorChecked
import GoSem.Claim
import GoSem.ClaimJoined
import GoSem.ClaimMapViews
import Derived.JoinedTies
import Derived.KernelRfl
namespace Go.Proofs.YtfaifadfilndmaaDoor
/- THE CELL 'sum', in the pinned program and in every row, IS THE sha256 OF THE DUMP (.gsa) THAT YtfaifadfilndmaaDoorProg.lean LOADS. Nothing in Lean hashes anything: it is a label: what it is worth is what the hold of that sum in a sandbox is worth. -/
noncomputable def Tryd.pinned : Pinned := { name := "ytfaifadfilndmaadoor", sum := "764580809f66575d1a09a8c54af2fbfbf9866ba4d047110b63450704f8660a1d", checked := Tryd.checked }
namespace Rows
def none {H : Type} : Left H := { results := [], args := [] }

/- WHAT THE LISTED PACKAGE-LEVEL VARIABLES READ AS WHEN THE CALL BEGINS. Each datum BY PROGRAM (the guide's laid-datum.mjs) off the statement by which the dump's own 'gosem.cut.vars' lays the variable. In a bare row this is a premise. The card (YtfaifadfilndmaaDoorCards.lean) ties it to the program's text. -/
def laid_math_bits_deBruijn32tab {H : Type} : DataW H := .agg [.lit (.int .u8 0), .lit (.int .u8 1), .lit (.int .u8 28), .lit (.int .u8 2), .lit (.int .u8 29), .lit (.int .u8 14), .lit (.int .u8 24), .lit (.int .u8 3), .lit (.int .u8 30), .lit (.int .u8 22), .lit (.int .u8 20), .lit (.int .u8 15), .lit (.int .u8 25), .lit (.int .u8 17), .lit (.int .u8 4), .lit (.int .u8 8), .lit (.int .u8 31), .lit (.int .u8 27), .lit (.int .u8 13), .lit (.int .u8 23), .lit (.int .u8 21), .lit (.int .u8 19), .lit (.int .u8 16), .lit (.int .u8 7), .lit (.int .u8 26), .lit (.int .u8 12), .lit (.int .u8 18), .lit (.int .u8 6), .lit (.int .u8 11), .lit (.int .u8 5), .lit (.int .u8 10), .lit (.int .u8 9)]

/-- 'teamsterlaw.ColourTurns': WHATEVER THE INPUT: true; the input reads as it did. -/
def colourTurnsSpec : ChangeSpec := { name := "colourTurns", fn := fun _ => fun
  | [d] => { results := [.lit (.bool true)], args := [d] }
  | _ => none }
def colourTurnsRow : OpenClaim := { program := "ytfaifadfilndmaadoor", sum := "764580809f66575d1a09a8c54af2fbfbf9866ba4d047110b63450704f8660a1d", func := "teamster/teamsterlaw.ColourTurns", spec := "colourTurns", unfollowed := true, recurses := true, named := ["math/bits.deBruijn32tab"], plainKeys := false, apart := false, laid := [("math/bits.deBruijn32tab", laid_math_bits_deBruijn32tab)] }
def ColourTurnsSaid : Prop := colourTurnsRow.holds Tryd.pinned (OpenSpec.ofChange colourTurnsSpec)

/-- ITS FALSE NEIGHBOUR: 'it returns false'. Refute it at one input. -/
def colourTurnsWrong : ChangeSpec := { name := "colourTurns", fn := fun _ => fun
  | [d] => { results := [.lit (.bool false)], args := [d] }
  | _ => none }
def ColourTurnsWrongFalsely : Prop := colourTurnsRow.holds Tryd.pinned (OpenSpec.ofChange colourTurnsWrong)

/-- 'teamsterlaw.BondsMost': WHATEVER THE INPUT: true; the input reads as it did. -/
def bondsMostSpec : ChangeSpec := { name := "bondsMost", fn := fun _ => fun
  | [d] => { results := [.lit (.bool true)], args := [d] }
  | _ => none }
def bondsMostRow : OpenClaim := { program := "ytfaifadfilndmaadoor", sum := "764580809f66575d1a09a8c54af2fbfbf9866ba4d047110b63450704f8660a1d", func := "teamster/teamsterlaw.BondsMost", spec := "bondsMost", unfollowed := true, recurses := true, named := ["math/bits.deBruijn32tab"], plainKeys := false, apart := false, laid := [("math/bits.deBruijn32tab", laid_math_bits_deBruijn32tab)] }
def BondsMostSaid : Prop := bondsMostRow.holds Tryd.pinned (OpenSpec.ofChange bondsMostSpec)

/-- ITS FALSE NEIGHBOUR: 'it returns false'. Refute it at one input. -/
def bondsMostWrong : ChangeSpec := { name := "bondsMost", fn := fun _ => fun
  | [d] => { results := [.lit (.bool false)], args := [d] }
  | _ => none }
def BondsMostWrongFalsely : Prop := bondsMostRow.holds Tryd.pinned (OpenSpec.ofChange bondsMostWrong)

/-- 'teamsterlaw.SpanCodes': WHATEVER THE INPUT: true; the input reads as it did. -/
def spanCodesSpec : ChangeSpec := { name := "spanCodes", fn := fun _ => fun
  | [d] => { results := [.lit (.bool true)], args := [d] }
  | _ => none }
def spanCodesRow : OpenClaim := { program := "ytfaifadfilndmaadoor", sum := "764580809f66575d1a09a8c54af2fbfbf9866ba4d047110b63450704f8660a1d", func := "teamster/teamsterlaw.SpanCodes", spec := "spanCodes", unfollowed := true, recurses := true, named := ["math/bits.deBruijn32tab"], plainKeys := false, apart := false, laid := [("math/bits.deBruijn32tab", laid_math_bits_deBruijn32tab)] }
def SpanCodesSaid : Prop := spanCodesRow.holds Tryd.pinned (OpenSpec.ofChange spanCodesSpec)

/-- ITS FALSE NEIGHBOUR: 'it returns false'. Refute it at one input. -/
def spanCodesWrong : ChangeSpec := { name := "spanCodes", fn := fun _ => fun
  | [d] => { results := [.lit (.bool false)], args := [d] }
  | _ => none }
def SpanCodesWrongFalsely : Prop := spanCodesRow.holds Tryd.pinned (OpenSpec.ofChange spanCodesWrong)

/-- 'teamsterlaw.ChordRings': WHATEVER THE INPUT: true; the input reads as it did. -/
def chordRingsSpec : ChangeSpec := { name := "chordRings", fn := fun _ => fun
  | [d] => { results := [.lit (.bool true)], args := [d] }
  | _ => none }
def chordRingsRow : OpenClaim := { program := "ytfaifadfilndmaadoor", sum := "764580809f66575d1a09a8c54af2fbfbf9866ba4d047110b63450704f8660a1d", func := "teamster/teamsterlaw.ChordRings", spec := "chordRings", unfollowed := true, recurses := true, named := ["math/bits.deBruijn32tab"], plainKeys := false, apart := false, laid := [("math/bits.deBruijn32tab", laid_math_bits_deBruijn32tab)] }
def ChordRingsSaid : Prop := chordRingsRow.holds Tryd.pinned (OpenSpec.ofChange chordRingsSpec)

/-- ITS FALSE NEIGHBOUR: 'it returns false'. Refute it at one input. -/
def chordRingsWrong : ChangeSpec := { name := "chordRings", fn := fun _ => fun
  | [d] => { results := [.lit (.bool false)], args := [d] }
  | _ => none }
def ChordRingsWrongFalsely : Prop := chordRingsRow.holds Tryd.pinned (OpenSpec.ofChange chordRingsWrong)

/-- 'teamsterlaw.PairsMost': WHATEVER THE INPUT: true; the input reads as it did. -/
def pairsMostSpec : ChangeSpec := { name := "pairsMost", fn := fun _ => fun
  | [d] => { results := [.lit (.bool true)], args := [d] }
  | _ => none }
def pairsMostRow : OpenClaim := { program := "ytfaifadfilndmaadoor", sum := "764580809f66575d1a09a8c54af2fbfbf9866ba4d047110b63450704f8660a1d", func := "teamster/teamsterlaw.PairsMost", spec := "pairsMost", unfollowed := true, recurses := true, named := ["math/bits.deBruijn32tab"], plainKeys := false, apart := false, laid := [("math/bits.deBruijn32tab", laid_math_bits_deBruijn32tab)] }
def PairsMostSaid : Prop := pairsMostRow.holds Tryd.pinned (OpenSpec.ofChange pairsMostSpec)

/-- ITS FALSE NEIGHBOUR: 'it returns false'. Refute it at one input. -/
def pairsMostWrong : ChangeSpec := { name := "pairsMost", fn := fun _ => fun
  | [d] => { results := [.lit (.bool false)], args := [d] }
  | _ => none }
def PairsMostWrongFalsely : Prop := pairsMostRow.holds Tryd.pinned (OpenSpec.ofChange pairsMostWrong)

/-- 'teamsterlaw.PackFewest': WHATEVER THE INPUT: true; the input reads as it did. -/
def packFewestSpec : ChangeSpec := { name := "packFewest", fn := fun _ => fun
  | [d1, d2] => { results := [.lit (.bool true)], args := [d1, d2] }
  | _ => none }
def packFewestRow : OpenClaim := { program := "ytfaifadfilndmaadoor", sum := "764580809f66575d1a09a8c54af2fbfbf9866ba4d047110b63450704f8660a1d", func := "teamster/teamsterlaw.PackFewest", spec := "packFewest", unfollowed := true, recurses := true, named := ["math/bits.deBruijn32tab"], plainKeys := false, apart := false, laid := [("math/bits.deBruijn32tab", laid_math_bits_deBruijn32tab)] }
def PackFewestSaid : Prop := packFewestRow.holds Tryd.pinned (OpenSpec.ofChange packFewestSpec)

/-- ITS FALSE NEIGHBOUR: 'it returns false'. Refute it at one input. -/
def packFewestWrong : ChangeSpec := { name := "packFewest", fn := fun _ => fun
  | [d1, d2] => { results := [.lit (.bool false)], args := [d1, d2] }
  | _ => none }
def PackFewestWrongFalsely : Prop := packFewestRow.holds Tryd.pinned (OpenSpec.ofChange packFewestWrong)

/-- 'teamsterlaw.ColourGreedy': WHATEVER THE INPUT: true; the input reads as it did. -/
def colourGreedySpec : ChangeSpec := { name := "colourGreedy", fn := fun _ => fun
  | [d1, d2] => { results := [.lit (.bool true)], args := [d1, d2] }
  | _ => none }
def colourGreedyRow : OpenClaim := { program := "ytfaifadfilndmaadoor", sum := "764580809f66575d1a09a8c54af2fbfbf9866ba4d047110b63450704f8660a1d", func := "teamster/teamsterlaw.ColourGreedy", spec := "colourGreedy", unfollowed := true, recurses := true, named := ["math/bits.deBruijn32tab"], plainKeys := false, apart := false, laid := [("math/bits.deBruijn32tab", laid_math_bits_deBruijn32tab)] }
def ColourGreedySaid : Prop := colourGreedyRow.holds Tryd.pinned (OpenSpec.ofChange colourGreedySpec)

/-- ITS FALSE NEIGHBOUR: 'it returns false'. Refute it at one input. -/
def colourGreedyWrong : ChangeSpec := { name := "colourGreedy", fn := fun _ => fun
  | [d1, d2] => { results := [.lit (.bool false)], args := [d1, d2] }
  | _ => none }
def ColourGreedyWrongFalsely : Prop := colourGreedyRow.holds Tryd.pinned (OpenSpec.ofChange colourGreedyWrong)

/-- 'teamsterlaw.ColourLeast': WHATEVER THE INPUT: true; the input reads as it did. -/
def colourLeastSpec : ChangeSpec := { name := "colourLeast", fn := fun _ => fun
  | [d] => { results := [.lit (.bool true)], args := [d] }
  | _ => none }
def colourLeastRow : OpenClaim := { program := "ytfaifadfilndmaadoor", sum := "764580809f66575d1a09a8c54af2fbfbf9866ba4d047110b63450704f8660a1d", func := "teamster/teamsterlaw.ColourLeast", spec := "colourLeast", unfollowed := true, recurses := true, named := ["math/bits.deBruijn32tab"], plainKeys := false, apart := false, laid := [("math/bits.deBruijn32tab", laid_math_bits_deBruijn32tab)] }
def ColourLeastSaid : Prop := colourLeastRow.holds Tryd.pinned (OpenSpec.ofChange colourLeastSpec)

/-- ITS FALSE NEIGHBOUR: 'it returns false'. Refute it at one input. -/
def colourLeastWrong : ChangeSpec := { name := "colourLeast", fn := fun _ => fun
  | [d] => { results := [.lit (.bool false)], args := [d] }
  | _ => none }
def ColourLeastWrongFalsely : Prop := colourLeastRow.holds Tryd.pinned (OpenSpec.ofChange colourLeastWrong)

/-- 'teamsterlaw.ColourCounts': WHATEVER THE INPUT: true; the input reads as it did. -/
def colourCountsSpec : ChangeSpec := { name := "colourCounts", fn := fun _ => fun
  | [d1, d2] => { results := [.lit (.bool true)], args := [d1, d2] }
  | _ => none }
def colourCountsRow : OpenClaim := { program := "ytfaifadfilndmaadoor", sum := "764580809f66575d1a09a8c54af2fbfbf9866ba4d047110b63450704f8660a1d", func := "teamster/teamsterlaw.ColourCounts", spec := "colourCounts", unfollowed := true, recurses := true, named := ["math/bits.deBruijn32tab"], plainKeys := false, apart := false, laid := [("math/bits.deBruijn32tab", laid_math_bits_deBruijn32tab)] }
def ColourCountsSaid : Prop := colourCountsRow.holds Tryd.pinned (OpenSpec.ofChange colourCountsSpec)

/-- ITS FALSE NEIGHBOUR: 'it returns false'. Refute it at one input. -/
def colourCountsWrong : ChangeSpec := { name := "colourCounts", fn := fun _ => fun
  | [d1, d2] => { results := [.lit (.bool false)], args := [d1, d2] }
  | _ => none }
def ColourCountsWrongFalsely : Prop := colourCountsRow.holds Tryd.pinned (OpenSpec.ofChange colourCountsWrong)

/- THE SECOND FORM. 'bulk': how many values and letters a reading holds, each counted each time it is reached (what is shared counts as often as it is met; a slice's spare places count too). A statement '..UptoSaid' is the law's where the arguments, and the package variables that the reading takes, are together of bulk at most 1048576: NARROWER than '..Said'. Prove '..Said' where nothing that the law and all that it calls make is longer than what came in: it says more and counts as full. Else prove '..UptoSaid'. A law counts once. -/
mutual
def uptoBulk {H : Type} : DataW H → Nat
  | .lit (.string bytes) => bytes.length + 1
  | .lit _ => 1
  | .nil => 1
  | .ptr d => uptoBulk d + 1
  | .slice elems spare => uptoBulkAll elems + uptoBulkAll spare + 1
  | .agg parts => uptoBulkAll parts + 1
  | .iface _ d => uptoBulk d + 1
  | .map entries => uptoBulkEntries entries + 1
  | .held _ => 1
def uptoBulkAll {H : Type} : List (DataW H) → Nat
  | [] => 0
  | d :: r => uptoBulk d + uptoBulkAll r
def uptoBulkEntries {H : Type} : List (Lit × DataW H) → Nat
  | [] => 0
  | x :: r => uptoBulkEntry x + uptoBulkEntries r
def uptoBulkEntry {H : Type} : Lit × DataW H → Nat
  | (.string bytes, d) => bytes.length + uptoBulk d + 1
  | (_, d) => uptoBulk d + 1
 end
def uptoSmall : (H : Type) → List (DataW H) → Bool := fun _ ds => decide (uptoBulkAll ds ≤ 1048576)
def OpenSpec.upto (s : _root_.Go.ChangeSpec) : _root_.Go.OpenSpec := { _root_.Go.OpenSpec.ofChange s with cond := some uptoSmall }

/-- 'teamsterlaw.ColourTurns', WHERE WHAT IT READS IS OF BULK AT MOST 1048576: true; the input reads as it did. -/
def colourTurnsUptoRow : OpenClaim := { program := "ytfaifadfilndmaadoor", sum := "764580809f66575d1a09a8c54af2fbfbf9866ba4d047110b63450704f8660a1d", func := "teamster/teamsterlaw.ColourTurns", spec := "colourTurns", unfollowed := true, recurses := true, named := ["math/bits.deBruijn32tab"], plainKeys := false, apart := false, laid := [("math/bits.deBruijn32tab", laid_math_bits_deBruijn32tab)], narrowed := true }
def ColourTurnsUptoSaid : Prop := colourTurnsUptoRow.holds Tryd.pinned (OpenSpec.upto colourTurnsSpec)

/-- 'teamsterlaw.BondsMost', WHERE WHAT IT READS IS OF BULK AT MOST 1048576: true; the input reads as it did. -/
def bondsMostUptoRow : OpenClaim := { program := "ytfaifadfilndmaadoor", sum := "764580809f66575d1a09a8c54af2fbfbf9866ba4d047110b63450704f8660a1d", func := "teamster/teamsterlaw.BondsMost", spec := "bondsMost", unfollowed := true, recurses := true, named := ["math/bits.deBruijn32tab"], plainKeys := false, apart := false, laid := [("math/bits.deBruijn32tab", laid_math_bits_deBruijn32tab)], narrowed := true }
def BondsMostUptoSaid : Prop := bondsMostUptoRow.holds Tryd.pinned (OpenSpec.upto bondsMostSpec)

/-- 'teamsterlaw.SpanCodes', WHERE WHAT IT READS IS OF BULK AT MOST 1048576: true; the input reads as it did. -/
def spanCodesUptoRow : OpenClaim := { program := "ytfaifadfilndmaadoor", sum := "764580809f66575d1a09a8c54af2fbfbf9866ba4d047110b63450704f8660a1d", func := "teamster/teamsterlaw.SpanCodes", spec := "spanCodes", unfollowed := true, recurses := true, named := ["math/bits.deBruijn32tab"], plainKeys := false, apart := false, laid := [("math/bits.deBruijn32tab", laid_math_bits_deBruijn32tab)], narrowed := true }
def SpanCodesUptoSaid : Prop := spanCodesUptoRow.holds Tryd.pinned (OpenSpec.upto spanCodesSpec)

/-- 'teamsterlaw.ChordRings', WHERE WHAT IT READS IS OF BULK AT MOST 1048576: true; the input reads as it did. -/
def chordRingsUptoRow : OpenClaim := { program := "ytfaifadfilndmaadoor", sum := "764580809f66575d1a09a8c54af2fbfbf9866ba4d047110b63450704f8660a1d", func := "teamster/teamsterlaw.ChordRings", spec := "chordRings", unfollowed := true, recurses := true, named := ["math/bits.deBruijn32tab"], plainKeys := false, apart := false, laid := [("math/bits.deBruijn32tab", laid_math_bits_deBruijn32tab)], narrowed := true }
def ChordRingsUptoSaid : Prop := chordRingsUptoRow.holds Tryd.pinned (OpenSpec.upto chordRingsSpec)

/-- 'teamsterlaw.PairsMost', WHERE WHAT IT READS IS OF BULK AT MOST 1048576: true; the input reads as it did. -/
def pairsMostUptoRow : OpenClaim := { program := "ytfaifadfilndmaadoor", sum := "764580809f66575d1a09a8c54af2fbfbf9866ba4d047110b63450704f8660a1d", func := "teamster/teamsterlaw.PairsMost", spec := "pairsMost", unfollowed := true, recurses := true, named := ["math/bits.deBruijn32tab"], plainKeys := false, apart := false, laid := [("math/bits.deBruijn32tab", laid_math_bits_deBruijn32tab)], narrowed := true }
def PairsMostUptoSaid : Prop := pairsMostUptoRow.holds Tryd.pinned (OpenSpec.upto pairsMostSpec)

/-- 'teamsterlaw.PackFewest', WHERE WHAT IT READS IS OF BULK AT MOST 1048576: true; the input reads as it did. -/
def packFewestUptoRow : OpenClaim := { program := "ytfaifadfilndmaadoor", sum := "764580809f66575d1a09a8c54af2fbfbf9866ba4d047110b63450704f8660a1d", func := "teamster/teamsterlaw.PackFewest", spec := "packFewest", unfollowed := true, recurses := true, named := ["math/bits.deBruijn32tab"], plainKeys := false, apart := false, laid := [("math/bits.deBruijn32tab", laid_math_bits_deBruijn32tab)], narrowed := true }
def PackFewestUptoSaid : Prop := packFewestUptoRow.holds Tryd.pinned (OpenSpec.upto packFewestSpec)

/-- 'teamsterlaw.ColourGreedy', WHERE WHAT IT READS IS OF BULK AT MOST 1048576: true; the input reads as it did. -/
def colourGreedyUptoRow : OpenClaim := { program := "ytfaifadfilndmaadoor", sum := "764580809f66575d1a09a8c54af2fbfbf9866ba4d047110b63450704f8660a1d", func := "teamster/teamsterlaw.ColourGreedy", spec := "colourGreedy", unfollowed := true, recurses := true, named := ["math/bits.deBruijn32tab"], plainKeys := false, apart := false, laid := [("math/bits.deBruijn32tab", laid_math_bits_deBruijn32tab)], narrowed := true }
def ColourGreedyUptoSaid : Prop := colourGreedyUptoRow.holds Tryd.pinned (OpenSpec.upto colourGreedySpec)

/-- 'teamsterlaw.ColourLeast', WHERE WHAT IT READS IS OF BULK AT MOST 1048576: true; the input reads as it did. -/
def colourLeastUptoRow : OpenClaim := { program := "ytfaifadfilndmaadoor", sum := "764580809f66575d1a09a8c54af2fbfbf9866ba4d047110b63450704f8660a1d", func := "teamster/teamsterlaw.ColourLeast", spec := "colourLeast", unfollowed := true, recurses := true, named := ["math/bits.deBruijn32tab"], plainKeys := false, apart := false, laid := [("math/bits.deBruijn32tab", laid_math_bits_deBruijn32tab)], narrowed := true }
def ColourLeastUptoSaid : Prop := colourLeastUptoRow.holds Tryd.pinned (OpenSpec.upto colourLeastSpec)

/-- 'teamsterlaw.ColourCounts', WHERE WHAT IT READS IS OF BULK AT MOST 1048576: true; the input reads as it did. -/
def colourCountsUptoRow : OpenClaim := { program := "ytfaifadfilndmaadoor", sum := "764580809f66575d1a09a8c54af2fbfbf9866ba4d047110b63450704f8660a1d", func := "teamster/teamsterlaw.ColourCounts", spec := "colourCounts", unfollowed := true, recurses := true, named := ["math/bits.deBruijn32tab"], plainKeys := false, apart := false, laid := [("math/bits.deBruijn32tab", laid_math_bits_deBruijn32tab)], narrowed := true }
def ColourCountsUptoSaid : Prop := colourCountsUptoRow.holds Tryd.pinned (OpenSpec.upto colourCountsSpec)

end Rows
end Go.Proofs.YtfaifadfilndmaaDoor
