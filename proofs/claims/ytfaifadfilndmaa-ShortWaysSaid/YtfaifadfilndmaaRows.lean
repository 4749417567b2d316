/-
  No cell of these rows narrows 'for every input' (looked for: loops, veiled, ifaces, maps, wideKeys, modest, calm, conditions, laid).
  DERIVED. THE GIVEN ROWS OF THIS SEAT. 5 by the template 'for every input the law returns true; each argument reads behind the call as it read before'; 0 by the template 'total and deterministic' (their statements: YtfaifadfilndmaaTotals.lean).
  GIVEN WITH THE SEED: the statements are not yours to turn. If you find one false, say at which input.
  Laid BY PROGRAM, IN A SANDBOX (cutbox-rows.mjs): the forced cells as the released guide's own fill.sh prints them over the translation 191674ac44ffe1d2… (all of the seat's roots in one cut). By AI agents, Wed Nov 11 2026. No macro, syntax, notation, axiom, sorry.
-/
import Derived.Test.YtfaifadfilndmaaChecked
import GoSem.Claim
import GoSem.ClaimJoined
import GoSem.ClaimMapViews
import Derived.JoinedTies
import Derived.KernelRfl
namespace Go.Proofs.Ytfaifadfilndmaa
/- THE CELL 'sum', in the pinned program and in every row, IS THE sha256 OF THE DUMP (.gsa) THAT YtfaifadfilndmaaProg.lean LOADS. Nothing in Lean hashes anything: it is a label: what it is worth is what the hold of that sum in a sandbox is worth. -/
noncomputable def Try.pinned : Pinned := { name := "ytfaifadfilndmaa", sum := "191674ac44ffe1d2a49bab13ca9c9850ec738a863c97b3c02edd07cfc0bafd5f", checked := Try.checked }
namespace Rows
def none {H : Type} : Left H := { results := [], args := [] }

/-- 'teamsterlaw.FeeAssigns': WHATEVER THE INPUT: true; the input reads as it did. -/
def feeAssignsSpec : ChangeSpec := { name := "feeAssigns", fn := fun _ => fun
  | [d] => { results := [.lit (.bool true)], args := [d] }
  | _ => none }
def feeAssignsRow : OpenClaim := { program := "ytfaifadfilndmaa", sum := "191674ac44ffe1d2a49bab13ca9c9850ec738a863c97b3c02edd07cfc0bafd5f", func := "teamster/teamsterlaw.FeeAssigns", spec := "feeAssigns", unfollowed := true, recurses := true, plainKeys := false, apart := false }
def FeeAssignsSaid : Prop := feeAssignsRow.holds Try.pinned (OpenSpec.ofChange feeAssignsSpec)

/-- ITS FALSE NEIGHBOUR: 'it returns false'. Refute it at one input. -/
def feeAssignsWrong : ChangeSpec := { name := "feeAssigns", fn := fun _ => fun
  | [d] => { results := [.lit (.bool false)], args := [d] }
  | _ => none }
def FeeAssignsWrongFalsely : Prop := feeAssignsRow.holds Try.pinned (OpenSpec.ofChange feeAssignsWrong)

/-- 'teamsterlaw.FlowMost': WHATEVER THE INPUT: true; the input reads as it did. -/
def flowMostSpec : ChangeSpec := { name := "flowMost", fn := fun _ => fun
  | [d1, d2, d3] => { results := [.lit (.bool true)], args := [d1, d2, d3] }
  | _ => none }
def flowMostRow : OpenClaim := { program := "ytfaifadfilndmaa", sum := "191674ac44ffe1d2a49bab13ca9c9850ec738a863c97b3c02edd07cfc0bafd5f", func := "teamster/teamsterlaw.FlowMost", spec := "flowMost", unfollowed := true, recurses := true, plainKeys := false, apart := false }
def FlowMostSaid : Prop := flowMostRow.holds Try.pinned (OpenSpec.ofChange flowMostSpec)

/-- ITS FALSE NEIGHBOUR: 'it returns false'. Refute it at one input. -/
def flowMostWrong : ChangeSpec := { name := "flowMost", fn := fun _ => fun
  | [d1, d2, d3] => { results := [.lit (.bool false)], args := [d1, d2, d3] }
  | _ => none }
def FlowMostWrongFalsely : Prop := flowMostRow.holds Try.pinned (OpenSpec.ofChange flowMostWrong)

/-- 'teamsterlaw.ShortWays': WHATEVER THE INPUT: true; the input reads as it did. -/
def shortWaysSpec : ChangeSpec := { name := "shortWays", fn := fun _ => fun
  | [d1, d2, d3] => { results := [.lit (.bool true)], args := [d1, d2, d3] }
  | _ => none }
def shortWaysRow : OpenClaim := { program := "ytfaifadfilndmaa", sum := "191674ac44ffe1d2a49bab13ca9c9850ec738a863c97b3c02edd07cfc0bafd5f", func := "teamster/teamsterlaw.ShortWays", spec := "shortWays", unfollowed := true, recurses := true, plainKeys := false, apart := false }
def ShortWaysSaid : Prop := shortWaysRow.holds Try.pinned (OpenSpec.ofChange shortWaysSpec)

/-- ITS FALSE NEIGHBOUR: 'it returns false'. Refute it at one input. -/
def shortWaysWrong : ChangeSpec := { name := "shortWays", fn := fun _ => fun
  | [d1, d2, d3] => { results := [.lit (.bool false)], args := [d1, d2, d3] }
  | _ => none }
def ShortWaysWrongFalsely : Prop := shortWaysRow.holds Try.pinned (OpenSpec.ofChange shortWaysWrong)

/-- 'teamsterlaw.WishPairs': WHATEVER THE INPUT: true; the input reads as it did. -/
def wishPairsSpec : ChangeSpec := { name := "wishPairs", fn := fun _ => fun
  | [d] => { results := [.lit (.bool true)], args := [d] }
  | _ => none }
def wishPairsRow : OpenClaim := { program := "ytfaifadfilndmaa", sum := "191674ac44ffe1d2a49bab13ca9c9850ec738a863c97b3c02edd07cfc0bafd5f", func := "teamster/teamsterlaw.WishPairs", spec := "wishPairs", recurses := true, plainKeys := false, apart := false }
def WishPairsSaid : Prop := wishPairsRow.holds Try.pinned (OpenSpec.ofChange wishPairsSpec)

/-- ITS FALSE NEIGHBOUR: 'it returns false'. Refute it at one input. -/
def wishPairsWrong : ChangeSpec := { name := "wishPairs", fn := fun _ => fun
  | [d] => { results := [.lit (.bool false)], args := [d] }
  | _ => none }
def WishPairsWrongFalsely : Prop := wishPairsRow.holds Try.pinned (OpenSpec.ofChange wishPairsWrong)

/-- 'teamsterlaw.PlaceMost': WHATEVER THE INPUT: true; the input reads as it did. -/
def placeMostSpec : ChangeSpec := { name := "placeMost", fn := fun _ => fun
  | [d1, d2] => { results := [.lit (.bool true)], args := [d1, d2] }
  | _ => none }
def placeMostRow : OpenClaim := { program := "ytfaifadfilndmaa", sum := "191674ac44ffe1d2a49bab13ca9c9850ec738a863c97b3c02edd07cfc0bafd5f", func := "teamster/teamsterlaw.PlaceMost", spec := "placeMost", unfollowed := true, recurses := true, plainKeys := false, apart := false }
def PlaceMostSaid : Prop := placeMostRow.holds Try.pinned (OpenSpec.ofChange placeMostSpec)

/-- ITS FALSE NEIGHBOUR: 'it returns false'. Refute it at one input. -/
def placeMostWrong : ChangeSpec := { name := "placeMost", fn := fun _ => fun
  | [d1, d2] => { results := [.lit (.bool false)], args := [d1, d2] }
  | _ => none }
def PlaceMostWrongFalsely : Prop := placeMostRow.holds Try.pinned (OpenSpec.ofChange placeMostWrong)

/- THE SECOND FORM. 'bulk': how many values and letters a reading holds, each counted each time it is reached (what is shared counts as often as it is met; a slice's spare places count too). A statement '..UptoSaid' is the law's where the arguments, and the package variables that the reading takes, are together of bulk at most 1048576: NARROWER than '..Said'. Prove '..Said' where nothing that the law and all that it calls make is longer than what came in: it says more and counts as full. Else prove '..UptoSaid'. A law counts once. -/
mutual
def uptoBulk {H : Type} : DataW H → Nat
  | .lit (.string bytes) => bytes.length + 1
  | .lit _ => 1
  | .nil => 1
  | .ptr d => uptoBulk d + 1
  | .slice elems spare => uptoBulkAll elems + uptoBulkAll spare + 1
  | .agg parts => uptoBulkAll parts + 1
  | .iface _ d => uptoBulk d + 1
  | .map entries => uptoBulkEntries entries + 1
  | .held _ => 1
def uptoBulkAll {H : Type} : List (DataW H) → Nat
  | [] => 0
  | d :: r => uptoBulk d + uptoBulkAll r
def uptoBulkEntries {H : Type} : List (Lit × DataW H) → Nat
  | [] => 0
  | x :: r => uptoBulkEntry x + uptoBulkEntries r
def uptoBulkEntry {H : Type} : Lit × DataW H → Nat
  | (.string bytes, d) => bytes.length + uptoBulk d + 1
  | (_, d) => uptoBulk d + 1
 end
def uptoSmall : (H : Type) → List (DataW H) → Bool := fun _ ds => decide (uptoBulkAll ds ≤ 1048576)
def OpenSpec.upto (s : _root_.Go.ChangeSpec) : _root_.Go.OpenSpec := { _root_.Go.OpenSpec.ofChange s with cond := some uptoSmall }

/-- 'teamsterlaw.FeeAssigns', WHERE WHAT IT READS IS OF BULK AT MOST 1048576: true; the input reads as it did. -/
def feeAssignsUptoRow : OpenClaim := { program := "ytfaifadfilndmaa", sum := "191674ac44ffe1d2a49bab13ca9c9850ec738a863c97b3c02edd07cfc0bafd5f", func := "teamster/teamsterlaw.FeeAssigns", spec := "feeAssigns", unfollowed := true, recurses := true, plainKeys := false, apart := false, narrowed := true }
def FeeAssignsUptoSaid : Prop := feeAssignsUptoRow.holds Try.pinned (OpenSpec.upto feeAssignsSpec)

/-- 'teamsterlaw.FlowMost', WHERE WHAT IT READS IS OF BULK AT MOST 1048576: true; the input reads as it did. -/
def flowMostUptoRow : OpenClaim := { program := "ytfaifadfilndmaa", sum := "191674ac44ffe1d2a49bab13ca9c9850ec738a863c97b3c02edd07cfc0bafd5f", func := "teamster/teamsterlaw.FlowMost", spec := "flowMost", unfollowed := true, recurses := true, plainKeys := false, apart := false, narrowed := true }
def FlowMostUptoSaid : Prop := flowMostUptoRow.holds Try.pinned (OpenSpec.upto flowMostSpec)

/-- 'teamsterlaw.ShortWays', WHERE WHAT IT READS IS OF BULK AT MOST 1048576: true; the input reads as it did. -/
def shortWaysUptoRow : OpenClaim := { program := "ytfaifadfilndmaa", sum := "191674ac44ffe1d2a49bab13ca9c9850ec738a863c97b3c02edd07cfc0bafd5f", func := "teamster/teamsterlaw.ShortWays", spec := "shortWays", unfollowed := true, recurses := true, plainKeys := false, apart := false, narrowed := true }
def ShortWaysUptoSaid : Prop := shortWaysUptoRow.holds Try.pinned (OpenSpec.upto shortWaysSpec)

/-- 'teamsterlaw.WishPairs', WHERE WHAT IT READS IS OF BULK AT MOST 1048576: true; the input reads as it did. -/
def wishPairsUptoRow : OpenClaim := { program := "ytfaifadfilndmaa", sum := "191674ac44ffe1d2a49bab13ca9c9850ec738a863c97b3c02edd07cfc0bafd5f", func := "teamster/teamsterlaw.WishPairs", spec := "wishPairs", recurses := true, plainKeys := false, apart := false, narrowed := true }
def WishPairsUptoSaid : Prop := wishPairsUptoRow.holds Try.pinned (OpenSpec.upto wishPairsSpec)

/-- 'teamsterlaw.PlaceMost', WHERE WHAT IT READS IS OF BULK AT MOST 1048576: true; the input reads as it did. -/
def placeMostUptoRow : OpenClaim := { program := "ytfaifadfilndmaa", sum := "191674ac44ffe1d2a49bab13ca9c9850ec738a863c97b3c02edd07cfc0bafd5f", func := "teamster/teamsterlaw.PlaceMost", spec := "placeMost", unfollowed := true, recurses := true, plainKeys := false, apart := false, narrowed := true }
def PlaceMostUptoSaid : Prop := placeMostUptoRow.holds Try.pinned (OpenSpec.upto placeMostSpec)

end Rows
end Go.Proofs.Ytfaifadfilndmaa
