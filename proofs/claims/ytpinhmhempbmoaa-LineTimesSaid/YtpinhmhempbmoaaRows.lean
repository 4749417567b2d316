/-
  No cell of these rows narrows 'for every input' (looked for: loops, veiled, ifaces, maps, wideKeys, modest, calm, conditions, laid).
  DERIVED. THE GIVEN ROWS OF THIS SEAT. 8 by the template 'for every input the law returns true; each argument reads behind the call as it read before'; 0 by the template 'total and deterministic' (their statements: YtpinhmhempbmoaaTotals.lean).
  GIVEN WITH THE SEED: the statements are not yours to turn. If you find one false, say at which input.
  Laid BY PROGRAM, IN A SANDBOX (cutbox-rows.mjs): the forced cells as the released guide's own fill.sh prints them over the translation 11bcd7ae0755c08c… (all of the seat's roots in one cut). By AI agents, Wed Nov 11 2026. No macro, syntax, notation, axiom, sorry.
-/
import Derived.Test.YtpinhmhempbmoaaChecked
import GoSem.Claim
import GoSem.ClaimJoined
import GoSem.ClaimMapViews
import Derived.JoinedTies
import Derived.KernelRfl
namespace Go.Proofs.Ytpinhmhempbmoaa
/- THE CELL 'sum', in the pinned program and in every row, IS THE sha256 OF THE DUMP (.gsa) THAT YtpinhmhempbmoaaProg.lean LOADS. Nothing in Lean hashes anything: it is a label: what it is worth is what the hold of that sum in a sandbox is worth. -/
noncomputable def Try.pinned : Pinned := { name := "ytpinhmhempbmoaa", sum := "11bcd7ae0755c08c9682ac4040fb4558105324d49b8f62ddbe0509646ce60c29", checked := Try.checked }
namespace Rows
def none {H : Type} : Left H := { results := [], args := [] }

/-- 'teamsterlaw.LineTimes': WHATEVER THE INPUT: true; the input reads as it did. -/
def lineTimesSpec : ChangeSpec := { name := "lineTimes", fn := fun _ => fun
  | [d] => { results := [.lit (.bool true)], args := [d] }
  | _ => none }
def lineTimesRow : OpenClaim := { program := "ytpinhmhempbmoaa", sum := "11bcd7ae0755c08c9682ac4040fb4558105324d49b8f62ddbe0509646ce60c29", func := "teamster/teamsterlaw.LineTimes", spec := "lineTimes", unfollowed := true, recurses := true, plainKeys := false, apart := false }
def LineTimesSaid : Prop := lineTimesRow.holds Try.pinned (OpenSpec.ofChange lineTimesSpec)

/-- ITS FALSE NEIGHBOUR: 'it returns false'. Refute it at one input. -/
def lineTimesWrong : ChangeSpec := { name := "lineTimes", fn := fun _ => fun
  | [d] => { results := [.lit (.bool false)], args := [d] }
  | _ => none }
def LineTimesWrongFalsely : Prop := lineTimesRow.holds Try.pinned (OpenSpec.ofChange lineTimesWrong)

/-- 'teamsterlaw.QueueTwos': WHATEVER THE INPUT: true; the input reads as it did. -/
def queueTwosSpec : ChangeSpec := { name := "queueTwos", fn := fun _ => fun
  | [d1, d2] => { results := [.lit (.bool true)], args := [d1, d2] }
  | _ => none }
def queueTwosRow : OpenClaim := { program := "ytpinhmhempbmoaa", sum := "11bcd7ae0755c08c9682ac4040fb4558105324d49b8f62ddbe0509646ce60c29", func := "teamster/teamsterlaw.QueueTwos", spec := "queueTwos", unfollowed := true, recurses := true, plainKeys := false, apart := false }
def QueueTwosSaid : Prop := queueTwosRow.holds Try.pinned (OpenSpec.ofChange queueTwosSpec)

/-- ITS FALSE NEIGHBOUR: 'it returns false'. Refute it at one input. -/
def queueTwosWrong : ChangeSpec := { name := "queueTwos", fn := fun _ => fun
  | [d1, d2] => { results := [.lit (.bool false)], args := [d1, d2] }
  | _ => none }
def QueueTwosWrongFalsely : Prop := queueTwosRow.holds Try.pinned (OpenSpec.ofChange queueTwosWrong)

/-- 'teamsterlaw.QueueWorths': WHATEVER THE INPUT: true; the input reads as it did. -/
def queueWorthsSpec : ChangeSpec := { name := "queueWorths", fn := fun _ => fun
  | [d] => { results := [.lit (.bool true)], args := [d] }
  | _ => none }
def queueWorthsRow : OpenClaim := { program := "ytpinhmhempbmoaa", sum := "11bcd7ae0755c08c9682ac4040fb4558105324d49b8f62ddbe0509646ce60c29", func := "teamster/teamsterlaw.QueueWorths", spec := "queueWorths", unfollowed := true, recurses := true, plainKeys := false, apart := false }
def QueueWorthsSaid : Prop := queueWorthsRow.holds Try.pinned (OpenSpec.ofChange queueWorthsSpec)

/-- ITS FALSE NEIGHBOUR: 'it returns false'. Refute it at one input. -/
def queueWorthsWrong : ChangeSpec := { name := "queueWorths", fn := fun _ => fun
  | [d] => { results := [.lit (.bool false)], args := [d] }
  | _ => none }
def QueueWorthsWrongFalsely : Prop := queueWorthsRow.holds Try.pinned (OpenSpec.ofChange queueWorthsWrong)

/-- 'teamsterlaw.QueueLates': WHATEVER THE INPUT: true; the input reads as it did. -/
def queueLatesSpec : ChangeSpec := { name := "queueLates", fn := fun _ => fun
  | [d] => { results := [.lit (.bool true)], args := [d] }
  | _ => none }
def queueLatesRow : OpenClaim := { program := "ytpinhmhempbmoaa", sum := "11bcd7ae0755c08c9682ac4040fb4558105324d49b8f62ddbe0509646ce60c29", func := "teamster/teamsterlaw.QueueLates", spec := "queueLates", unfollowed := true, recurses := true, plainKeys := false, apart := false }
def QueueLatesSaid : Prop := queueLatesRow.holds Try.pinned (OpenSpec.ofChange queueLatesSpec)

/-- ITS FALSE NEIGHBOUR: 'it returns false'. Refute it at one input. -/
def queueLatesWrong : ChangeSpec := { name := "queueLates", fn := fun _ => fun
  | [d] => { results := [.lit (.bool false)], args := [d] }
  | _ => none }
def QueueLatesWrongFalsely : Prop := queueLatesRow.holds Try.pinned (OpenSpec.ofChange queueLatesWrong)

/-- 'teamsterlaw.FeeSpares': WHATEVER THE INPUT: true; the input reads as it did. -/
def feeSparesSpec : ChangeSpec := { name := "feeSpares", fn := fun _ => fun
  | [d1, d2] => { results := [.lit (.bool true)], args := [d1, d2] }
  | _ => none }
def feeSparesRow : OpenClaim := { program := "ytpinhmhempbmoaa", sum := "11bcd7ae0755c08c9682ac4040fb4558105324d49b8f62ddbe0509646ce60c29", func := "teamster/teamsterlaw.FeeSpares", spec := "feeSpares", unfollowed := true, recurses := true, plainKeys := false, apart := false }
def FeeSparesSaid : Prop := feeSparesRow.holds Try.pinned (OpenSpec.ofChange feeSparesSpec)

/-- ITS FALSE NEIGHBOUR: 'it returns false'. Refute it at one input. -/
def feeSparesWrong : ChangeSpec := { name := "feeSpares", fn := fun _ => fun
  | [d1, d2] => { results := [.lit (.bool false)], args := [d1, d2] }
  | _ => none }
def FeeSparesWrongFalsely : Prop := feeSparesRow.holds Try.pinned (OpenSpec.ofChange feeSparesWrong)

/-- 'teamsterlaw.FeeAssigns': WHATEVER THE INPUT: true; the input reads as it did. -/
def feeAssignsSpec : ChangeSpec := { name := "feeAssigns", fn := fun _ => fun
  | [d] => { results := [.lit (.bool true)], args := [d] }
  | _ => none }
def feeAssignsRow : OpenClaim := { program := "ytpinhmhempbmoaa", sum := "11bcd7ae0755c08c9682ac4040fb4558105324d49b8f62ddbe0509646ce60c29", func := "teamster/teamsterlaw.FeeAssigns", spec := "feeAssigns", unfollowed := true, recurses := true, plainKeys := false, apart := false }
def FeeAssignsSaid : Prop := feeAssignsRow.holds Try.pinned (OpenSpec.ofChange feeAssignsSpec)

/-- ITS FALSE NEIGHBOUR: 'it returns false'. Refute it at one input. -/
def feeAssignsWrong : ChangeSpec := { name := "feeAssigns", fn := fun _ => fun
  | [d] => { results := [.lit (.bool false)], args := [d] }
  | _ => none }
def FeeAssignsWrongFalsely : Prop := feeAssignsRow.holds Try.pinned (OpenSpec.ofChange feeAssignsWrong)

/-- 'teamsterlaw.FlowMost': WHATEVER THE INPUT: true; the input reads as it did. -/
def flowMostSpec : ChangeSpec := { name := "flowMost", fn := fun _ => fun
  | [d1, d2, d3] => { results := [.lit (.bool true)], args := [d1, d2, d3] }
  | _ => none }
def flowMostRow : OpenClaim := { program := "ytpinhmhempbmoaa", sum := "11bcd7ae0755c08c9682ac4040fb4558105324d49b8f62ddbe0509646ce60c29", func := "teamster/teamsterlaw.FlowMost", spec := "flowMost", unfollowed := true, recurses := true, plainKeys := false, apart := false }
def FlowMostSaid : Prop := flowMostRow.holds Try.pinned (OpenSpec.ofChange flowMostSpec)

/-- ITS FALSE NEIGHBOUR: 'it returns false'. Refute it at one input. -/
def flowMostWrong : ChangeSpec := { name := "flowMost", fn := fun _ => fun
  | [d1, d2, d3] => { results := [.lit (.bool false)], args := [d1, d2, d3] }
  | _ => none }
def FlowMostWrongFalsely : Prop := flowMostRow.holds Try.pinned (OpenSpec.ofChange flowMostWrong)

/-- 'teamsterlaw.ShortWays': WHATEVER THE INPUT: true; the input reads as it did. -/
def shortWaysSpec : ChangeSpec := { name := "shortWays", fn := fun _ => fun
  | [d1, d2, d3] => { results := [.lit (.bool true)], args := [d1, d2, d3] }
  | _ => none }
def shortWaysRow : OpenClaim := { program := "ytpinhmhempbmoaa", sum := "11bcd7ae0755c08c9682ac4040fb4558105324d49b8f62ddbe0509646ce60c29", func := "teamster/teamsterlaw.ShortWays", spec := "shortWays", unfollowed := true, recurses := true, plainKeys := false, apart := false }
def ShortWaysSaid : Prop := shortWaysRow.holds Try.pinned (OpenSpec.ofChange shortWaysSpec)

/-- ITS FALSE NEIGHBOUR: 'it returns false'. Refute it at one input. -/
def shortWaysWrong : ChangeSpec := { name := "shortWays", fn := fun _ => fun
  | [d1, d2, d3] => { results := [.lit (.bool false)], args := [d1, d2, d3] }
  | _ => none }
def ShortWaysWrongFalsely : Prop := shortWaysRow.holds Try.pinned (OpenSpec.ofChange shortWaysWrong)

/- THE SECOND FORM. 'bulk': how many values and letters a reading holds, each counted each time it is reached (what is shared counts as often as it is met; a slice's spare places count too). A statement '..UptoSaid' is the law's where the arguments, and the package variables that the reading takes, are together of bulk at most 1048576: NARROWER than '..Said'. Prove '..Said' where nothing that the law and all that it calls make is longer than what came in: it says more and counts as full. Else prove '..UptoSaid'. A law counts once. -/
mutual
def uptoBulk {H : Type} : DataW H → Nat
  | .lit (.string bytes) => bytes.length + 1
  | .lit _ => 1
  | .nil => 1
  | .ptr d => uptoBulk d + 1
  | .slice elems spare => uptoBulkAll elems + uptoBulkAll spare + 1
  | .agg parts => uptoBulkAll parts + 1
  | .iface _ d => uptoBulk d + 1
  | .map entries => uptoBulkEntries entries + 1
  | .held _ => 1
def uptoBulkAll {H : Type} : List (DataW H) → Nat
  | [] => 0
  | d :: r => uptoBulk d + uptoBulkAll r
def uptoBulkEntries {H : Type} : List (Lit × DataW H) → Nat
  | [] => 0
  | x :: r => uptoBulkEntry x + uptoBulkEntries r
def uptoBulkEntry {H : Type} : Lit × DataW H → Nat
  | (.string bytes, d) => bytes.length + uptoBulk d + 1
  | (_, d) => uptoBulk d + 1
 end
def uptoSmall : (H : Type) → List (DataW H) → Bool := fun _ ds => decide (uptoBulkAll ds ≤ 1048576)
def OpenSpec.upto (s : _root_.Go.ChangeSpec) : _root_.Go.OpenSpec := { _root_.Go.OpenSpec.ofChange s with cond := some uptoSmall }

/-- 'teamsterlaw.LineTimes', WHERE WHAT IT READS IS OF BULK AT MOST 1048576: true; the input reads as it did. -/
def lineTimesUptoRow : OpenClaim := { program := "ytpinhmhempbmoaa", sum := "11bcd7ae0755c08c9682ac4040fb4558105324d49b8f62ddbe0509646ce60c29", func := "teamster/teamsterlaw.LineTimes", spec := "lineTimes", unfollowed := true, recurses := true, plainKeys := false, apart := false, narrowed := true }
def LineTimesUptoSaid : Prop := lineTimesUptoRow.holds Try.pinned (OpenSpec.upto lineTimesSpec)

/-- 'teamsterlaw.QueueTwos', WHERE WHAT IT READS IS OF BULK AT MOST 1048576: true; the input reads as it did. -/
def queueTwosUptoRow : OpenClaim := { program := "ytpinhmhempbmoaa", sum := "11bcd7ae0755c08c9682ac4040fb4558105324d49b8f62ddbe0509646ce60c29", func := "teamster/teamsterlaw.QueueTwos", spec := "queueTwos", unfollowed := true, recurses := true, plainKeys := false, apart := false, narrowed := true }
def QueueTwosUptoSaid : Prop := queueTwosUptoRow.holds Try.pinned (OpenSpec.upto queueTwosSpec)

/-- 'teamsterlaw.QueueWorths', WHERE WHAT IT READS IS OF BULK AT MOST 1048576: true; the input reads as it did. -/
def queueWorthsUptoRow : OpenClaim := { program := "ytpinhmhempbmoaa", sum := "11bcd7ae0755c08c9682ac4040fb4558105324d49b8f62ddbe0509646ce60c29", func := "teamster/teamsterlaw.QueueWorths", spec := "queueWorths", unfollowed := true, recurses := true, plainKeys := false, apart := false, narrowed := true }
def QueueWorthsUptoSaid : Prop := queueWorthsUptoRow.holds Try.pinned (OpenSpec.upto queueWorthsSpec)

/-- 'teamsterlaw.QueueLates', WHERE WHAT IT READS IS OF BULK AT MOST 1048576: true; the input reads as it did. -/
def queueLatesUptoRow : OpenClaim := { program := "ytpinhmhempbmoaa", sum := "11bcd7ae0755c08c9682ac4040fb4558105324d49b8f62ddbe0509646ce60c29", func := "teamster/teamsterlaw.QueueLates", spec := "queueLates", unfollowed := true, recurses := true, plainKeys := false, apart := false, narrowed := true }
def QueueLatesUptoSaid : Prop := queueLatesUptoRow.holds Try.pinned (OpenSpec.upto queueLatesSpec)

/-- 'teamsterlaw.FeeSpares', WHERE WHAT IT READS IS OF BULK AT MOST 1048576: true; the input reads as it did. -/
def feeSparesUptoRow : OpenClaim := { program := "ytpinhmhempbmoaa", sum := "11bcd7ae0755c08c9682ac4040fb4558105324d49b8f62ddbe0509646ce60c29", func := "teamster/teamsterlaw.FeeSpares", spec := "feeSpares", unfollowed := true, recurses := true, plainKeys := false, apart := false, narrowed := true }
def FeeSparesUptoSaid : Prop := feeSparesUptoRow.holds Try.pinned (OpenSpec.upto feeSparesSpec)

/-- 'teamsterlaw.FeeAssigns', WHERE WHAT IT READS IS OF BULK AT MOST 1048576: true; the input reads as it did. -/
def feeAssignsUptoRow : OpenClaim := { program := "ytpinhmhempbmoaa", sum := "11bcd7ae0755c08c9682ac4040fb4558105324d49b8f62ddbe0509646ce60c29", func := "teamster/teamsterlaw.FeeAssigns", spec := "feeAssigns", unfollowed := true, recurses := true, plainKeys := false, apart := false, narrowed := true }
def FeeAssignsUptoSaid : Prop := feeAssignsUptoRow.holds Try.pinned (OpenSpec.upto feeAssignsSpec)

/-- 'teamsterlaw.FlowMost', WHERE WHAT IT READS IS OF BULK AT MOST 1048576: true; the input reads as it did. -/
def flowMostUptoRow : OpenClaim := { program := "ytpinhmhempbmoaa", sum := "11bcd7ae0755c08c9682ac4040fb4558105324d49b8f62ddbe0509646ce60c29", func := "teamster/teamsterlaw.FlowMost", spec := "flowMost", unfollowed := true, recurses := true, plainKeys := false, apart := false, narrowed := true }
def FlowMostUptoSaid : Prop := flowMostUptoRow.holds Try.pinned (OpenSpec.upto flowMostSpec)

/-- 'teamsterlaw.ShortWays', WHERE WHAT IT READS IS OF BULK AT MOST 1048576: true; the input reads as it did. -/
def shortWaysUptoRow : OpenClaim := { program := "ytpinhmhempbmoaa", sum := "11bcd7ae0755c08c9682ac4040fb4558105324d49b8f62ddbe0509646ce60c29", func := "teamster/teamsterlaw.ShortWays", spec := "shortWays", unfollowed := true, recurses := true, plainKeys := false, apart := false, narrowed := true }
def ShortWaysUptoSaid : Prop := shortWaysUptoRow.holds Try.pinned (OpenSpec.upto shortWaysSpec)

end Rows
end Go.Proofs.Ytpinhmhempbmoaa
