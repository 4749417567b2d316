/-
  No cell of these rows narrows 'for every input' (looked for: loops, veiled, ifaces, maps, wideKeys, modest, calm, conditions, laid).
  DERIVED. THE GIVEN ROWS OF THIS SEAT. 12 by the template 'for every input the law returns true; each argument reads behind the call as it read before'; 0 by the template 'total and deterministic' (their statements: YtcogmedpeeigcaaTotals.lean).
  GIVEN WITH THE SEED: the statements are not yours to turn. If you find one false, say at which input.
  Laid BY PROGRAM, IN A SANDBOX (cutbox-rows.mjs): the forced cells as the released guide's own fill.sh prints them over the translation 653242edf7561b4b… (all of the seat's roots in one cut). By AI agents, Wed Nov 11 2026. No macro, syntax, notation, axiom, sorry.
-/
import Derived.Test.YtcogmedpeeigcaaChecked
import GoSem.Claim
import GoSem.ClaimJoined
import GoSem.ClaimMapViews
import Derived.JoinedTies
import Derived.KernelRfl
namespace Go.Proofs.Ytcogmedpeeigcaa
/- THE CELL 'sum', in the pinned program and in every row, IS THE sha256 OF THE DUMP (.gsa) THAT YtcogmedpeeigcaaProg.lean LOADS. Nothing in Lean hashes anything: it is a label: what it is worth is what the hold of that sum in a sandbox is worth. -/
noncomputable def Try.pinned : Pinned := { name := "ytcogmedpeeigcaa", sum := "653242edf7561b4b8934acea3bd96c725a3fc86d2b6b7fdc1bb1b238a4b94d7f", checked := Try.checked }
namespace Rows
def none {H : Type} : Left H := { results := [], args := [] }

/-- 'teamsterlaw.LineOrders': WHATEVER THE INPUT: true; the input reads as it did. -/
def lineOrdersSpec : ChangeSpec := { name := "lineOrders", fn := fun _ => fun
  | [d] => { results := [.lit (.bool true)], args := [d] }
  | _ => none }
def lineOrdersRow : OpenClaim := { program := "ytcogmedpeeigcaa", sum := "653242edf7561b4b8934acea3bd96c725a3fc86d2b6b7fdc1bb1b238a4b94d7f", func := "teamster/teamsterlaw.LineOrders", spec := "lineOrders", unfollowed := true, recurses := true, plainKeys := false, apart := false }
def LineOrdersSaid : Prop := lineOrdersRow.holds Try.pinned (OpenSpec.ofChange lineOrdersSpec)

/-- ITS FALSE NEIGHBOUR: 'it returns false'. Refute it at one input. -/
def lineOrdersWrong : ChangeSpec := { name := "lineOrders", fn := fun _ => fun
  | [d] => { results := [.lit (.bool false)], args := [d] }
  | _ => none }
def LineOrdersWrongFalsely : Prop := lineOrdersRow.holds Try.pinned (OpenSpec.ofChange lineOrdersWrong)

/-- 'teamsterlaw.CrowdCovers': WHATEVER THE INPUT: true; the input reads as it did. -/
def crowdCoversSpec : ChangeSpec := { name := "crowdCovers", fn := fun _ => fun
  | [d] => { results := [.lit (.bool true)], args := [d] }
  | _ => none }
def crowdCoversRow : OpenClaim := { program := "ytcogmedpeeigcaa", sum := "653242edf7561b4b8934acea3bd96c725a3fc86d2b6b7fdc1bb1b238a4b94d7f", func := "teamster/teamsterlaw.CrowdCovers", spec := "crowdCovers", plainKeys := false, apart := false }
def CrowdCoversSaid : Prop := crowdCoversRow.holds Try.pinned (OpenSpec.ofChange crowdCoversSpec)

/-- ITS FALSE NEIGHBOUR: 'it returns false'. Refute it at one input. -/
def crowdCoversWrong : ChangeSpec := { name := "crowdCovers", fn := fun _ => fun
  | [d] => { results := [.lit (.bool false)], args := [d] }
  | _ => none }
def CrowdCoversWrongFalsely : Prop := crowdCoversRow.holds Try.pinned (OpenSpec.ofChange crowdCoversWrong)

/-- 'teamsterlaw.SplitBests': WHATEVER THE INPUT: true; the input reads as it did. -/
def splitBestsSpec : ChangeSpec := { name := "splitBests", fn := fun _ => fun
  | [d1, d2] => { results := [.lit (.bool true)], args := [d1, d2] }
  | _ => none }
def splitBestsRow : OpenClaim := { program := "ytcogmedpeeigcaa", sum := "653242edf7561b4b8934acea3bd96c725a3fc86d2b6b7fdc1bb1b238a4b94d7f", func := "teamster/teamsterlaw.SplitBests", spec := "splitBests", unfollowed := true, recurses := true, plainKeys := false, apart := false }
def SplitBestsSaid : Prop := splitBestsRow.holds Try.pinned (OpenSpec.ofChange splitBestsSpec)

/-- ITS FALSE NEIGHBOUR: 'it returns false'. Refute it at one input. -/
def splitBestsWrong : ChangeSpec := { name := "splitBests", fn := fun _ => fun
  | [d1, d2] => { results := [.lit (.bool false)], args := [d1, d2] }
  | _ => none }
def SplitBestsWrongFalsely : Prop := splitBestsRow.holds Try.pinned (OpenSpec.ofChange splitBestsWrong)

/-- 'teamsterlaw.ShortFars': WHATEVER THE INPUT: true; the input reads as it did. -/
def shortFarsSpec : ChangeSpec := { name := "shortFars", fn := fun _ => fun
  | [d1, d2] => { results := [.lit (.bool true)], args := [d1, d2] }
  | _ => none }
def shortFarsRow : OpenClaim := { program := "ytcogmedpeeigcaa", sum := "653242edf7561b4b8934acea3bd96c725a3fc86d2b6b7fdc1bb1b238a4b94d7f", func := "teamster/teamsterlaw.ShortFars", spec := "shortFars", unfollowed := true, recurses := true, plainKeys := false, apart := false }
def ShortFarsSaid : Prop := shortFarsRow.holds Try.pinned (OpenSpec.ofChange shortFarsSpec)

/-- ITS FALSE NEIGHBOUR: 'it returns false'. Refute it at one input. -/
def shortFarsWrong : ChangeSpec := { name := "shortFars", fn := fun _ => fun
  | [d1, d2] => { results := [.lit (.bool false)], args := [d1, d2] }
  | _ => none }
def ShortFarsWrongFalsely : Prop := shortFarsRow.holds Try.pinned (OpenSpec.ofChange shortFarsWrong)

/-- 'teamsterlaw.ShortAlls': WHATEVER THE INPUT: true; the input reads as it did. -/
def shortAllsSpec : ChangeSpec := { name := "shortAlls", fn := fun _ => fun
  | [d] => { results := [.lit (.bool true)], args := [d] }
  | _ => none }
def shortAllsRow : OpenClaim := { program := "ytcogmedpeeigcaa", sum := "653242edf7561b4b8934acea3bd96c725a3fc86d2b6b7fdc1bb1b238a4b94d7f", func := "teamster/teamsterlaw.ShortAlls", spec := "shortAlls", unfollowed := true, recurses := true, plainKeys := false, apart := false }
def ShortAllsSaid : Prop := shortAllsRow.holds Try.pinned (OpenSpec.ofChange shortAllsSpec)

/-- ITS FALSE NEIGHBOUR: 'it returns false'. Refute it at one input. -/
def shortAllsWrong : ChangeSpec := { name := "shortAlls", fn := fun _ => fun
  | [d] => { results := [.lit (.bool false)], args := [d] }
  | _ => none }
def ShortAllsWrongFalsely : Prop := shortAllsRow.holds Try.pinned (OpenSpec.ofChange shortAllsWrong)

/-- 'teamsterlaw.FeeSpares': WHATEVER THE INPUT: true; the input reads as it did. -/
def feeSparesSpec : ChangeSpec := { name := "feeSpares", fn := fun _ => fun
  | [d1, d2] => { results := [.lit (.bool true)], args := [d1, d2] }
  | _ => none }
def feeSparesRow : OpenClaim := { program := "ytcogmedpeeigcaa", sum := "653242edf7561b4b8934acea3bd96c725a3fc86d2b6b7fdc1bb1b238a4b94d7f", func := "teamster/teamsterlaw.FeeSpares", spec := "feeSpares", unfollowed := true, recurses := true, plainKeys := false, apart := false }
def FeeSparesSaid : Prop := feeSparesRow.holds Try.pinned (OpenSpec.ofChange feeSparesSpec)

/-- ITS FALSE NEIGHBOUR: 'it returns false'. Refute it at one input. -/
def feeSparesWrong : ChangeSpec := { name := "feeSpares", fn := fun _ => fun
  | [d1, d2] => { results := [.lit (.bool false)], args := [d1, d2] }
  | _ => none }
def FeeSparesWrongFalsely : Prop := feeSparesRow.holds Try.pinned (OpenSpec.ofChange feeSparesWrong)

/-- 'teamsterlaw.QueueTwos': WHATEVER THE INPUT: true; the input reads as it did. -/
def queueTwosSpec : ChangeSpec := { name := "queueTwos", fn := fun _ => fun
  | [d1, d2] => { results := [.lit (.bool true)], args := [d1, d2] }
  | _ => none }
def queueTwosRow : OpenClaim := { program := "ytcogmedpeeigcaa", sum := "653242edf7561b4b8934acea3bd96c725a3fc86d2b6b7fdc1bb1b238a4b94d7f", func := "teamster/teamsterlaw.QueueTwos", spec := "queueTwos", unfollowed := true, recurses := true, plainKeys := false, apart := false }
def QueueTwosSaid : Prop := queueTwosRow.holds Try.pinned (OpenSpec.ofChange queueTwosSpec)

/-- ITS FALSE NEIGHBOUR: 'it returns false'. Refute it at one input. -/
def queueTwosWrong : ChangeSpec := { name := "queueTwos", fn := fun _ => fun
  | [d1, d2] => { results := [.lit (.bool false)], args := [d1, d2] }
  | _ => none }
def QueueTwosWrongFalsely : Prop := queueTwosRow.holds Try.pinned (OpenSpec.ofChange queueTwosWrong)

/-- 'teamsterlaw.SplitLists': WHATEVER THE INPUT: true; the input reads as it did. -/
def splitListsSpec : ChangeSpec := { name := "splitLists", fn := fun _ => fun
  | [d1, d2] => { results := [.lit (.bool true)], args := [d1, d2] }
  | _ => none }
def splitListsRow : OpenClaim := { program := "ytcogmedpeeigcaa", sum := "653242edf7561b4b8934acea3bd96c725a3fc86d2b6b7fdc1bb1b238a4b94d7f", func := "teamster/teamsterlaw.SplitLists", spec := "splitLists", unfollowed := true, recurses := true, plainKeys := false, apart := false }
def SplitListsSaid : Prop := splitListsRow.holds Try.pinned (OpenSpec.ofChange splitListsSpec)

/-- ITS FALSE NEIGHBOUR: 'it returns false'. Refute it at one input. -/
def splitListsWrong : ChangeSpec := { name := "splitLists", fn := fun _ => fun
  | [d1, d2] => { results := [.lit (.bool false)], args := [d1, d2] }
  | _ => none }
def SplitListsWrongFalsely : Prop := splitListsRow.holds Try.pinned (OpenSpec.ofChange splitListsWrong)

/-- 'teamsterlaw.WishHolds': WHATEVER THE INPUT: true; the input reads as it did. -/
def wishHoldsSpec : ChangeSpec := { name := "wishHolds", fn := fun _ => fun
  | [d1, d2] => { results := [.lit (.bool true)], args := [d1, d2] }
  | _ => none }
def wishHoldsRow : OpenClaim := { program := "ytcogmedpeeigcaa", sum := "653242edf7561b4b8934acea3bd96c725a3fc86d2b6b7fdc1bb1b238a4b94d7f", func := "teamster/teamsterlaw.WishHolds", spec := "wishHolds", plainKeys := false, apart := false }
def WishHoldsSaid : Prop := wishHoldsRow.holds Try.pinned (OpenSpec.ofChange wishHoldsSpec)

/-- ITS FALSE NEIGHBOUR: 'it returns false'. Refute it at one input. -/
def wishHoldsWrong : ChangeSpec := { name := "wishHolds", fn := fun _ => fun
  | [d1, d2] => { results := [.lit (.bool false)], args := [d1, d2] }
  | _ => none }
def WishHoldsWrongFalsely : Prop := wishHoldsRow.holds Try.pinned (OpenSpec.ofChange wishHoldsWrong)

/-- 'teamsterlaw.CircleCloses': WHATEVER THE INPUT: true; the input reads as it did. -/
def circleClosesSpec : ChangeSpec := { name := "circleCloses", fn := fun _ => fun
  | [d] => { results := [.lit (.bool true)], args := [d] }
  | _ => none }
def circleClosesRow : OpenClaim := { program := "ytcogmedpeeigcaa", sum := "653242edf7561b4b8934acea3bd96c725a3fc86d2b6b7fdc1bb1b238a4b94d7f", func := "teamster/teamsterlaw.CircleCloses", spec := "circleCloses", plainKeys := false, apart := false }
def CircleClosesSaid : Prop := circleClosesRow.holds Try.pinned (OpenSpec.ofChange circleClosesSpec)

/-- ITS FALSE NEIGHBOUR: 'it returns false'. Refute it at one input. -/
def circleClosesWrong : ChangeSpec := { name := "circleCloses", fn := fun _ => fun
  | [d] => { results := [.lit (.bool false)], args := [d] }
  | _ => none }
def CircleClosesWrongFalsely : Prop := circleClosesRow.holds Try.pinned (OpenSpec.ofChange circleClosesWrong)

/-- 'teamsterlaw.LineTimes': WHATEVER THE INPUT: true; the input reads as it did. -/
def lineTimesSpec : ChangeSpec := { name := "lineTimes", fn := fun _ => fun
  | [d] => { results := [.lit (.bool true)], args := [d] }
  | _ => none }
def lineTimesRow : OpenClaim := { program := "ytcogmedpeeigcaa", sum := "653242edf7561b4b8934acea3bd96c725a3fc86d2b6b7fdc1bb1b238a4b94d7f", func := "teamster/teamsterlaw.LineTimes", spec := "lineTimes", unfollowed := true, recurses := true, plainKeys := false, apart := false }
def LineTimesSaid : Prop := lineTimesRow.holds Try.pinned (OpenSpec.ofChange lineTimesSpec)

/-- ITS FALSE NEIGHBOUR: 'it returns false'. Refute it at one input. -/
def lineTimesWrong : ChangeSpec := { name := "lineTimes", fn := fun _ => fun
  | [d] => { results := [.lit (.bool false)], args := [d] }
  | _ => none }
def LineTimesWrongFalsely : Prop := lineTimesRow.holds Try.pinned (OpenSpec.ofChange lineTimesWrong)

/-- 'teamsterlaw.QueueLates': WHATEVER THE INPUT: true; the input reads as it did. -/
def queueLatesSpec : ChangeSpec := { name := "queueLates", fn := fun _ => fun
  | [d] => { results := [.lit (.bool true)], args := [d] }
  | _ => none }
def queueLatesRow : OpenClaim := { program := "ytcogmedpeeigcaa", sum := "653242edf7561b4b8934acea3bd96c725a3fc86d2b6b7fdc1bb1b238a4b94d7f", func := "teamster/teamsterlaw.QueueLates", spec := "queueLates", unfollowed := true, recurses := true, plainKeys := false, apart := false }
def QueueLatesSaid : Prop := queueLatesRow.holds Try.pinned (OpenSpec.ofChange queueLatesSpec)

/-- ITS FALSE NEIGHBOUR: 'it returns false'. Refute it at one input. -/
def queueLatesWrong : ChangeSpec := { name := "queueLates", fn := fun _ => fun
  | [d] => { results := [.lit (.bool false)], args := [d] }
  | _ => none }
def QueueLatesWrongFalsely : Prop := queueLatesRow.holds Try.pinned (OpenSpec.ofChange queueLatesWrong)

/- THE SECOND FORM. 'bulk': how many values and letters a reading holds, each counted each time it is reached (what is shared counts as often as it is met; a slice's spare places count too). A statement '..UptoSaid' is the law's where the arguments, and the package variables that the reading takes, are together of bulk at most 1048576: NARROWER than '..Said'. Prove '..Said' where nothing that the law and all that it calls make is longer than what came in: it says more and counts as full. Else prove '..UptoSaid'. A law counts once. -/
mutual
def uptoBulk {H : Type} : DataW H → Nat
  | .lit (.string bytes) => bytes.length + 1
  | .lit _ => 1
  | .nil => 1
  | .ptr d => uptoBulk d + 1
  | .slice elems spare => uptoBulkAll elems + uptoBulkAll spare + 1
  | .agg parts => uptoBulkAll parts + 1
  | .iface _ d => uptoBulk d + 1
  | .map entries => uptoBulkEntries entries + 1
  | .held _ => 1
def uptoBulkAll {H : Type} : List (DataW H) → Nat
  | [] => 0
  | d :: r => uptoBulk d + uptoBulkAll r
def uptoBulkEntries {H : Type} : List (Lit × DataW H) → Nat
  | [] => 0
  | x :: r => uptoBulkEntry x + uptoBulkEntries r
def uptoBulkEntry {H : Type} : Lit × DataW H → Nat
  | (.string bytes, d) => bytes.length + uptoBulk d + 1
  | (_, d) => uptoBulk d + 1
 end
def uptoSmall : (H : Type) → List (DataW H) → Bool := fun _ ds => decide (uptoBulkAll ds ≤ 1048576)
def OpenSpec.upto (s : _root_.Go.ChangeSpec) : _root_.Go.OpenSpec := { _root_.Go.OpenSpec.ofChange s with cond := some uptoSmall }

/-- 'teamsterlaw.LineOrders', WHERE WHAT IT READS IS OF BULK AT MOST 1048576: true; the input reads as it did. -/
def lineOrdersUptoRow : OpenClaim := { program := "ytcogmedpeeigcaa", sum := "653242edf7561b4b8934acea3bd96c725a3fc86d2b6b7fdc1bb1b238a4b94d7f", func := "teamster/teamsterlaw.LineOrders", spec := "lineOrders", unfollowed := true, recurses := true, plainKeys := false, apart := false, narrowed := true }
def LineOrdersUptoSaid : Prop := lineOrdersUptoRow.holds Try.pinned (OpenSpec.upto lineOrdersSpec)

/-- 'teamsterlaw.CrowdCovers', WHERE WHAT IT READS IS OF BULK AT MOST 1048576: true; the input reads as it did. -/
def crowdCoversUptoRow : OpenClaim := { program := "ytcogmedpeeigcaa", sum := "653242edf7561b4b8934acea3bd96c725a3fc86d2b6b7fdc1bb1b238a4b94d7f", func := "teamster/teamsterlaw.CrowdCovers", spec := "crowdCovers", plainKeys := false, apart := false, narrowed := true }
def CrowdCoversUptoSaid : Prop := crowdCoversUptoRow.holds Try.pinned (OpenSpec.upto crowdCoversSpec)

/-- 'teamsterlaw.SplitBests', WHERE WHAT IT READS IS OF BULK AT MOST 1048576: true; the input reads as it did. -/
def splitBestsUptoRow : OpenClaim := { program := "ytcogmedpeeigcaa", sum := "653242edf7561b4b8934acea3bd96c725a3fc86d2b6b7fdc1bb1b238a4b94d7f", func := "teamster/teamsterlaw.SplitBests", spec := "splitBests", unfollowed := true, recurses := true, plainKeys := false, apart := false, narrowed := true }
def SplitBestsUptoSaid : Prop := splitBestsUptoRow.holds Try.pinned (OpenSpec.upto splitBestsSpec)

/-- 'teamsterlaw.ShortFars', WHERE WHAT IT READS IS OF BULK AT MOST 1048576: true; the input reads as it did. -/
def shortFarsUptoRow : OpenClaim := { program := "ytcogmedpeeigcaa", sum := "653242edf7561b4b8934acea3bd96c725a3fc86d2b6b7fdc1bb1b238a4b94d7f", func := "teamster/teamsterlaw.ShortFars", spec := "shortFars", unfollowed := true, recurses := true, plainKeys := false, apart := false, narrowed := true }
def ShortFarsUptoSaid : Prop := shortFarsUptoRow.holds Try.pinned (OpenSpec.upto shortFarsSpec)

/-- 'teamsterlaw.ShortAlls', WHERE WHAT IT READS IS OF BULK AT MOST 1048576: true; the input reads as it did. -/
def shortAllsUptoRow : OpenClaim := { program := "ytcogmedpeeigcaa", sum := "653242edf7561b4b8934acea3bd96c725a3fc86d2b6b7fdc1bb1b238a4b94d7f", func := "teamster/teamsterlaw.ShortAlls", spec := "shortAlls", unfollowed := true, recurses := true, plainKeys := false, apart := false, narrowed := true }
def ShortAllsUptoSaid : Prop := shortAllsUptoRow.holds Try.pinned (OpenSpec.upto shortAllsSpec)

/-- 'teamsterlaw.FeeSpares', WHERE WHAT IT READS IS OF BULK AT MOST 1048576: true; the input reads as it did. -/
def feeSparesUptoRow : OpenClaim := { program := "ytcogmedpeeigcaa", sum := "653242edf7561b4b8934acea3bd96c725a3fc86d2b6b7fdc1bb1b238a4b94d7f", func := "teamster/teamsterlaw.FeeSpares", spec := "feeSpares", unfollowed := true, recurses := true, plainKeys := false, apart := false, narrowed := true }
def FeeSparesUptoSaid : Prop := feeSparesUptoRow.holds Try.pinned (OpenSpec.upto feeSparesSpec)

/-- 'teamsterlaw.QueueTwos', WHERE WHAT IT READS IS OF BULK AT MOST 1048576: true; the input reads as it did. -/
def queueTwosUptoRow : OpenClaim := { program := "ytcogmedpeeigcaa", sum := "653242edf7561b4b8934acea3bd96c725a3fc86d2b6b7fdc1bb1b238a4b94d7f", func := "teamster/teamsterlaw.QueueTwos", spec := "queueTwos", unfollowed := true, recurses := true, plainKeys := false, apart := false, narrowed := true }
def QueueTwosUptoSaid : Prop := queueTwosUptoRow.holds Try.pinned (OpenSpec.upto queueTwosSpec)

/-- 'teamsterlaw.SplitLists', WHERE WHAT IT READS IS OF BULK AT MOST 1048576: true; the input reads as it did. -/
def splitListsUptoRow : OpenClaim := { program := "ytcogmedpeeigcaa", sum := "653242edf7561b4b8934acea3bd96c725a3fc86d2b6b7fdc1bb1b238a4b94d7f", func := "teamster/teamsterlaw.SplitLists", spec := "splitLists", unfollowed := true, recurses := true, plainKeys := false, apart := false, narrowed := true }
def SplitListsUptoSaid : Prop := splitListsUptoRow.holds Try.pinned (OpenSpec.upto splitListsSpec)

/-- 'teamsterlaw.WishHolds', WHERE WHAT IT READS IS OF BULK AT MOST 1048576: true; the input reads as it did. -/
def wishHoldsUptoRow : OpenClaim := { program := "ytcogmedpeeigcaa", sum := "653242edf7561b4b8934acea3bd96c725a3fc86d2b6b7fdc1bb1b238a4b94d7f", func := "teamster/teamsterlaw.WishHolds", spec := "wishHolds", plainKeys := false, apart := false, narrowed := true }
def WishHoldsUptoSaid : Prop := wishHoldsUptoRow.holds Try.pinned (OpenSpec.upto wishHoldsSpec)

/-- 'teamsterlaw.CircleCloses', WHERE WHAT IT READS IS OF BULK AT MOST 1048576: true; the input reads as it did. -/
def circleClosesUptoRow : OpenClaim := { program := "ytcogmedpeeigcaa", sum := "653242edf7561b4b8934acea3bd96c725a3fc86d2b6b7fdc1bb1b238a4b94d7f", func := "teamster/teamsterlaw.CircleCloses", spec := "circleCloses", plainKeys := false, apart := false, narrowed := true }
def CircleClosesUptoSaid : Prop := circleClosesUptoRow.holds Try.pinned (OpenSpec.upto circleClosesSpec)

/-- 'teamsterlaw.LineTimes', WHERE WHAT IT READS IS OF BULK AT MOST 1048576: true; the input reads as it did. -/
def lineTimesUptoRow : OpenClaim := { program := "ytcogmedpeeigcaa", sum := "653242edf7561b4b8934acea3bd96c725a3fc86d2b6b7fdc1bb1b238a4b94d7f", func := "teamster/teamsterlaw.LineTimes", spec := "lineTimes", unfollowed := true, recurses := true, plainKeys := false, apart := false, narrowed := true }
def LineTimesUptoSaid : Prop := lineTimesUptoRow.holds Try.pinned (OpenSpec.upto lineTimesSpec)

/-- 'teamsterlaw.QueueLates', WHERE WHAT IT READS IS OF BULK AT MOST 1048576: true; the input reads as it did. -/
def queueLatesUptoRow : OpenClaim := { program := "ytcogmedpeeigcaa", sum := "653242edf7561b4b8934acea3bd96c725a3fc86d2b6b7fdc1bb1b238a4b94d7f", func := "teamster/teamsterlaw.QueueLates", spec := "queueLates", unfollowed := true, recurses := true, plainKeys := false, apart := false, narrowed := true }
def QueueLatesUptoSaid : Prop := queueLatesUptoRow.holds Try.pinned (OpenSpec.upto queueLatesSpec)

end Rows
end Go.Proofs.Ytcogmedpeeigcaa
