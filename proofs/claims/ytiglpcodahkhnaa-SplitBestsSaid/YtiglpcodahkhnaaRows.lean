/-
  No cell of these rows narrows 'for every input' (looked for: loops, veiled, ifaces, maps, wideKeys, modest, calm, conditions, laid).
  DERIVED. THE GIVEN ROWS OF THIS SEAT. 12 by the template 'for every input the law returns true; each argument reads behind the call as it read before'; 0 by the template 'total and deterministic' (their statements: YtiglpcodahkhnaaTotals.lean).
  GIVEN WITH THE SEED: the statements are not yours to turn. If you find one false, say at which input.
  Laid BY PROGRAM, IN A SANDBOX (cutbox-rows.mjs): the forced cells as the released guide's own fill.sh prints them over the translation ee83669b56e31ed0… (all of the seat's roots in one cut). By AI agents, Wed Nov 11 2026. No macro, syntax, notation, axiom, sorry.
-/
import Derived.Test.YtiglpcodahkhnaaChecked
import GoSem.Claim
import GoSem.ClaimJoined
import GoSem.ClaimMapViews
import Derived.JoinedTies
import Derived.KernelRfl
namespace Go.Proofs.Ytiglpcodahkhnaa
/- THE CELL 'sum', in the pinned program and in every row, IS THE sha256 OF THE DUMP (.gsa) THAT YtiglpcodahkhnaaProg.lean LOADS. Nothing in Lean hashes anything: it is a label: what it is worth is what the hold of that sum in a sandbox is worth. -/
noncomputable def Try.pinned : Pinned := { name := "ytiglpcodahkhnaa", sum := "ee83669b56e31ed099edfd16fb4377fa12c18c15d27712ad3084921f5e45fcb5", checked := Try.checked }
namespace Rows
def none {H : Type} : Left H := { results := [], args := [] }

/-- 'teamsterlaw.SplitBests': WHATEVER THE INPUT: true; the input reads as it did. -/
def splitBestsSpec : ChangeSpec := { name := "splitBests", fn := fun _ => fun
  | [d1, d2] => { results := [.lit (.bool true)], args := [d1, d2] }
  | _ => none }
def splitBestsRow : OpenClaim := { program := "ytiglpcodahkhnaa", sum := "ee83669b56e31ed099edfd16fb4377fa12c18c15d27712ad3084921f5e45fcb5", func := "teamster/teamsterlaw.SplitBests", spec := "splitBests", unfollowed := true, recurses := true, plainKeys := false, apart := false }
def SplitBestsSaid : Prop := splitBestsRow.holds Try.pinned (OpenSpec.ofChange splitBestsSpec)

/-- ITS FALSE NEIGHBOUR: 'it returns false'. Refute it at one input. -/
def splitBestsWrong : ChangeSpec := { name := "splitBests", fn := fun _ => fun
  | [d1, d2] => { results := [.lit (.bool false)], args := [d1, d2] }
  | _ => none }
def SplitBestsWrongFalsely : Prop := splitBestsRow.holds Try.pinned (OpenSpec.ofChange splitBestsWrong)

/-- 'teamsterlaw.ShortFars': WHATEVER THE INPUT: true; the input reads as it did. -/
def shortFarsSpec : ChangeSpec := { name := "shortFars", fn := fun _ => fun
  | [d1, d2] => { results := [.lit (.bool true)], args := [d1, d2] }
  | _ => none }
def shortFarsRow : OpenClaim := { program := "ytiglpcodahkhnaa", sum := "ee83669b56e31ed099edfd16fb4377fa12c18c15d27712ad3084921f5e45fcb5", func := "teamster/teamsterlaw.ShortFars", spec := "shortFars", unfollowed := true, recurses := true, plainKeys := false, apart := false }
def ShortFarsSaid : Prop := shortFarsRow.holds Try.pinned (OpenSpec.ofChange shortFarsSpec)

/-- ITS FALSE NEIGHBOUR: 'it returns false'. Refute it at one input. -/
def shortFarsWrong : ChangeSpec := { name := "shortFars", fn := fun _ => fun
  | [d1, d2] => { results := [.lit (.bool false)], args := [d1, d2] }
  | _ => none }
def ShortFarsWrongFalsely : Prop := shortFarsRow.holds Try.pinned (OpenSpec.ofChange shortFarsWrong)

/-- 'teamsterlaw.ShortAlls': WHATEVER THE INPUT: true; the input reads as it did. -/
def shortAllsSpec : ChangeSpec := { name := "shortAlls", fn := fun _ => fun
  | [d] => { results := [.lit (.bool true)], args := [d] }
  | _ => none }
def shortAllsRow : OpenClaim := { program := "ytiglpcodahkhnaa", sum := "ee83669b56e31ed099edfd16fb4377fa12c18c15d27712ad3084921f5e45fcb5", func := "teamster/teamsterlaw.ShortAlls", spec := "shortAlls", unfollowed := true, recurses := true, plainKeys := false, apart := false }
def ShortAllsSaid : Prop := shortAllsRow.holds Try.pinned (OpenSpec.ofChange shortAllsSpec)

/-- ITS FALSE NEIGHBOUR: 'it returns false'. Refute it at one input. -/
def shortAllsWrong : ChangeSpec := { name := "shortAlls", fn := fun _ => fun
  | [d] => { results := [.lit (.bool false)], args := [d] }
  | _ => none }
def ShortAllsWrongFalsely : Prop := shortAllsRow.holds Try.pinned (OpenSpec.ofChange shortAllsWrong)

/-- 'teamsterlaw.FeeSpares': WHATEVER THE INPUT: true; the input reads as it did. -/
def feeSparesSpec : ChangeSpec := { name := "feeSpares", fn := fun _ => fun
  | [d1, d2] => { results := [.lit (.bool true)], args := [d1, d2] }
  | _ => none }
def feeSparesRow : OpenClaim := { program := "ytiglpcodahkhnaa", sum := "ee83669b56e31ed099edfd16fb4377fa12c18c15d27712ad3084921f5e45fcb5", func := "teamster/teamsterlaw.FeeSpares", spec := "feeSpares", unfollowed := true, recurses := true, plainKeys := false, apart := false }
def FeeSparesSaid : Prop := feeSparesRow.holds Try.pinned (OpenSpec.ofChange feeSparesSpec)

/-- ITS FALSE NEIGHBOUR: 'it returns false'. Refute it at one input. -/
def feeSparesWrong : ChangeSpec := { name := "feeSpares", fn := fun _ => fun
  | [d1, d2] => { results := [.lit (.bool false)], args := [d1, d2] }
  | _ => none }
def FeeSparesWrongFalsely : Prop := feeSparesRow.holds Try.pinned (OpenSpec.ofChange feeSparesWrong)

/-- 'teamsterlaw.CircleCloses': WHATEVER THE INPUT: true; the input reads as it did. -/
def circleClosesSpec : ChangeSpec := { name := "circleCloses", fn := fun _ => fun
  | [d] => { results := [.lit (.bool true)], args := [d] }
  | _ => none }
def circleClosesRow : OpenClaim := { program := "ytiglpcodahkhnaa", sum := "ee83669b56e31ed099edfd16fb4377fa12c18c15d27712ad3084921f5e45fcb5", func := "teamster/teamsterlaw.CircleCloses", spec := "circleCloses", plainKeys := false, apart := false }
def CircleClosesSaid : Prop := circleClosesRow.holds Try.pinned (OpenSpec.ofChange circleClosesSpec)

/-- ITS FALSE NEIGHBOUR: 'it returns false'. Refute it at one input. -/
def circleClosesWrong : ChangeSpec := { name := "circleCloses", fn := fun _ => fun
  | [d] => { results := [.lit (.bool false)], args := [d] }
  | _ => none }
def CircleClosesWrongFalsely : Prop := circleClosesRow.holds Try.pinned (OpenSpec.ofChange circleClosesWrong)

/-- 'teamsterlaw.LineTimes': WHATEVER THE INPUT: true; the input reads as it did. -/
def lineTimesSpec : ChangeSpec := { name := "lineTimes", fn := fun _ => fun
  | [d] => { results := [.lit (.bool true)], args := [d] }
  | _ => none }
def lineTimesRow : OpenClaim := { program := "ytiglpcodahkhnaa", sum := "ee83669b56e31ed099edfd16fb4377fa12c18c15d27712ad3084921f5e45fcb5", func := "teamster/teamsterlaw.LineTimes", spec := "lineTimes", unfollowed := true, recurses := true, plainKeys := false, apart := false }
def LineTimesSaid : Prop := lineTimesRow.holds Try.pinned (OpenSpec.ofChange lineTimesSpec)

/-- ITS FALSE NEIGHBOUR: 'it returns false'. Refute it at one input. -/
def lineTimesWrong : ChangeSpec := { name := "lineTimes", fn := fun _ => fun
  | [d] => { results := [.lit (.bool false)], args := [d] }
  | _ => none }
def LineTimesWrongFalsely : Prop := lineTimesRow.holds Try.pinned (OpenSpec.ofChange lineTimesWrong)

/-- 'teamsterlaw.QueueTwos': WHATEVER THE INPUT: true; the input reads as it did. -/
def queueTwosSpec : ChangeSpec := { name := "queueTwos", fn := fun _ => fun
  | [d1, d2] => { results := [.lit (.bool true)], args := [d1, d2] }
  | _ => none }
def queueTwosRow : OpenClaim := { program := "ytiglpcodahkhnaa", sum := "ee83669b56e31ed099edfd16fb4377fa12c18c15d27712ad3084921f5e45fcb5", func := "teamster/teamsterlaw.QueueTwos", spec := "queueTwos", unfollowed := true, recurses := true, plainKeys := false, apart := false }
def QueueTwosSaid : Prop := queueTwosRow.holds Try.pinned (OpenSpec.ofChange queueTwosSpec)

/-- ITS FALSE NEIGHBOUR: 'it returns false'. Refute it at one input. -/
def queueTwosWrong : ChangeSpec := { name := "queueTwos", fn := fun _ => fun
  | [d1, d2] => { results := [.lit (.bool false)], args := [d1, d2] }
  | _ => none }
def QueueTwosWrongFalsely : Prop := queueTwosRow.holds Try.pinned (OpenSpec.ofChange queueTwosWrong)

/-- 'teamsterlaw.WishHolds': WHATEVER THE INPUT: true; the input reads as it did. -/
def wishHoldsSpec : ChangeSpec := { name := "wishHolds", fn := fun _ => fun
  | [d1, d2] => { results := [.lit (.bool true)], args := [d1, d2] }
  | _ => none }
def wishHoldsRow : OpenClaim := { program := "ytiglpcodahkhnaa", sum := "ee83669b56e31ed099edfd16fb4377fa12c18c15d27712ad3084921f5e45fcb5", func := "teamster/teamsterlaw.WishHolds", spec := "wishHolds", plainKeys := false, apart := false }
def WishHoldsSaid : Prop := wishHoldsRow.holds Try.pinned (OpenSpec.ofChange wishHoldsSpec)

/-- ITS FALSE NEIGHBOUR: 'it returns false'. Refute it at one input. -/
def wishHoldsWrong : ChangeSpec := { name := "wishHolds", fn := fun _ => fun
  | [d1, d2] => { results := [.lit (.bool false)], args := [d1, d2] }
  | _ => none }
def WishHoldsWrongFalsely : Prop := wishHoldsRow.holds Try.pinned (OpenSpec.ofChange wishHoldsWrong)

/-- 'teamstertop.TopRoom': WHATEVER THE INPUT: true; the input reads as it did. -/
def topRoomSpec : ChangeSpec := { name := "topRoom", fn := fun _ => fun
  | [d1, d2, d3] => { results := [.lit (.bool true)], args := [d1, d2, d3] }
  | _ => none }
def topRoomRow : OpenClaim := { program := "ytiglpcodahkhnaa", sum := "ee83669b56e31ed099edfd16fb4377fa12c18c15d27712ad3084921f5e45fcb5", func := "teamster/teamstertop.TopRoom", spec := "topRoom", unfollowed := true, recurses := true, plainKeys := false, apart := false }
def TopRoomSaid : Prop := topRoomRow.holds Try.pinned (OpenSpec.ofChange topRoomSpec)

/-- ITS FALSE NEIGHBOUR: 'it returns false'. Refute it at one input. -/
def topRoomWrong : ChangeSpec := { name := "topRoom", fn := fun _ => fun
  | [d1, d2, d3] => { results := [.lit (.bool false)], args := [d1, d2, d3] }
  | _ => none }
def TopRoomWrongFalsely : Prop := topRoomRow.holds Try.pinned (OpenSpec.ofChange topRoomWrong)

/-- 'teamstertop.TopStill': WHATEVER THE INPUT: true; the input reads as it did. -/
def topStillSpec : ChangeSpec := { name := "topStill", fn := fun _ => fun
  | [d1, d2, d3] => { results := [.lit (.bool true)], args := [d1, d2, d3] }
  | _ => none }
def topStillRow : OpenClaim := { program := "ytiglpcodahkhnaa", sum := "ee83669b56e31ed099edfd16fb4377fa12c18c15d27712ad3084921f5e45fcb5", func := "teamster/teamstertop.TopStill", spec := "topStill", unfollowed := true, recurses := true, plainKeys := false, apart := false }
def TopStillSaid : Prop := topStillRow.holds Try.pinned (OpenSpec.ofChange topStillSpec)

/-- ITS FALSE NEIGHBOUR: 'it returns false'. Refute it at one input. -/
def topStillWrong : ChangeSpec := { name := "topStill", fn := fun _ => fun
  | [d1, d2, d3] => { results := [.lit (.bool false)], args := [d1, d2, d3] }
  | _ => none }
def TopStillWrongFalsely : Prop := topStillRow.holds Try.pinned (OpenSpec.ofChange topStillWrong)

/-- 'teamstertop.TopLeft': WHATEVER THE INPUT: true; the input reads as it did. -/
def topLeftSpec : ChangeSpec := { name := "topLeft", fn := fun _ => fun
  | [d1, d2, d3, d4] => { results := [.lit (.bool true)], args := [d1, d2, d3, d4] }
  | _ => none }
def topLeftRow : OpenClaim := { program := "ytiglpcodahkhnaa", sum := "ee83669b56e31ed099edfd16fb4377fa12c18c15d27712ad3084921f5e45fcb5", func := "teamster/teamstertop.TopLeft", spec := "topLeft", unfollowed := true, recurses := true, plainKeys := false, apart := false }
def TopLeftSaid : Prop := topLeftRow.holds Try.pinned (OpenSpec.ofChange topLeftSpec)

/-- ITS FALSE NEIGHBOUR: 'it returns false'. Refute it at one input. -/
def topLeftWrong : ChangeSpec := { name := "topLeft", fn := fun _ => fun
  | [d1, d2, d3, d4] => { results := [.lit (.bool false)], args := [d1, d2, d3, d4] }
  | _ => none }
def TopLeftWrongFalsely : Prop := topLeftRow.holds Try.pinned (OpenSpec.ofChange topLeftWrong)

/-- 'teamsterlaw.CrewPlays': WHATEVER THE INPUT: true; the input reads as it did. -/
def crewPlaysSpec : ChangeSpec := { name := "crewPlays", fn := fun _ => fun
  | [d1, d2, d3] => { results := [.lit (.bool true)], args := [d1, d2, d3] }
  | _ => none }
def crewPlaysRow : OpenClaim := { program := "ytiglpcodahkhnaa", sum := "ee83669b56e31ed099edfd16fb4377fa12c18c15d27712ad3084921f5e45fcb5", func := "teamster/teamsterlaw.CrewPlays", spec := "crewPlays", unfollowed := true, recurses := true, plainKeys := false, apart := false }
def CrewPlaysSaid : Prop := crewPlaysRow.holds Try.pinned (OpenSpec.ofChange crewPlaysSpec)

/-- ITS FALSE NEIGHBOUR: 'it returns false'. Refute it at one input. -/
def crewPlaysWrong : ChangeSpec := { name := "crewPlays", fn := fun _ => fun
  | [d1, d2, d3] => { results := [.lit (.bool false)], args := [d1, d2, d3] }
  | _ => none }
def CrewPlaysWrongFalsely : Prop := crewPlaysRow.holds Try.pinned (OpenSpec.ofChange crewPlaysWrong)

/- THE SECOND FORM. 'bulk': how many values and letters a reading holds, each counted each time it is reached (what is shared counts as often as it is met; a slice's spare places count too). A statement '..UptoSaid' is the law's where the arguments, and the package variables that the reading takes, are together of bulk at most 1048576: NARROWER than '..Said'. Prove '..Said' where nothing that the law and all that it calls make is longer than what came in: it says more and counts as full. Else prove '..UptoSaid'. A law counts once. -/
mutual
def uptoBulk {H : Type} : DataW H → Nat
  | .lit (.string bytes) => bytes.length + 1
  | .lit _ => 1
  | .nil => 1
  | .ptr d => uptoBulk d + 1
  | .slice elems spare => uptoBulkAll elems + uptoBulkAll spare + 1
  | .agg parts => uptoBulkAll parts + 1
  | .iface _ d => uptoBulk d + 1
  | .map entries => uptoBulkEntries entries + 1
  | .held _ => 1
def uptoBulkAll {H : Type} : List (DataW H) → Nat
  | [] => 0
  | d :: r => uptoBulk d + uptoBulkAll r
def uptoBulkEntries {H : Type} : List (Lit × DataW H) → Nat
  | [] => 0
  | x :: r => uptoBulkEntry x + uptoBulkEntries r
def uptoBulkEntry {H : Type} : Lit × DataW H → Nat
  | (.string bytes, d) => bytes.length + uptoBulk d + 1
  | (_, d) => uptoBulk d + 1
 end
def uptoSmall : (H : Type) → List (DataW H) → Bool := fun _ ds => decide (uptoBulkAll ds ≤ 1048576)
def OpenSpec.upto (s : _root_.Go.ChangeSpec) : _root_.Go.OpenSpec := { _root_.Go.OpenSpec.ofChange s with cond := some uptoSmall }

/-- 'teamsterlaw.SplitBests', WHERE WHAT IT READS IS OF BULK AT MOST 1048576: true; the input reads as it did. -/
def splitBestsUptoRow : OpenClaim := { program := "ytiglpcodahkhnaa", sum := "ee83669b56e31ed099edfd16fb4377fa12c18c15d27712ad3084921f5e45fcb5", func := "teamster/teamsterlaw.SplitBests", spec := "splitBests", unfollowed := true, recurses := true, plainKeys := false, apart := false, narrowed := true }
def SplitBestsUptoSaid : Prop := splitBestsUptoRow.holds Try.pinned (OpenSpec.upto splitBestsSpec)

/-- 'teamsterlaw.ShortFars', WHERE WHAT IT READS IS OF BULK AT MOST 1048576: true; the input reads as it did. -/
def shortFarsUptoRow : OpenClaim := { program := "ytiglpcodahkhnaa", sum := "ee83669b56e31ed099edfd16fb4377fa12c18c15d27712ad3084921f5e45fcb5", func := "teamster/teamsterlaw.ShortFars", spec := "shortFars", unfollowed := true, recurses := true, plainKeys := false, apart := false, narrowed := true }
def ShortFarsUptoSaid : Prop := shortFarsUptoRow.holds Try.pinned (OpenSpec.upto shortFarsSpec)

/-- 'teamsterlaw.ShortAlls', WHERE WHAT IT READS IS OF BULK AT MOST 1048576: true; the input reads as it did. -/
def shortAllsUptoRow : OpenClaim := { program := "ytiglpcodahkhnaa", sum := "ee83669b56e31ed099edfd16fb4377fa12c18c15d27712ad3084921f5e45fcb5", func := "teamster/teamsterlaw.ShortAlls", spec := "shortAlls", unfollowed := true, recurses := true, plainKeys := false, apart := false, narrowed := true }
def ShortAllsUptoSaid : Prop := shortAllsUptoRow.holds Try.pinned (OpenSpec.upto shortAllsSpec)

/-- 'teamsterlaw.FeeSpares', WHERE WHAT IT READS IS OF BULK AT MOST 1048576: true; the input reads as it did. -/
def feeSparesUptoRow : OpenClaim := { program := "ytiglpcodahkhnaa", sum := "ee83669b56e31ed099edfd16fb4377fa12c18c15d27712ad3084921f5e45fcb5", func := "teamster/teamsterlaw.FeeSpares", spec := "feeSpares", unfollowed := true, recurses := true, plainKeys := false, apart := false, narrowed := true }
def FeeSparesUptoSaid : Prop := feeSparesUptoRow.holds Try.pinned (OpenSpec.upto feeSparesSpec)

/-- 'teamsterlaw.CircleCloses', WHERE WHAT IT READS IS OF BULK AT MOST 1048576: true; the input reads as it did. -/
def circleClosesUptoRow : OpenClaim := { program := "ytiglpcodahkhnaa", sum := "ee83669b56e31ed099edfd16fb4377fa12c18c15d27712ad3084921f5e45fcb5", func := "teamster/teamsterlaw.CircleCloses", spec := "circleCloses", plainKeys := false, apart := false, narrowed := true }
def CircleClosesUptoSaid : Prop := circleClosesUptoRow.holds Try.pinned (OpenSpec.upto circleClosesSpec)

/-- 'teamsterlaw.LineTimes', WHERE WHAT IT READS IS OF BULK AT MOST 1048576: true; the input reads as it did. -/
def lineTimesUptoRow : OpenClaim := { program := "ytiglpcodahkhnaa", sum := "ee83669b56e31ed099edfd16fb4377fa12c18c15d27712ad3084921f5e45fcb5", func := "teamster/teamsterlaw.LineTimes", spec := "lineTimes", unfollowed := true, recurses := true, plainKeys := false, apart := false, narrowed := true }
def LineTimesUptoSaid : Prop := lineTimesUptoRow.holds Try.pinned (OpenSpec.upto lineTimesSpec)

/-- 'teamsterlaw.QueueTwos', WHERE WHAT IT READS IS OF BULK AT MOST 1048576: true; the input reads as it did. -/
def queueTwosUptoRow : OpenClaim := { program := "ytiglpcodahkhnaa", sum := "ee83669b56e31ed099edfd16fb4377fa12c18c15d27712ad3084921f5e45fcb5", func := "teamster/teamsterlaw.QueueTwos", spec := "queueTwos", unfollowed := true, recurses := true, plainKeys := false, apart := false, narrowed := true }
def QueueTwosUptoSaid : Prop := queueTwosUptoRow.holds Try.pinned (OpenSpec.upto queueTwosSpec)

/-- 'teamsterlaw.WishHolds', WHERE WHAT IT READS IS OF BULK AT MOST 1048576: true; the input reads as it did. -/
def wishHoldsUptoRow : OpenClaim := { program := "ytiglpcodahkhnaa", sum := "ee83669b56e31ed099edfd16fb4377fa12c18c15d27712ad3084921f5e45fcb5", func := "teamster/teamsterlaw.WishHolds", spec := "wishHolds", plainKeys := false, apart := false, narrowed := true }
def WishHoldsUptoSaid : Prop := wishHoldsUptoRow.holds Try.pinned (OpenSpec.upto wishHoldsSpec)

/-- 'teamstertop.TopRoom', WHERE WHAT IT READS IS OF BULK AT MOST 1048576: true; the input reads as it did. -/
def topRoomUptoRow : OpenClaim := { program := "ytiglpcodahkhnaa", sum := "ee83669b56e31ed099edfd16fb4377fa12c18c15d27712ad3084921f5e45fcb5", func := "teamster/teamstertop.TopRoom", spec := "topRoom", unfollowed := true, recurses := true, plainKeys := false, apart := false, narrowed := true }
def TopRoomUptoSaid : Prop := topRoomUptoRow.holds Try.pinned (OpenSpec.upto topRoomSpec)

/-- 'teamstertop.TopStill', WHERE WHAT IT READS IS OF BULK AT MOST 1048576: true; the input reads as it did. -/
def topStillUptoRow : OpenClaim := { program := "ytiglpcodahkhnaa", sum := "ee83669b56e31ed099edfd16fb4377fa12c18c15d27712ad3084921f5e45fcb5", func := "teamster/teamstertop.TopStill", spec := "topStill", unfollowed := true, recurses := true, plainKeys := false, apart := false, narrowed := true }
def TopStillUptoSaid : Prop := topStillUptoRow.holds Try.pinned (OpenSpec.upto topStillSpec)

/-- 'teamstertop.TopLeft', WHERE WHAT IT READS IS OF BULK AT MOST 1048576: true; the input reads as it did. -/
def topLeftUptoRow : OpenClaim := { program := "ytiglpcodahkhnaa", sum := "ee83669b56e31ed099edfd16fb4377fa12c18c15d27712ad3084921f5e45fcb5", func := "teamster/teamstertop.TopLeft", spec := "topLeft", unfollowed := true, recurses := true, plainKeys := false, apart := false, narrowed := true }
def TopLeftUptoSaid : Prop := topLeftUptoRow.holds Try.pinned (OpenSpec.upto topLeftSpec)

/-- 'teamsterlaw.CrewPlays', WHERE WHAT IT READS IS OF BULK AT MOST 1048576: true; the input reads as it did. -/
def crewPlaysUptoRow : OpenClaim := { program := "ytiglpcodahkhnaa", sum := "ee83669b56e31ed099edfd16fb4377fa12c18c15d27712ad3084921f5e45fcb5", func := "teamster/teamsterlaw.CrewPlays", spec := "crewPlays", unfollowed := true, recurses := true, plainKeys := false, apart := false, narrowed := true }
def CrewPlaysUptoSaid : Prop := crewPlaysUptoRow.holds Try.pinned (OpenSpec.upto crewPlaysSpec)

end Rows
end Go.Proofs.Ytiglpcodahkhnaa
