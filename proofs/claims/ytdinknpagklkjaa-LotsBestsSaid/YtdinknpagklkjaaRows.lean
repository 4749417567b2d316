/-
  No cell of these rows narrows 'for every input' (looked for: loops, veiled, ifaces, maps, wideKeys, modest, calm, conditions, laid).
  DERIVED. THE GIVEN ROWS OF THIS SEAT. 9 by the template 'for every input the law returns true; each argument reads behind the call as it read before'; 0 by the template 'total and deterministic' (their statements: YtdinknpagklkjaaTotals.lean).
  GIVEN WITH THE SEED: the statements are not yours to turn. If you find one false, say at which input.
  Laid BY PROGRAM, IN A SANDBOX (cutbox-rows.mjs): the forced cells as the released guide's own fill.sh prints them over the translation 3efa5324f09894c7… (all of the seat's roots in one cut). By AI agents, Wed Nov 11 2026. No macro, syntax, notation, axiom, sorry.
-/
import Derived.Test.YtdinknpagklkjaaChecked
import GoSem.Claim
import GoSem.ClaimJoined
import GoSem.ClaimMapViews
import Derived.JoinedTies
import Derived.KernelRfl
namespace Go.Proofs.Ytdinknpagklkjaa
/- THE CELL 'sum', in the pinned program and in every row, IS THE sha256 OF THE DUMP (.gsa) THAT YtdinknpagklkjaaProg.lean LOADS. Nothing in Lean hashes anything: it is a label: what it is worth is what the hold of that sum in a sandbox is worth. -/
noncomputable def Try.pinned : Pinned := { name := "ytdinknpagklkjaa", sum := "3efa5324f09894c73e66e4589c8ec218318e996085c77cb0ad60e60c7161f777", checked := Try.checked }
namespace Rows
def none {H : Type} : Left H := { results := [], args := [] }

/-- 'teamstertop.TopRoom': WHATEVER THE INPUT: true; the input reads as it did. -/
def topRoomSpec : ChangeSpec := { name := "topRoom", fn := fun _ => fun
  | [d1, d2, d3] => { results := [.lit (.bool true)], args := [d1, d2, d3] }
  | _ => none }
def topRoomRow : OpenClaim := { program := "ytdinknpagklkjaa", sum := "3efa5324f09894c73e66e4589c8ec218318e996085c77cb0ad60e60c7161f777", func := "teamster/teamstertop.TopRoom", spec := "topRoom", unfollowed := true, recurses := true, plainKeys := false, apart := false }
def TopRoomSaid : Prop := topRoomRow.holds Try.pinned (OpenSpec.ofChange topRoomSpec)

/-- ITS FALSE NEIGHBOUR: 'it returns false'. Refute it at one input. -/
def topRoomWrong : ChangeSpec := { name := "topRoom", fn := fun _ => fun
  | [d1, d2, d3] => { results := [.lit (.bool false)], args := [d1, d2, d3] }
  | _ => none }
def TopRoomWrongFalsely : Prop := topRoomRow.holds Try.pinned (OpenSpec.ofChange topRoomWrong)

/-- 'teamstertop.TopStill': WHATEVER THE INPUT: true; the input reads as it did. -/
def topStillSpec : ChangeSpec := { name := "topStill", fn := fun _ => fun
  | [d1, d2, d3] => { results := [.lit (.bool true)], args := [d1, d2, d3] }
  | _ => none }
def topStillRow : OpenClaim := { program := "ytdinknpagklkjaa", sum := "3efa5324f09894c73e66e4589c8ec218318e996085c77cb0ad60e60c7161f777", func := "teamster/teamstertop.TopStill", spec := "topStill", unfollowed := true, recurses := true, plainKeys := false, apart := false }
def TopStillSaid : Prop := topStillRow.holds Try.pinned (OpenSpec.ofChange topStillSpec)

/-- ITS FALSE NEIGHBOUR: 'it returns false'. Refute it at one input. -/
def topStillWrong : ChangeSpec := { name := "topStill", fn := fun _ => fun
  | [d1, d2, d3] => { results := [.lit (.bool false)], args := [d1, d2, d3] }
  | _ => none }
def TopStillWrongFalsely : Prop := topStillRow.holds Try.pinned (OpenSpec.ofChange topStillWrong)

/-- 'teamstertop.TopLeft': WHATEVER THE INPUT: true; the input reads as it did. -/
def topLeftSpec : ChangeSpec := { name := "topLeft", fn := fun _ => fun
  | [d1, d2, d3, d4] => { results := [.lit (.bool true)], args := [d1, d2, d3, d4] }
  | _ => none }
def topLeftRow : OpenClaim := { program := "ytdinknpagklkjaa", sum := "3efa5324f09894c73e66e4589c8ec218318e996085c77cb0ad60e60c7161f777", func := "teamster/teamstertop.TopLeft", spec := "topLeft", unfollowed := true, recurses := true, plainKeys := false, apart := false }
def TopLeftSaid : Prop := topLeftRow.holds Try.pinned (OpenSpec.ofChange topLeftSpec)

/-- ITS FALSE NEIGHBOUR: 'it returns false'. Refute it at one input. -/
def topLeftWrong : ChangeSpec := { name := "topLeft", fn := fun _ => fun
  | [d1, d2, d3, d4] => { results := [.lit (.bool false)], args := [d1, d2, d3, d4] }
  | _ => none }
def TopLeftWrongFalsely : Prop := topLeftRow.holds Try.pinned (OpenSpec.ofChange topLeftWrong)

/-- 'teamsterlaw.PlaceMost': WHATEVER THE INPUT: true; the input reads as it did. -/
def placeMostSpec : ChangeSpec := { name := "placeMost", fn := fun _ => fun
  | [d1, d2] => { results := [.lit (.bool true)], args := [d1, d2] }
  | _ => none }
def placeMostRow : OpenClaim := { program := "ytdinknpagklkjaa", sum := "3efa5324f09894c73e66e4589c8ec218318e996085c77cb0ad60e60c7161f777", func := "teamster/teamsterlaw.PlaceMost", spec := "placeMost", unfollowed := true, recurses := true, plainKeys := false, apart := false }
def PlaceMostSaid : Prop := placeMostRow.holds Try.pinned (OpenSpec.ofChange placeMostSpec)

/-- ITS FALSE NEIGHBOUR: 'it returns false'. Refute it at one input. -/
def placeMostWrong : ChangeSpec := { name := "placeMost", fn := fun _ => fun
  | [d1, d2] => { results := [.lit (.bool false)], args := [d1, d2] }
  | _ => none }
def PlaceMostWrongFalsely : Prop := placeMostRow.holds Try.pinned (OpenSpec.ofChange placeMostWrong)

/-- 'teamsterlaw.LanesApart': WHATEVER THE INPUT: true; the input reads as it did. -/
def lanesApartSpec : ChangeSpec := { name := "lanesApart", fn := fun _ => fun
  | [d1, d2, d3] => { results := [.lit (.bool true)], args := [d1, d2, d3] }
  | _ => none }
def lanesApartRow : OpenClaim := { program := "ytdinknpagklkjaa", sum := "3efa5324f09894c73e66e4589c8ec218318e996085c77cb0ad60e60c7161f777", func := "teamster/teamsterlaw.LanesApart", spec := "lanesApart", unfollowed := true, recurses := true, plainKeys := false, apart := false }
def LanesApartSaid : Prop := lanesApartRow.holds Try.pinned (OpenSpec.ofChange lanesApartSpec)

/-- ITS FALSE NEIGHBOUR: 'it returns false'. Refute it at one input. -/
def lanesApartWrong : ChangeSpec := { name := "lanesApart", fn := fun _ => fun
  | [d1, d2, d3] => { results := [.lit (.bool false)], args := [d1, d2, d3] }
  | _ => none }
def LanesApartWrongFalsely : Prop := lanesApartRow.holds Try.pinned (OpenSpec.ofChange lanesApartWrong)

/-- 'teamsterlaw.FeeLeast': WHATEVER THE INPUT: true; the input reads as it did. -/
def feeLeastSpec : ChangeSpec := { name := "feeLeast", fn := fun _ => fun
  | [d1, d2, d3, d4] => { results := [.lit (.bool true)], args := [d1, d2, d3, d4] }
  | _ => none }
def feeLeastRow : OpenClaim := { program := "ytdinknpagklkjaa", sum := "3efa5324f09894c73e66e4589c8ec218318e996085c77cb0ad60e60c7161f777", func := "teamster/teamsterlaw.FeeLeast", spec := "feeLeast", unfollowed := true, recurses := true, plainKeys := false, apart := false }
def FeeLeastSaid : Prop := feeLeastRow.holds Try.pinned (OpenSpec.ofChange feeLeastSpec)

/-- ITS FALSE NEIGHBOUR: 'it returns false'. Refute it at one input. -/
def feeLeastWrong : ChangeSpec := { name := "feeLeast", fn := fun _ => fun
  | [d1, d2, d3, d4] => { results := [.lit (.bool false)], args := [d1, d2, d3, d4] }
  | _ => none }
def FeeLeastWrongFalsely : Prop := feeLeastRow.holds Try.pinned (OpenSpec.ofChange feeLeastWrong)

/-- 'teamsterlaw.QueueManies': WHATEVER THE INPUT: true; the input reads as it did. -/
def queueManiesSpec : ChangeSpec := { name := "queueManies", fn := fun _ => fun
  | [d] => { results := [.lit (.bool true)], args := [d] }
  | _ => none }
def queueManiesRow : OpenClaim := { program := "ytdinknpagklkjaa", sum := "3efa5324f09894c73e66e4589c8ec218318e996085c77cb0ad60e60c7161f777", func := "teamster/teamsterlaw.QueueManies", spec := "queueManies", unfollowed := true, recurses := true, plainKeys := false, apart := false }
def QueueManiesSaid : Prop := queueManiesRow.holds Try.pinned (OpenSpec.ofChange queueManiesSpec)

/-- ITS FALSE NEIGHBOUR: 'it returns false'. Refute it at one input. -/
def queueManiesWrong : ChangeSpec := { name := "queueManies", fn := fun _ => fun
  | [d] => { results := [.lit (.bool false)], args := [d] }
  | _ => none }
def QueueManiesWrongFalsely : Prop := queueManiesRow.holds Try.pinned (OpenSpec.ofChange queueManiesWrong)

/-- 'teamsterlaw.LotsBests': WHATEVER THE INPUT: true; the input reads as it did. -/
def lotsBestsSpec : ChangeSpec := { name := "lotsBests", fn := fun _ => fun
  | [d1, d2] => { results := [.lit (.bool true)], args := [d1, d2] }
  | _ => none }
def lotsBestsRow : OpenClaim := { program := "ytdinknpagklkjaa", sum := "3efa5324f09894c73e66e4589c8ec218318e996085c77cb0ad60e60c7161f777", func := "teamster/teamsterlaw.LotsBests", spec := "lotsBests", unfollowed := true, recurses := true, plainKeys := false, apart := false }
def LotsBestsSaid : Prop := lotsBestsRow.holds Try.pinned (OpenSpec.ofChange lotsBestsSpec)

/-- ITS FALSE NEIGHBOUR: 'it returns false'. Refute it at one input. -/
def lotsBestsWrong : ChangeSpec := { name := "lotsBests", fn := fun _ => fun
  | [d1, d2] => { results := [.lit (.bool false)], args := [d1, d2] }
  | _ => none }
def LotsBestsWrongFalsely : Prop := lotsBestsRow.holds Try.pinned (OpenSpec.ofChange lotsBestsWrong)

/-- 'teamsterlaw.CrewPlays': WHATEVER THE INPUT: true; the input reads as it did. -/
def crewPlaysSpec : ChangeSpec := { name := "crewPlays", fn := fun _ => fun
  | [d1, d2, d3] => { results := [.lit (.bool true)], args := [d1, d2, d3] }
  | _ => none }
def crewPlaysRow : OpenClaim := { program := "ytdinknpagklkjaa", sum := "3efa5324f09894c73e66e4589c8ec218318e996085c77cb0ad60e60c7161f777", func := "teamster/teamsterlaw.CrewPlays", spec := "crewPlays", unfollowed := true, recurses := true, plainKeys := false, apart := false }
def CrewPlaysSaid : Prop := crewPlaysRow.holds Try.pinned (OpenSpec.ofChange crewPlaysSpec)

/-- ITS FALSE NEIGHBOUR: 'it returns false'. Refute it at one input. -/
def crewPlaysWrong : ChangeSpec := { name := "crewPlays", fn := fun _ => fun
  | [d1, d2, d3] => { results := [.lit (.bool false)], args := [d1, d2, d3] }
  | _ => none }
def CrewPlaysWrongFalsely : Prop := crewPlaysRow.holds Try.pinned (OpenSpec.ofChange crewPlaysWrong)

/- THE SECOND FORM. 'bulk': how many values and letters a reading holds, each counted each time it is reached (what is shared counts as often as it is met; a slice's spare places count too). A statement '..UptoSaid' is the law's where the arguments, and the package variables that the reading takes, are together of bulk at most 1048576: NARROWER than '..Said'. Prove '..Said' where nothing that the law and all that it calls make is longer than what came in: it says more and counts as full. Else prove '..UptoSaid'. A law counts once. -/
mutual
def uptoBulk {H : Type} : DataW H → Nat
  | .lit (.string bytes) => bytes.length + 1
  | .lit _ => 1
  | .nil => 1
  | .ptr d => uptoBulk d + 1
  | .slice elems spare => uptoBulkAll elems + uptoBulkAll spare + 1
  | .agg parts => uptoBulkAll parts + 1
  | .iface _ d => uptoBulk d + 1
  | .map entries => uptoBulkEntries entries + 1
  | .held _ => 1
def uptoBulkAll {H : Type} : List (DataW H) → Nat
  | [] => 0
  | d :: r => uptoBulk d + uptoBulkAll r
def uptoBulkEntries {H : Type} : List (Lit × DataW H) → Nat
  | [] => 0
  | x :: r => uptoBulkEntry x + uptoBulkEntries r
def uptoBulkEntry {H : Type} : Lit × DataW H → Nat
  | (.string bytes, d) => bytes.length + uptoBulk d + 1
  | (_, d) => uptoBulk d + 1
 end
def uptoSmall : (H : Type) → List (DataW H) → Bool := fun _ ds => decide (uptoBulkAll ds ≤ 1048576)
def OpenSpec.upto (s : _root_.Go.ChangeSpec) : _root_.Go.OpenSpec := { _root_.Go.OpenSpec.ofChange s with cond := some uptoSmall }

/-- 'teamstertop.TopRoom', WHERE WHAT IT READS IS OF BULK AT MOST 1048576: true; the input reads as it did. -/
def topRoomUptoRow : OpenClaim := { program := "ytdinknpagklkjaa", sum := "3efa5324f09894c73e66e4589c8ec218318e996085c77cb0ad60e60c7161f777", func := "teamster/teamstertop.TopRoom", spec := "topRoom", unfollowed := true, recurses := true, plainKeys := false, apart := false, narrowed := true }
def TopRoomUptoSaid : Prop := topRoomUptoRow.holds Try.pinned (OpenSpec.upto topRoomSpec)

/-- 'teamstertop.TopStill', WHERE WHAT IT READS IS OF BULK AT MOST 1048576: true; the input reads as it did. -/
def topStillUptoRow : OpenClaim := { program := "ytdinknpagklkjaa", sum := "3efa5324f09894c73e66e4589c8ec218318e996085c77cb0ad60e60c7161f777", func := "teamster/teamstertop.TopStill", spec := "topStill", unfollowed := true, recurses := true, plainKeys := false, apart := false, narrowed := true }
def TopStillUptoSaid : Prop := topStillUptoRow.holds Try.pinned (OpenSpec.upto topStillSpec)

/-- 'teamstertop.TopLeft', WHERE WHAT IT READS IS OF BULK AT MOST 1048576: true; the input reads as it did. -/
def topLeftUptoRow : OpenClaim := { program := "ytdinknpagklkjaa", sum := "3efa5324f09894c73e66e4589c8ec218318e996085c77cb0ad60e60c7161f777", func := "teamster/teamstertop.TopLeft", spec := "topLeft", unfollowed := true, recurses := true, plainKeys := false, apart := false, narrowed := true }
def TopLeftUptoSaid : Prop := topLeftUptoRow.holds Try.pinned (OpenSpec.upto topLeftSpec)

/-- 'teamsterlaw.PlaceMost', WHERE WHAT IT READS IS OF BULK AT MOST 1048576: true; the input reads as it did. -/
def placeMostUptoRow : OpenClaim := { program := "ytdinknpagklkjaa", sum := "3efa5324f09894c73e66e4589c8ec218318e996085c77cb0ad60e60c7161f777", func := "teamster/teamsterlaw.PlaceMost", spec := "placeMost", unfollowed := true, recurses := true, plainKeys := false, apart := false, narrowed := true }
def PlaceMostUptoSaid : Prop := placeMostUptoRow.holds Try.pinned (OpenSpec.upto placeMostSpec)

/-- 'teamsterlaw.LanesApart', WHERE WHAT IT READS IS OF BULK AT MOST 1048576: true; the input reads as it did. -/
def lanesApartUptoRow : OpenClaim := { program := "ytdinknpagklkjaa", sum := "3efa5324f09894c73e66e4589c8ec218318e996085c77cb0ad60e60c7161f777", func := "teamster/teamsterlaw.LanesApart", spec := "lanesApart", unfollowed := true, recurses := true, plainKeys := false, apart := false, narrowed := true }
def LanesApartUptoSaid : Prop := lanesApartUptoRow.holds Try.pinned (OpenSpec.upto lanesApartSpec)

/-- 'teamsterlaw.FeeLeast', WHERE WHAT IT READS IS OF BULK AT MOST 1048576: true; the input reads as it did. -/
def feeLeastUptoRow : OpenClaim := { program := "ytdinknpagklkjaa", sum := "3efa5324f09894c73e66e4589c8ec218318e996085c77cb0ad60e60c7161f777", func := "teamster/teamsterlaw.FeeLeast", spec := "feeLeast", unfollowed := true, recurses := true, plainKeys := false, apart := false, narrowed := true }
def FeeLeastUptoSaid : Prop := feeLeastUptoRow.holds Try.pinned (OpenSpec.upto feeLeastSpec)

/-- 'teamsterlaw.QueueManies', WHERE WHAT IT READS IS OF BULK AT MOST 1048576: true; the input reads as it did. -/
def queueManiesUptoRow : OpenClaim := { program := "ytdinknpagklkjaa", sum := "3efa5324f09894c73e66e4589c8ec218318e996085c77cb0ad60e60c7161f777", func := "teamster/teamsterlaw.QueueManies", spec := "queueManies", unfollowed := true, recurses := true, plainKeys := false, apart := false, narrowed := true }
def QueueManiesUptoSaid : Prop := queueManiesUptoRow.holds Try.pinned (OpenSpec.upto queueManiesSpec)

/-- 'teamsterlaw.LotsBests', WHERE WHAT IT READS IS OF BULK AT MOST 1048576: true; the input reads as it did. -/
def lotsBestsUptoRow : OpenClaim := { program := "ytdinknpagklkjaa", sum := "3efa5324f09894c73e66e4589c8ec218318e996085c77cb0ad60e60c7161f777", func := "teamster/teamsterlaw.LotsBests", spec := "lotsBests", unfollowed := true, recurses := true, plainKeys := false, apart := false, narrowed := true }
def LotsBestsUptoSaid : Prop := lotsBestsUptoRow.holds Try.pinned (OpenSpec.upto lotsBestsSpec)

/-- 'teamsterlaw.CrewPlays', WHERE WHAT IT READS IS OF BULK AT MOST 1048576: true; the input reads as it did. -/
def crewPlaysUptoRow : OpenClaim := { program := "ytdinknpagklkjaa", sum := "3efa5324f09894c73e66e4589c8ec218318e996085c77cb0ad60e60c7161f777", func := "teamster/teamsterlaw.CrewPlays", spec := "crewPlays", unfollowed := true, recurses := true, plainKeys := false, apart := false, narrowed := true }
def CrewPlaysUptoSaid : Prop := crewPlaysUptoRow.holds Try.pinned (OpenSpec.upto crewPlaysSpec)

end Rows
end Go.Proofs.Ytdinknpagklkjaa
