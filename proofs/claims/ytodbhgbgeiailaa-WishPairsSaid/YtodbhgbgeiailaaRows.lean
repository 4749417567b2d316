/-
  No cell of these rows narrows 'for every input' (looked for: loops, veiled, ifaces, maps, wideKeys, modest, calm, conditions, laid).
  DERIVED. THE GIVEN ROWS OF THIS SEAT. 10 by the template 'for every input the law returns true; each argument reads behind the call as it read before'; 0 by the template 'total and deterministic' (their statements: YtodbhgbgeiailaaTotals.lean).
  GIVEN WITH THE SEED: the statements are not yours to turn. If you find one false, say at which input.
  Laid BY PROGRAM, IN A SANDBOX (cutbox-rows.mjs): the forced cells as the released guide's own fill.sh prints them over the translation 75da0d9d633d4d7e… (all of the seat's roots in one cut). By AI agents, Wed Nov 11 2026. No macro, syntax, notation, axiom, sorry.
-/
import Derived.Test.YtodbhgbgeiailaaChecked
import GoSem.Claim
import GoSem.ClaimJoined
import GoSem.ClaimMapViews
import Derived.JoinedTies
import Derived.KernelRfl
namespace Go.Proofs.Ytodbhgbgeiailaa
/- THE CELL 'sum', in the pinned program and in every row, IS THE sha256 OF THE DUMP (.gsa) THAT YtodbhgbgeiailaaProg.lean LOADS. Nothing in Lean hashes anything: it is a label: what it is worth is what the hold of that sum in a sandbox is worth. -/
noncomputable def Try.pinned : Pinned := { name := "ytodbhgbgeiailaa", sum := "75da0d9d633d4d7e81aeaceb3ba8e0408d942a7721ee3b4d9c7655abf0f15f2e", checked := Try.checked }
namespace Rows
def none {H : Type} : Left H := { results := [], args := [] }

/-- 'teamsterlaw.FlowMost': WHATEVER THE INPUT: true; the input reads as it did. -/
def flowMostSpec : ChangeSpec := { name := "flowMost", fn := fun _ => fun
  | [d1, d2, d3] => { results := [.lit (.bool true)], args := [d1, d2, d3] }
  | _ => none }
def flowMostRow : OpenClaim := { program := "ytodbhgbgeiailaa", sum := "75da0d9d633d4d7e81aeaceb3ba8e0408d942a7721ee3b4d9c7655abf0f15f2e", func := "teamster/teamsterlaw.FlowMost", spec := "flowMost", unfollowed := true, recurses := true, plainKeys := false, apart := false }
def FlowMostSaid : Prop := flowMostRow.holds Try.pinned (OpenSpec.ofChange flowMostSpec)

/-- ITS FALSE NEIGHBOUR: 'it returns false'. Refute it at one input. -/
def flowMostWrong : ChangeSpec := { name := "flowMost", fn := fun _ => fun
  | [d1, d2, d3] => { results := [.lit (.bool false)], args := [d1, d2, d3] }
  | _ => none }
def FlowMostWrongFalsely : Prop := flowMostRow.holds Try.pinned (OpenSpec.ofChange flowMostWrong)

/-- 'teamsterlaw.WishPairs': WHATEVER THE INPUT: true; the input reads as it did. -/
def wishPairsSpec : ChangeSpec := { name := "wishPairs", fn := fun _ => fun
  | [d] => { results := [.lit (.bool true)], args := [d] }
  | _ => none }
def wishPairsRow : OpenClaim := { program := "ytodbhgbgeiailaa", sum := "75da0d9d633d4d7e81aeaceb3ba8e0408d942a7721ee3b4d9c7655abf0f15f2e", func := "teamster/teamsterlaw.WishPairs", spec := "wishPairs", recurses := true, plainKeys := false, apart := false }
def WishPairsSaid : Prop := wishPairsRow.holds Try.pinned (OpenSpec.ofChange wishPairsSpec)

/-- ITS FALSE NEIGHBOUR: 'it returns false'. Refute it at one input. -/
def wishPairsWrong : ChangeSpec := { name := "wishPairs", fn := fun _ => fun
  | [d] => { results := [.lit (.bool false)], args := [d] }
  | _ => none }
def WishPairsWrongFalsely : Prop := wishPairsRow.holds Try.pinned (OpenSpec.ofChange wishPairsWrong)

/-- 'teamsterlaw.PlaceMost': WHATEVER THE INPUT: true; the input reads as it did. -/
def placeMostSpec : ChangeSpec := { name := "placeMost", fn := fun _ => fun
  | [d1, d2] => { results := [.lit (.bool true)], args := [d1, d2] }
  | _ => none }
def placeMostRow : OpenClaim := { program := "ytodbhgbgeiailaa", sum := "75da0d9d633d4d7e81aeaceb3ba8e0408d942a7721ee3b4d9c7655abf0f15f2e", func := "teamster/teamsterlaw.PlaceMost", spec := "placeMost", unfollowed := true, recurses := true, plainKeys := false, apart := false }
def PlaceMostSaid : Prop := placeMostRow.holds Try.pinned (OpenSpec.ofChange placeMostSpec)

/-- ITS FALSE NEIGHBOUR: 'it returns false'. Refute it at one input. -/
def placeMostWrong : ChangeSpec := { name := "placeMost", fn := fun _ => fun
  | [d1, d2] => { results := [.lit (.bool false)], args := [d1, d2] }
  | _ => none }
def PlaceMostWrongFalsely : Prop := placeMostRow.holds Try.pinned (OpenSpec.ofChange placeMostWrong)

/-- 'teamsterlaw.LanesApart': WHATEVER THE INPUT: true; the input reads as it did. -/
def lanesApartSpec : ChangeSpec := { name := "lanesApart", fn := fun _ => fun
  | [d1, d2, d3] => { results := [.lit (.bool true)], args := [d1, d2, d3] }
  | _ => none }
def lanesApartRow : OpenClaim := { program := "ytodbhgbgeiailaa", sum := "75da0d9d633d4d7e81aeaceb3ba8e0408d942a7721ee3b4d9c7655abf0f15f2e", func := "teamster/teamsterlaw.LanesApart", spec := "lanesApart", unfollowed := true, recurses := true, plainKeys := false, apart := false }
def LanesApartSaid : Prop := lanesApartRow.holds Try.pinned (OpenSpec.ofChange lanesApartSpec)

/-- ITS FALSE NEIGHBOUR: 'it returns false'. Refute it at one input. -/
def lanesApartWrong : ChangeSpec := { name := "lanesApart", fn := fun _ => fun
  | [d1, d2, d3] => { results := [.lit (.bool false)], args := [d1, d2, d3] }
  | _ => none }
def LanesApartWrongFalsely : Prop := lanesApartRow.holds Try.pinned (OpenSpec.ofChange lanesApartWrong)

/-- 'teamsterlaw.FeeLeast': WHATEVER THE INPUT: true; the input reads as it did. -/
def feeLeastSpec : ChangeSpec := { name := "feeLeast", fn := fun _ => fun
  | [d1, d2, d3, d4] => { results := [.lit (.bool true)], args := [d1, d2, d3, d4] }
  | _ => none }
def feeLeastRow : OpenClaim := { program := "ytodbhgbgeiailaa", sum := "75da0d9d633d4d7e81aeaceb3ba8e0408d942a7721ee3b4d9c7655abf0f15f2e", func := "teamster/teamsterlaw.FeeLeast", spec := "feeLeast", unfollowed := true, recurses := true, plainKeys := false, apart := false }
def FeeLeastSaid : Prop := feeLeastRow.holds Try.pinned (OpenSpec.ofChange feeLeastSpec)

/-- ITS FALSE NEIGHBOUR: 'it returns false'. Refute it at one input. -/
def feeLeastWrong : ChangeSpec := { name := "feeLeast", fn := fun _ => fun
  | [d1, d2, d3, d4] => { results := [.lit (.bool false)], args := [d1, d2, d3, d4] }
  | _ => none }
def FeeLeastWrongFalsely : Prop := feeLeastRow.holds Try.pinned (OpenSpec.ofChange feeLeastWrong)

/-- 'teamsterlaw.CrewPlays': WHATEVER THE INPUT: true; the input reads as it did. -/
def crewPlaysSpec : ChangeSpec := { name := "crewPlays", fn := fun _ => fun
  | [d1, d2, d3] => { results := [.lit (.bool true)], args := [d1, d2, d3] }
  | _ => none }
def crewPlaysRow : OpenClaim := { program := "ytodbhgbgeiailaa", sum := "75da0d9d633d4d7e81aeaceb3ba8e0408d942a7721ee3b4d9c7655abf0f15f2e", func := "teamster/teamsterlaw.CrewPlays", spec := "crewPlays", unfollowed := true, recurses := true, plainKeys := false, apart := false }
def CrewPlaysSaid : Prop := crewPlaysRow.holds Try.pinned (OpenSpec.ofChange crewPlaysSpec)

/-- ITS FALSE NEIGHBOUR: 'it returns false'. Refute it at one input. -/
def crewPlaysWrong : ChangeSpec := { name := "crewPlays", fn := fun _ => fun
  | [d1, d2, d3] => { results := [.lit (.bool false)], args := [d1, d2, d3] }
  | _ => none }
def CrewPlaysWrongFalsely : Prop := crewPlaysRow.holds Try.pinned (OpenSpec.ofChange crewPlaysWrong)

/-- 'teamstertop.TopRoom': WHATEVER THE INPUT: true; the input reads as it did. -/
def topRoomSpec : ChangeSpec := { name := "topRoom", fn := fun _ => fun
  | [d1, d2, d3] => { results := [.lit (.bool true)], args := [d1, d2, d3] }
  | _ => none }
def topRoomRow : OpenClaim := { program := "ytodbhgbgeiailaa", sum := "75da0d9d633d4d7e81aeaceb3ba8e0408d942a7721ee3b4d9c7655abf0f15f2e", func := "teamster/teamstertop.TopRoom", spec := "topRoom", unfollowed := true, recurses := true, plainKeys := false, apart := false }
def TopRoomSaid : Prop := topRoomRow.holds Try.pinned (OpenSpec.ofChange topRoomSpec)

/-- ITS FALSE NEIGHBOUR: 'it returns false'. Refute it at one input. -/
def topRoomWrong : ChangeSpec := { name := "topRoom", fn := fun _ => fun
  | [d1, d2, d3] => { results := [.lit (.bool false)], args := [d1, d2, d3] }
  | _ => none }
def TopRoomWrongFalsely : Prop := topRoomRow.holds Try.pinned (OpenSpec.ofChange topRoomWrong)

/-- 'teamstertop.TopStill': WHATEVER THE INPUT: true; the input reads as it did. -/
def topStillSpec : ChangeSpec := { name := "topStill", fn := fun _ => fun
  | [d1, d2, d3] => { results := [.lit (.bool true)], args := [d1, d2, d3] }
  | _ => none }
def topStillRow : OpenClaim := { program := "ytodbhgbgeiailaa", sum := "75da0d9d633d4d7e81aeaceb3ba8e0408d942a7721ee3b4d9c7655abf0f15f2e", func := "teamster/teamstertop.TopStill", spec := "topStill", unfollowed := true, recurses := true, plainKeys := false, apart := false }
def TopStillSaid : Prop := topStillRow.holds Try.pinned (OpenSpec.ofChange topStillSpec)

/-- ITS FALSE NEIGHBOUR: 'it returns false'. Refute it at one input. -/
def topStillWrong : ChangeSpec := { name := "topStill", fn := fun _ => fun
  | [d1, d2, d3] => { results := [.lit (.bool false)], args := [d1, d2, d3] }
  | _ => none }
def TopStillWrongFalsely : Prop := topStillRow.holds Try.pinned (OpenSpec.ofChange topStillWrong)

/-- 'teamstertop.TopLeft': WHATEVER THE INPUT: true; the input reads as it did. -/
def topLeftSpec : ChangeSpec := { name := "topLeft", fn := fun _ => fun
  | [d1, d2, d3, d4] => { results := [.lit (.bool true)], args := [d1, d2, d3, d4] }
  | _ => none }
def topLeftRow : OpenClaim := { program := "ytodbhgbgeiailaa", sum := "75da0d9d633d4d7e81aeaceb3ba8e0408d942a7721ee3b4d9c7655abf0f15f2e", func := "teamster/teamstertop.TopLeft", spec := "topLeft", unfollowed := true, recurses := true, plainKeys := false, apart := false }
def TopLeftSaid : Prop := topLeftRow.holds Try.pinned (OpenSpec.ofChange topLeftSpec)

/-- ITS FALSE NEIGHBOUR: 'it returns false'. Refute it at one input. -/
def topLeftWrong : ChangeSpec := { name := "topLeft", fn := fun _ => fun
  | [d1, d2, d3, d4] => { results := [.lit (.bool false)], args := [d1, d2, d3, d4] }
  | _ => none }
def TopLeftWrongFalsely : Prop := topLeftRow.holds Try.pinned (OpenSpec.ofChange topLeftWrong)

/-- 'teamsterlaw.WishAlls': WHATEVER THE INPUT: true; the input reads as it did. -/
def wishAllsSpec : ChangeSpec := { name := "wishAlls", fn := fun _ => fun
  | [d] => { results := [.lit (.bool true)], args := [d] }
  | _ => none }
def wishAllsRow : OpenClaim := { program := "ytodbhgbgeiailaa", sum := "75da0d9d633d4d7e81aeaceb3ba8e0408d942a7721ee3b4d9c7655abf0f15f2e", func := "teamster/teamsterlaw.WishAlls", spec := "wishAlls", unfollowed := true, recurses := true, plainKeys := false, apart := false }
def WishAllsSaid : Prop := wishAllsRow.holds Try.pinned (OpenSpec.ofChange wishAllsSpec)

/-- ITS FALSE NEIGHBOUR: 'it returns false'. Refute it at one input. -/
def wishAllsWrong : ChangeSpec := { name := "wishAlls", fn := fun _ => fun
  | [d] => { results := [.lit (.bool false)], args := [d] }
  | _ => none }
def WishAllsWrongFalsely : Prop := wishAllsRow.holds Try.pinned (OpenSpec.ofChange wishAllsWrong)

/- THE SECOND FORM. 'bulk': how many values and letters a reading holds, each counted each time it is reached (what is shared counts as often as it is met; a slice's spare places count too). A statement '..UptoSaid' is the law's where the arguments, and the package variables that the reading takes, are together of bulk at most 1048576: NARROWER than '..Said'. Prove '..Said' where nothing that the law and all that it calls make is longer than what came in: it says more and counts as full. Else prove '..UptoSaid'. A law counts once. -/
mutual
def uptoBulk {H : Type} : DataW H → Nat
  | .lit (.string bytes) => bytes.length + 1
  | .lit _ => 1
  | .nil => 1
  | .ptr d => uptoBulk d + 1
  | .slice elems spare => uptoBulkAll elems + uptoBulkAll spare + 1
  | .agg parts => uptoBulkAll parts + 1
  | .iface _ d => uptoBulk d + 1
  | .map entries => uptoBulkEntries entries + 1
  | .held _ => 1
def uptoBulkAll {H : Type} : List (DataW H) → Nat
  | [] => 0
  | d :: r => uptoBulk d + uptoBulkAll r
def uptoBulkEntries {H : Type} : List (Lit × DataW H) → Nat
  | [] => 0
  | x :: r => uptoBulkEntry x + uptoBulkEntries r
def uptoBulkEntry {H : Type} : Lit × DataW H → Nat
  | (.string bytes, d) => bytes.length + uptoBulk d + 1
  | (_, d) => uptoBulk d + 1
 end
def uptoSmall : (H : Type) → List (DataW H) → Bool := fun _ ds => decide (uptoBulkAll ds ≤ 1048576)
def OpenSpec.upto (s : _root_.Go.ChangeSpec) : _root_.Go.OpenSpec := { _root_.Go.OpenSpec.ofChange s with cond := some uptoSmall }

/-- 'teamsterlaw.FlowMost', WHERE WHAT IT READS IS OF BULK AT MOST 1048576: true; the input reads as it did. -/
def flowMostUptoRow : OpenClaim := { program := "ytodbhgbgeiailaa", sum := "75da0d9d633d4d7e81aeaceb3ba8e0408d942a7721ee3b4d9c7655abf0f15f2e", func := "teamster/teamsterlaw.FlowMost", spec := "flowMost", unfollowed := true, recurses := true, plainKeys := false, apart := false, narrowed := true }
def FlowMostUptoSaid : Prop := flowMostUptoRow.holds Try.pinned (OpenSpec.upto flowMostSpec)

/-- 'teamsterlaw.WishPairs', WHERE WHAT IT READS IS OF BULK AT MOST 1048576: true; the input reads as it did. -/
def wishPairsUptoRow : OpenClaim := { program := "ytodbhgbgeiailaa", sum := "75da0d9d633d4d7e81aeaceb3ba8e0408d942a7721ee3b4d9c7655abf0f15f2e", func := "teamster/teamsterlaw.WishPairs", spec := "wishPairs", recurses := true, plainKeys := false, apart := false, narrowed := true }
def WishPairsUptoSaid : Prop := wishPairsUptoRow.holds Try.pinned (OpenSpec.upto wishPairsSpec)

/-- 'teamsterlaw.PlaceMost', WHERE WHAT IT READS IS OF BULK AT MOST 1048576: true; the input reads as it did. -/
def placeMostUptoRow : OpenClaim := { program := "ytodbhgbgeiailaa", sum := "75da0d9d633d4d7e81aeaceb3ba8e0408d942a7721ee3b4d9c7655abf0f15f2e", func := "teamster/teamsterlaw.PlaceMost", spec := "placeMost", unfollowed := true, recurses := true, plainKeys := false, apart := false, narrowed := true }
def PlaceMostUptoSaid : Prop := placeMostUptoRow.holds Try.pinned (OpenSpec.upto placeMostSpec)

/-- 'teamsterlaw.LanesApart', WHERE WHAT IT READS IS OF BULK AT MOST 1048576: true; the input reads as it did. -/
def lanesApartUptoRow : OpenClaim := { program := "ytodbhgbgeiailaa", sum := "75da0d9d633d4d7e81aeaceb3ba8e0408d942a7721ee3b4d9c7655abf0f15f2e", func := "teamster/teamsterlaw.LanesApart", spec := "lanesApart", unfollowed := true, recurses := true, plainKeys := false, apart := false, narrowed := true }
def LanesApartUptoSaid : Prop := lanesApartUptoRow.holds Try.pinned (OpenSpec.upto lanesApartSpec)

/-- 'teamsterlaw.FeeLeast', WHERE WHAT IT READS IS OF BULK AT MOST 1048576: true; the input reads as it did. -/
def feeLeastUptoRow : OpenClaim := { program := "ytodbhgbgeiailaa", sum := "75da0d9d633d4d7e81aeaceb3ba8e0408d942a7721ee3b4d9c7655abf0f15f2e", func := "teamster/teamsterlaw.FeeLeast", spec := "feeLeast", unfollowed := true, recurses := true, plainKeys := false, apart := false, narrowed := true }
def FeeLeastUptoSaid : Prop := feeLeastUptoRow.holds Try.pinned (OpenSpec.upto feeLeastSpec)

/-- 'teamsterlaw.CrewPlays', WHERE WHAT IT READS IS OF BULK AT MOST 1048576: true; the input reads as it did. -/
def crewPlaysUptoRow : OpenClaim := { program := "ytodbhgbgeiailaa", sum := "75da0d9d633d4d7e81aeaceb3ba8e0408d942a7721ee3b4d9c7655abf0f15f2e", func := "teamster/teamsterlaw.CrewPlays", spec := "crewPlays", unfollowed := true, recurses := true, plainKeys := false, apart := false, narrowed := true }
def CrewPlaysUptoSaid : Prop := crewPlaysUptoRow.holds Try.pinned (OpenSpec.upto crewPlaysSpec)

/-- 'teamstertop.TopRoom', WHERE WHAT IT READS IS OF BULK AT MOST 1048576: true; the input reads as it did. -/
def topRoomUptoRow : OpenClaim := { program := "ytodbhgbgeiailaa", sum := "75da0d9d633d4d7e81aeaceb3ba8e0408d942a7721ee3b4d9c7655abf0f15f2e", func := "teamster/teamstertop.TopRoom", spec := "topRoom", unfollowed := true, recurses := true, plainKeys := false, apart := false, narrowed := true }
def TopRoomUptoSaid : Prop := topRoomUptoRow.holds Try.pinned (OpenSpec.upto topRoomSpec)

/-- 'teamstertop.TopStill', WHERE WHAT IT READS IS OF BULK AT MOST 1048576: true; the input reads as it did. -/
def topStillUptoRow : OpenClaim := { program := "ytodbhgbgeiailaa", sum := "75da0d9d633d4d7e81aeaceb3ba8e0408d942a7721ee3b4d9c7655abf0f15f2e", func := "teamster/teamstertop.TopStill", spec := "topStill", unfollowed := true, recurses := true, plainKeys := false, apart := false, narrowed := true }
def TopStillUptoSaid : Prop := topStillUptoRow.holds Try.pinned (OpenSpec.upto topStillSpec)

/-- 'teamstertop.TopLeft', WHERE WHAT IT READS IS OF BULK AT MOST 1048576: true; the input reads as it did. -/
def topLeftUptoRow : OpenClaim := { program := "ytodbhgbgeiailaa", sum := "75da0d9d633d4d7e81aeaceb3ba8e0408d942a7721ee3b4d9c7655abf0f15f2e", func := "teamster/teamstertop.TopLeft", spec := "topLeft", unfollowed := true, recurses := true, plainKeys := false, apart := false, narrowed := true }
def TopLeftUptoSaid : Prop := topLeftUptoRow.holds Try.pinned (OpenSpec.upto topLeftSpec)

/-- 'teamsterlaw.WishAlls', WHERE WHAT IT READS IS OF BULK AT MOST 1048576: true; the input reads as it did. -/
def wishAllsUptoRow : OpenClaim := { program := "ytodbhgbgeiailaa", sum := "75da0d9d633d4d7e81aeaceb3ba8e0408d942a7721ee3b4d9c7655abf0f15f2e", func := "teamster/teamsterlaw.WishAlls", spec := "wishAlls", unfollowed := true, recurses := true, plainKeys := false, apart := false, narrowed := true }
def WishAllsUptoSaid : Prop := wishAllsUptoRow.holds Try.pinned (OpenSpec.upto wishAllsSpec)

end Rows
end Go.Proofs.Ytodbhgbgeiailaa
