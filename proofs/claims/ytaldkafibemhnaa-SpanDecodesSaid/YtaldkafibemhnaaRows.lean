/-
  No cell of these rows narrows 'for every input' (looked for: loops, veiled, ifaces, maps, wideKeys, modest, calm, conditions, laid).
  DERIVED. THE GIVEN ROWS OF THIS SEAT. 12 by the template 'for every input the law returns true; each argument reads behind the call as it read before'; 0 by the template 'total and deterministic' (their statements: YtaldkafibemhnaaTotals.lean).
  GIVEN WITH THE SEED: the statements are not yours to turn. If you find one false, say at which input.
  Laid BY PROGRAM, IN A SANDBOX (cutbox-rows.mjs): the forced cells as the released guide's own fill.sh prints them over the translation b94971ceb34f13a2… (all of the seat's roots in one cut). By AI agents, Wed Nov 11 2026. No macro, syntax, notation, axiom, sorry.
-/
import Derived.Test.YtaldkafibemhnaaChecked
import GoSem.Claim
import GoSem.ClaimJoined
import GoSem.ClaimMapViews
import Derived.JoinedTies
import Derived.KernelRfl
namespace Go.Proofs.Ytaldkafibemhnaa
/- THE CELL 'sum', in the pinned program and in every row, IS THE sha256 OF THE DUMP (.gsa) THAT YtaldkafibemhnaaProg.lean LOADS. Nothing in Lean hashes anything: it is a label: what it is worth is what the hold of that sum in a sandbox is worth. -/
noncomputable def Try.pinned : Pinned := { name := "ytaldkafibemhnaa", sum := "b94971ceb34f13a2ef61967f36e3f6a5a103745f7019d7116dc1ff4ac72bc859", checked := Try.checked }
namespace Rows
def none {H : Type} : Left H := { results := [], args := [] }

/-- 'teamsterlaw.FlowChecks': WHATEVER THE INPUT: true; the input reads as it did. -/
def flowChecksSpec : ChangeSpec := { name := "flowChecks", fn := fun _ => fun
  | [d] => { results := [.lit (.bool true)], args := [d] }
  | _ => none }
def flowChecksRow : OpenClaim := { program := "ytaldkafibemhnaa", sum := "b94971ceb34f13a2ef61967f36e3f6a5a103745f7019d7116dc1ff4ac72bc859", func := "teamster/teamsterlaw.FlowChecks", spec := "flowChecks", unfollowed := true, recurses := true, plainKeys := false, apart := false }
def FlowChecksSaid : Prop := flowChecksRow.holds Try.pinned (OpenSpec.ofChange flowChecksSpec)

/-- ITS FALSE NEIGHBOUR: 'it returns false'. Refute it at one input. -/
def flowChecksWrong : ChangeSpec := { name := "flowChecks", fn := fun _ => fun
  | [d] => { results := [.lit (.bool false)], args := [d] }
  | _ => none }
def FlowChecksWrongFalsely : Prop := flowChecksRow.holds Try.pinned (OpenSpec.ofChange flowChecksWrong)

/-- 'teamsterlaw.GraphChecks': WHATEVER THE INPUT: true; the input reads as it did. -/
def graphChecksSpec : ChangeSpec := { name := "graphChecks", fn := fun _ => fun
  | [d] => { results := [.lit (.bool true)], args := [d] }
  | _ => none }
def graphChecksRow : OpenClaim := { program := "ytaldkafibemhnaa", sum := "b94971ceb34f13a2ef61967f36e3f6a5a103745f7019d7116dc1ff4ac72bc859", func := "teamster/teamsterlaw.GraphChecks", spec := "graphChecks", plainKeys := false, apart := false }
def GraphChecksSaid : Prop := graphChecksRow.holds Try.pinned (OpenSpec.ofChange graphChecksSpec)

/-- ITS FALSE NEIGHBOUR: 'it returns false'. Refute it at one input. -/
def graphChecksWrong : ChangeSpec := { name := "graphChecks", fn := fun _ => fun
  | [d] => { results := [.lit (.bool false)], args := [d] }
  | _ => none }
def GraphChecksWrongFalsely : Prop := graphChecksRow.holds Try.pinned (OpenSpec.ofChange graphChecksWrong)

/-- 'teamsterlaw.BeatsChecks': WHATEVER THE INPUT: true; the input reads as it did. -/
def beatsChecksSpec : ChangeSpec := { name := "beatsChecks", fn := fun _ => fun
  | [d] => { results := [.lit (.bool true)], args := [d] }
  | _ => none }
def beatsChecksRow : OpenClaim := { program := "ytaldkafibemhnaa", sum := "b94971ceb34f13a2ef61967f36e3f6a5a103745f7019d7116dc1ff4ac72bc859", func := "teamster/teamsterlaw.BeatsChecks", spec := "beatsChecks", plainKeys := false, apart := false }
def BeatsChecksSaid : Prop := beatsChecksRow.holds Try.pinned (OpenSpec.ofChange beatsChecksSpec)

/-- ITS FALSE NEIGHBOUR: 'it returns false'. Refute it at one input. -/
def beatsChecksWrong : ChangeSpec := { name := "beatsChecks", fn := fun _ => fun
  | [d] => { results := [.lit (.bool false)], args := [d] }
  | _ => none }
def BeatsChecksWrongFalsely : Prop := beatsChecksRow.holds Try.pinned (OpenSpec.ofChange beatsChecksWrong)

/-- 'teamsterlaw.PlaceChecks': WHATEVER THE INPUT: true; the input reads as it did. -/
def placeChecksSpec : ChangeSpec := { name := "placeChecks", fn := fun _ => fun
  | [d1, d2] => { results := [.lit (.bool true)], args := [d1, d2] }
  | _ => none }
def placeChecksRow : OpenClaim := { program := "ytaldkafibemhnaa", sum := "b94971ceb34f13a2ef61967f36e3f6a5a103745f7019d7116dc1ff4ac72bc859", func := "teamster/teamsterlaw.PlaceChecks", spec := "placeChecks", unfollowed := true, recurses := true, plainKeys := false, apart := false }
def PlaceChecksSaid : Prop := placeChecksRow.holds Try.pinned (OpenSpec.ofChange placeChecksSpec)

/-- ITS FALSE NEIGHBOUR: 'it returns false'. Refute it at one input. -/
def placeChecksWrong : ChangeSpec := { name := "placeChecks", fn := fun _ => fun
  | [d1, d2] => { results := [.lit (.bool false)], args := [d1, d2] }
  | _ => none }
def PlaceChecksWrongFalsely : Prop := placeChecksRow.holds Try.pinned (OpenSpec.ofChange placeChecksWrong)

/-- 'teamsterlaw.WishChecks': WHATEVER THE INPUT: true; the input reads as it did. -/
def wishChecksSpec : ChangeSpec := { name := "wishChecks", fn := fun _ => fun
  | [d] => { results := [.lit (.bool true)], args := [d] }
  | _ => none }
def wishChecksRow : OpenClaim := { program := "ytaldkafibemhnaa", sum := "b94971ceb34f13a2ef61967f36e3f6a5a103745f7019d7116dc1ff4ac72bc859", func := "teamster/teamsterlaw.WishChecks", spec := "wishChecks", plainKeys := false, apart := false }
def WishChecksSaid : Prop := wishChecksRow.holds Try.pinned (OpenSpec.ofChange wishChecksSpec)

/-- ITS FALSE NEIGHBOUR: 'it returns false'. Refute it at one input. -/
def wishChecksWrong : ChangeSpec := { name := "wishChecks", fn := fun _ => fun
  | [d] => { results := [.lit (.bool false)], args := [d] }
  | _ => none }
def WishChecksWrongFalsely : Prop := wishChecksRow.holds Try.pinned (OpenSpec.ofChange wishChecksWrong)

/-- 'teamsterlaw.SpanDecodes': WHATEVER THE INPUT: true; the input reads as it did. -/
def spanDecodesSpec : ChangeSpec := { name := "spanDecodes", fn := fun _ => fun
  | [d] => { results := [.lit (.bool true)], args := [d] }
  | _ => none }
def spanDecodesRow : OpenClaim := { program := "ytaldkafibemhnaa", sum := "b94971ceb34f13a2ef61967f36e3f6a5a103745f7019d7116dc1ff4ac72bc859", func := "teamster/teamsterlaw.SpanDecodes", spec := "spanDecodes", plainKeys := false, apart := false }
def SpanDecodesSaid : Prop := spanDecodesRow.holds Try.pinned (OpenSpec.ofChange spanDecodesSpec)

/-- ITS FALSE NEIGHBOUR: 'it returns false'. Refute it at one input. -/
def spanDecodesWrong : ChangeSpec := { name := "spanDecodes", fn := fun _ => fun
  | [d] => { results := [.lit (.bool false)], args := [d] }
  | _ => none }
def SpanDecodesWrongFalsely : Prop := spanDecodesRow.holds Try.pinned (OpenSpec.ofChange spanDecodesWrong)

/-- 'teamsterlaw.NewsKnows': WHATEVER THE INPUT: true; the input reads as it did. -/
def newsKnowsSpec : ChangeSpec := { name := "newsKnows", fn := fun _ => fun
  | [d1, d2] => { results := [.lit (.bool true)], args := [d1, d2] }
  | _ => none }
def newsKnowsRow : OpenClaim := { program := "ytaldkafibemhnaa", sum := "b94971ceb34f13a2ef61967f36e3f6a5a103745f7019d7116dc1ff4ac72bc859", func := "teamster/teamsterlaw.NewsKnows", spec := "newsKnows", unfollowed := true, recurses := true, plainKeys := false, apart := false }
def NewsKnowsSaid : Prop := newsKnowsRow.holds Try.pinned (OpenSpec.ofChange newsKnowsSpec)

/-- ITS FALSE NEIGHBOUR: 'it returns false'. Refute it at one input. -/
def newsKnowsWrong : ChangeSpec := { name := "newsKnows", fn := fun _ => fun
  | [d1, d2] => { results := [.lit (.bool false)], args := [d1, d2] }
  | _ => none }
def NewsKnowsWrongFalsely : Prop := newsKnowsRow.holds Try.pinned (OpenSpec.ofChange newsKnowsWrong)

/-- 'teamsterlaw.BeatsMakes': WHATEVER THE INPUT: true; the input reads as it did. -/
def beatsMakesSpec : ChangeSpec := { name := "beatsMakes", fn := fun _ => fun
  | [d] => { results := [.lit (.bool true)], args := [d] }
  | _ => none }
def beatsMakesRow : OpenClaim := { program := "ytaldkafibemhnaa", sum := "b94971ceb34f13a2ef61967f36e3f6a5a103745f7019d7116dc1ff4ac72bc859", func := "teamster/teamsterlaw.BeatsMakes", spec := "beatsMakes", unfollowed := true, recurses := true, plainKeys := false, apart := false }
def BeatsMakesSaid : Prop := beatsMakesRow.holds Try.pinned (OpenSpec.ofChange beatsMakesSpec)

/-- ITS FALSE NEIGHBOUR: 'it returns false'. Refute it at one input. -/
def beatsMakesWrong : ChangeSpec := { name := "beatsMakes", fn := fun _ => fun
  | [d] => { results := [.lit (.bool false)], args := [d] }
  | _ => none }
def BeatsMakesWrongFalsely : Prop := beatsMakesRow.holds Try.pinned (OpenSpec.ofChange beatsMakesWrong)

/-- 'teamsterlaw.GraphDegrees': WHATEVER THE INPUT: true; the input reads as it did. -/
def graphDegreesSpec : ChangeSpec := { name := "graphDegrees", fn := fun _ => fun
  | [d] => { results := [.lit (.bool true)], args := [d] }
  | _ => none }
def graphDegreesRow : OpenClaim := { program := "ytaldkafibemhnaa", sum := "b94971ceb34f13a2ef61967f36e3f6a5a103745f7019d7116dc1ff4ac72bc859", func := "teamster/teamsterlaw.GraphDegrees", spec := "graphDegrees", plainKeys := false, apart := false }
def GraphDegreesSaid : Prop := graphDegreesRow.holds Try.pinned (OpenSpec.ofChange graphDegreesSpec)

/-- ITS FALSE NEIGHBOUR: 'it returns false'. Refute it at one input. -/
def graphDegreesWrong : ChangeSpec := { name := "graphDegrees", fn := fun _ => fun
  | [d] => { results := [.lit (.bool false)], args := [d] }
  | _ => none }
def GraphDegreesWrongFalsely : Prop := graphDegreesRow.holds Try.pinned (OpenSpec.ofChange graphDegreesWrong)

/-- 'teamsterlaw.NewsPlans': WHATEVER THE INPUT: true; the input reads as it did. -/
def newsPlansSpec : ChangeSpec := { name := "newsPlans", fn := fun _ => fun
  | [d] => { results := [.lit (.bool true)], args := [d] }
  | _ => none }
def newsPlansRow : OpenClaim := { program := "ytaldkafibemhnaa", sum := "b94971ceb34f13a2ef61967f36e3f6a5a103745f7019d7116dc1ff4ac72bc859", func := "teamster/teamsterlaw.NewsPlans", spec := "newsPlans", plainKeys := false, apart := false }
def NewsPlansSaid : Prop := newsPlansRow.holds Try.pinned (OpenSpec.ofChange newsPlansSpec)

/-- ITS FALSE NEIGHBOUR: 'it returns false'. Refute it at one input. -/
def newsPlansWrong : ChangeSpec := { name := "newsPlans", fn := fun _ => fun
  | [d] => { results := [.lit (.bool false)], args := [d] }
  | _ => none }
def NewsPlansWrongFalsely : Prop := newsPlansRow.holds Try.pinned (OpenSpec.ofChange newsPlansWrong)

/-- 'teamsterlaw.FlowCuts': WHATEVER THE INPUT: true; the input reads as it did. -/
def flowCutsSpec : ChangeSpec := { name := "flowCuts", fn := fun _ => fun
  | [d1, d2, d3] => { results := [.lit (.bool true)], args := [d1, d2, d3] }
  | _ => none }
def flowCutsRow : OpenClaim := { program := "ytaldkafibemhnaa", sum := "b94971ceb34f13a2ef61967f36e3f6a5a103745f7019d7116dc1ff4ac72bc859", func := "teamster/teamsterlaw.FlowCuts", spec := "flowCuts", unfollowed := true, recurses := true, plainKeys := false, apart := false }
def FlowCutsSaid : Prop := flowCutsRow.holds Try.pinned (OpenSpec.ofChange flowCutsSpec)

/-- ITS FALSE NEIGHBOUR: 'it returns false'. Refute it at one input. -/
def flowCutsWrong : ChangeSpec := { name := "flowCuts", fn := fun _ => fun
  | [d1, d2, d3] => { results := [.lit (.bool false)], args := [d1, d2, d3] }
  | _ => none }
def FlowCutsWrongFalsely : Prop := flowCutsRow.holds Try.pinned (OpenSpec.ofChange flowCutsWrong)

/-- 'teamsterlaw.PackFirsts': WHATEVER THE INPUT: true; the input reads as it did. -/
def packFirstsSpec : ChangeSpec := { name := "packFirsts", fn := fun _ => fun
  | [d1, d2] => { results := [.lit (.bool true)], args := [d1, d2] }
  | _ => none }
def packFirstsRow : OpenClaim := { program := "ytaldkafibemhnaa", sum := "b94971ceb34f13a2ef61967f36e3f6a5a103745f7019d7116dc1ff4ac72bc859", func := "teamster/teamsterlaw.PackFirsts", spec := "packFirsts", unfollowed := true, recurses := true, plainKeys := false, apart := false }
def PackFirstsSaid : Prop := packFirstsRow.holds Try.pinned (OpenSpec.ofChange packFirstsSpec)

/-- ITS FALSE NEIGHBOUR: 'it returns false'. Refute it at one input. -/
def packFirstsWrong : ChangeSpec := { name := "packFirsts", fn := fun _ => fun
  | [d1, d2] => { results := [.lit (.bool false)], args := [d1, d2] }
  | _ => none }
def PackFirstsWrongFalsely : Prop := packFirstsRow.holds Try.pinned (OpenSpec.ofChange packFirstsWrong)

/- THE SECOND FORM. 'bulk': how many values and letters a reading holds, each counted each time it is reached (what is shared counts as often as it is met; a slice's spare places count too). A statement '..UptoSaid' is the law's where the arguments, and the package variables that the reading takes, are together of bulk at most 1048576: NARROWER than '..Said'. Prove '..Said' where nothing that the law and all that it calls make is longer than what came in: it says more and counts as full. Else prove '..UptoSaid'. A law counts once. -/
mutual
def uptoBulk {H : Type} : DataW H → Nat
  | .lit (.string bytes) => bytes.length + 1
  | .lit _ => 1
  | .nil => 1
  | .ptr d => uptoBulk d + 1
  | .slice elems spare => uptoBulkAll elems + uptoBulkAll spare + 1
  | .agg parts => uptoBulkAll parts + 1
  | .iface _ d => uptoBulk d + 1
  | .map entries => uptoBulkEntries entries + 1
  | .held _ => 1
def uptoBulkAll {H : Type} : List (DataW H) → Nat
  | [] => 0
  | d :: r => uptoBulk d + uptoBulkAll r
def uptoBulkEntries {H : Type} : List (Lit × DataW H) → Nat
  | [] => 0
  | x :: r => uptoBulkEntry x + uptoBulkEntries r
def uptoBulkEntry {H : Type} : Lit × DataW H → Nat
  | (.string bytes, d) => bytes.length + uptoBulk d + 1
  | (_, d) => uptoBulk d + 1
 end
def uptoSmall : (H : Type) → List (DataW H) → Bool := fun _ ds => decide (uptoBulkAll ds ≤ 1048576)
def OpenSpec.upto (s : _root_.Go.ChangeSpec) : _root_.Go.OpenSpec := { _root_.Go.OpenSpec.ofChange s with cond := some uptoSmall }

/-- 'teamsterlaw.FlowChecks', WHERE WHAT IT READS IS OF BULK AT MOST 1048576: true; the input reads as it did. -/
def flowChecksUptoRow : OpenClaim := { program := "ytaldkafibemhnaa", sum := "b94971ceb34f13a2ef61967f36e3f6a5a103745f7019d7116dc1ff4ac72bc859", func := "teamster/teamsterlaw.FlowChecks", spec := "flowChecks", unfollowed := true, recurses := true, plainKeys := false, apart := false, narrowed := true }
def FlowChecksUptoSaid : Prop := flowChecksUptoRow.holds Try.pinned (OpenSpec.upto flowChecksSpec)

/-- 'teamsterlaw.GraphChecks', WHERE WHAT IT READS IS OF BULK AT MOST 1048576: true; the input reads as it did. -/
def graphChecksUptoRow : OpenClaim := { program := "ytaldkafibemhnaa", sum := "b94971ceb34f13a2ef61967f36e3f6a5a103745f7019d7116dc1ff4ac72bc859", func := "teamster/teamsterlaw.GraphChecks", spec := "graphChecks", plainKeys := false, apart := false, narrowed := true }
def GraphChecksUptoSaid : Prop := graphChecksUptoRow.holds Try.pinned (OpenSpec.upto graphChecksSpec)

/-- 'teamsterlaw.BeatsChecks', WHERE WHAT IT READS IS OF BULK AT MOST 1048576: true; the input reads as it did. -/
def beatsChecksUptoRow : OpenClaim := { program := "ytaldkafibemhnaa", sum := "b94971ceb34f13a2ef61967f36e3f6a5a103745f7019d7116dc1ff4ac72bc859", func := "teamster/teamsterlaw.BeatsChecks", spec := "beatsChecks", plainKeys := false, apart := false, narrowed := true }
def BeatsChecksUptoSaid : Prop := beatsChecksUptoRow.holds Try.pinned (OpenSpec.upto beatsChecksSpec)

/-- 'teamsterlaw.PlaceChecks', WHERE WHAT IT READS IS OF BULK AT MOST 1048576: true; the input reads as it did. -/
def placeChecksUptoRow : OpenClaim := { program := "ytaldkafibemhnaa", sum := "b94971ceb34f13a2ef61967f36e3f6a5a103745f7019d7116dc1ff4ac72bc859", func := "teamster/teamsterlaw.PlaceChecks", spec := "placeChecks", unfollowed := true, recurses := true, plainKeys := false, apart := false, narrowed := true }
def PlaceChecksUptoSaid : Prop := placeChecksUptoRow.holds Try.pinned (OpenSpec.upto placeChecksSpec)

/-- 'teamsterlaw.WishChecks', WHERE WHAT IT READS IS OF BULK AT MOST 1048576: true; the input reads as it did. -/
def wishChecksUptoRow : OpenClaim := { program := "ytaldkafibemhnaa", sum := "b94971ceb34f13a2ef61967f36e3f6a5a103745f7019d7116dc1ff4ac72bc859", func := "teamster/teamsterlaw.WishChecks", spec := "wishChecks", plainKeys := false, apart := false, narrowed := true }
def WishChecksUptoSaid : Prop := wishChecksUptoRow.holds Try.pinned (OpenSpec.upto wishChecksSpec)

/-- 'teamsterlaw.SpanDecodes', WHERE WHAT IT READS IS OF BULK AT MOST 1048576: true; the input reads as it did. -/
def spanDecodesUptoRow : OpenClaim := { program := "ytaldkafibemhnaa", sum := "b94971ceb34f13a2ef61967f36e3f6a5a103745f7019d7116dc1ff4ac72bc859", func := "teamster/teamsterlaw.SpanDecodes", spec := "spanDecodes", plainKeys := false, apart := false, narrowed := true }
def SpanDecodesUptoSaid : Prop := spanDecodesUptoRow.holds Try.pinned (OpenSpec.upto spanDecodesSpec)

/-- 'teamsterlaw.NewsKnows', WHERE WHAT IT READS IS OF BULK AT MOST 1048576: true; the input reads as it did. -/
def newsKnowsUptoRow : OpenClaim := { program := "ytaldkafibemhnaa", sum := "b94971ceb34f13a2ef61967f36e3f6a5a103745f7019d7116dc1ff4ac72bc859", func := "teamster/teamsterlaw.NewsKnows", spec := "newsKnows", unfollowed := true, recurses := true, plainKeys := false, apart := false, narrowed := true }
def NewsKnowsUptoSaid : Prop := newsKnowsUptoRow.holds Try.pinned (OpenSpec.upto newsKnowsSpec)

/-- 'teamsterlaw.BeatsMakes', WHERE WHAT IT READS IS OF BULK AT MOST 1048576: true; the input reads as it did. -/
def beatsMakesUptoRow : OpenClaim := { program := "ytaldkafibemhnaa", sum := "b94971ceb34f13a2ef61967f36e3f6a5a103745f7019d7116dc1ff4ac72bc859", func := "teamster/teamsterlaw.BeatsMakes", spec := "beatsMakes", unfollowed := true, recurses := true, plainKeys := false, apart := false, narrowed := true }
def BeatsMakesUptoSaid : Prop := beatsMakesUptoRow.holds Try.pinned (OpenSpec.upto beatsMakesSpec)

/-- 'teamsterlaw.GraphDegrees', WHERE WHAT IT READS IS OF BULK AT MOST 1048576: true; the input reads as it did. -/
def graphDegreesUptoRow : OpenClaim := { program := "ytaldkafibemhnaa", sum := "b94971ceb34f13a2ef61967f36e3f6a5a103745f7019d7116dc1ff4ac72bc859", func := "teamster/teamsterlaw.GraphDegrees", spec := "graphDegrees", plainKeys := false, apart := false, narrowed := true }
def GraphDegreesUptoSaid : Prop := graphDegreesUptoRow.holds Try.pinned (OpenSpec.upto graphDegreesSpec)

/-- 'teamsterlaw.NewsPlans', WHERE WHAT IT READS IS OF BULK AT MOST 1048576: true; the input reads as it did. -/
def newsPlansUptoRow : OpenClaim := { program := "ytaldkafibemhnaa", sum := "b94971ceb34f13a2ef61967f36e3f6a5a103745f7019d7116dc1ff4ac72bc859", func := "teamster/teamsterlaw.NewsPlans", spec := "newsPlans", plainKeys := false, apart := false, narrowed := true }
def NewsPlansUptoSaid : Prop := newsPlansUptoRow.holds Try.pinned (OpenSpec.upto newsPlansSpec)

/-- 'teamsterlaw.FlowCuts', WHERE WHAT IT READS IS OF BULK AT MOST 1048576: true; the input reads as it did. -/
def flowCutsUptoRow : OpenClaim := { program := "ytaldkafibemhnaa", sum := "b94971ceb34f13a2ef61967f36e3f6a5a103745f7019d7116dc1ff4ac72bc859", func := "teamster/teamsterlaw.FlowCuts", spec := "flowCuts", unfollowed := true, recurses := true, plainKeys := false, apart := false, narrowed := true }
def FlowCutsUptoSaid : Prop := flowCutsUptoRow.holds Try.pinned (OpenSpec.upto flowCutsSpec)

/-- 'teamsterlaw.PackFirsts', WHERE WHAT IT READS IS OF BULK AT MOST 1048576: true; the input reads as it did. -/
def packFirstsUptoRow : OpenClaim := { program := "ytaldkafibemhnaa", sum := "b94971ceb34f13a2ef61967f36e3f6a5a103745f7019d7116dc1ff4ac72bc859", func := "teamster/teamsterlaw.PackFirsts", spec := "packFirsts", unfollowed := true, recurses := true, plainKeys := false, apart := false, narrowed := true }
def PackFirstsUptoSaid : Prop := packFirstsUptoRow.holds Try.pinned (OpenSpec.upto packFirstsSpec)

end Rows
end Go.Proofs.Ytaldkafibemhnaa
