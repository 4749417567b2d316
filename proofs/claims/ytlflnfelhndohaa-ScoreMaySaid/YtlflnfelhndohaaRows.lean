/-
  No cell of these rows narrows 'for every input' (looked for: loops, veiled, ifaces, maps, wideKeys, modest, calm, conditions, laid).
  DERIVED. THE GIVEN ROWS OF THIS SEAT. 5 by the template 'for every input the law returns true; each argument reads behind the call as it read before'; 0 by the template 'total and deterministic' (their statements: YtlflnfelhndohaaTotals.lean).
  GIVEN WITH THE SEED: the statements are not yours to turn. If you find one false, say at which input.
  Laid BY PROGRAM, IN A SANDBOX (cutbox-rows.mjs): the forced cells as the released guide's own fill.sh prints them over the translation 500c06aad824a918… (all of the seat's roots in one cut). By AI agents, Wed Nov 11 2026. No macro, syntax, notation, axiom, sorry.
-/
import Derived.Test.YtlflnfelhndohaaChecked
import GoSem.Claim
import GoSem.ClaimJoined
import GoSem.ClaimMapViews
import Derived.JoinedTies
import Derived.KernelRfl
namespace Go.Proofs.Ytlflnfelhndohaa
/- THE CELL 'sum', in the pinned program and in every row, IS THE sha256 OF THE DUMP (.gsa) THAT YtlflnfelhndohaaProg.lean LOADS. Nothing in Lean hashes anything: it is a label: what it is worth is what the hold of that sum in a sandbox is worth. -/
noncomputable def Try.pinned : Pinned := { name := "ytlflnfelhndohaa", sum := "500c06aad824a91827e209b175b2d3898d1ce64a8afe3ea162b5817c5046967d", checked := Try.checked }
namespace Rows
def none {H : Type} : Left H := { results := [], args := [] }

/-- 'teamsterlaw.LanesApart': WHATEVER THE INPUT: true; the input reads as it did. -/
def lanesApartSpec : ChangeSpec := { name := "lanesApart", fn := fun _ => fun
  | [d1, d2, d3] => { results := [.lit (.bool true)], args := [d1, d2, d3] }
  | _ => none }
def lanesApartRow : OpenClaim := { program := "ytlflnfelhndohaa", sum := "500c06aad824a91827e209b175b2d3898d1ce64a8afe3ea162b5817c5046967d", func := "teamster/teamsterlaw.LanesApart", spec := "lanesApart", unfollowed := true, recurses := true, plainKeys := false, apart := false }
def LanesApartSaid : Prop := lanesApartRow.holds Try.pinned (OpenSpec.ofChange lanesApartSpec)

/-- ITS FALSE NEIGHBOUR: 'it returns false'. Refute it at one input. -/
def lanesApartWrong : ChangeSpec := { name := "lanesApart", fn := fun _ => fun
  | [d1, d2, d3] => { results := [.lit (.bool false)], args := [d1, d2, d3] }
  | _ => none }
def LanesApartWrongFalsely : Prop := lanesApartRow.holds Try.pinned (OpenSpec.ofChange lanesApartWrong)

/-- 'teamsterlaw.FeeLeast': WHATEVER THE INPUT: true; the input reads as it did. -/
def feeLeastSpec : ChangeSpec := { name := "feeLeast", fn := fun _ => fun
  | [d1, d2, d3, d4] => { results := [.lit (.bool true)], args := [d1, d2, d3, d4] }
  | _ => none }
def feeLeastRow : OpenClaim := { program := "ytlflnfelhndohaa", sum := "500c06aad824a91827e209b175b2d3898d1ce64a8afe3ea162b5817c5046967d", func := "teamster/teamsterlaw.FeeLeast", spec := "feeLeast", unfollowed := true, recurses := true, plainKeys := false, apart := false }
def FeeLeastSaid : Prop := feeLeastRow.holds Try.pinned (OpenSpec.ofChange feeLeastSpec)

/-- ITS FALSE NEIGHBOUR: 'it returns false'. Refute it at one input. -/
def feeLeastWrong : ChangeSpec := { name := "feeLeast", fn := fun _ => fun
  | [d1, d2, d3, d4] => { results := [.lit (.bool false)], args := [d1, d2, d3, d4] }
  | _ => none }
def FeeLeastWrongFalsely : Prop := feeLeastRow.holds Try.pinned (OpenSpec.ofChange feeLeastWrong)

/-- 'teamsterlaw.ScoreMay': WHATEVER THE INPUT: true; the input reads as it did. -/
def scoreMaySpec : ChangeSpec := { name := "scoreMay", fn := fun _ => fun
  | [d] => { results := [.lit (.bool true)], args := [d] }
  | _ => none }
def scoreMayRow : OpenClaim := { program := "ytlflnfelhndohaa", sum := "500c06aad824a91827e209b175b2d3898d1ce64a8afe3ea162b5817c5046967d", func := "teamster/teamsterlaw.ScoreMay", spec := "scoreMay", recurses := true, plainKeys := false, apart := false }
def ScoreMaySaid : Prop := scoreMayRow.holds Try.pinned (OpenSpec.ofChange scoreMaySpec)

/-- ITS FALSE NEIGHBOUR: 'it returns false'. Refute it at one input. -/
def scoreMayWrong : ChangeSpec := { name := "scoreMay", fn := fun _ => fun
  | [d] => { results := [.lit (.bool false)], args := [d] }
  | _ => none }
def ScoreMayWrongFalsely : Prop := scoreMayRow.holds Try.pinned (OpenSpec.ofChange scoreMayWrong)

/-- 'teamsterlaw.ScoreMakes': WHATEVER THE INPUT: true; the input reads as it did. -/
def scoreMakesSpec : ChangeSpec := { name := "scoreMakes", fn := fun _ => fun
  | [d] => { results := [.lit (.bool true)], args := [d] }
  | _ => none }
def scoreMakesRow : OpenClaim := { program := "ytlflnfelhndohaa", sum := "500c06aad824a91827e209b175b2d3898d1ce64a8afe3ea162b5817c5046967d", func := "teamster/teamsterlaw.ScoreMakes", spec := "scoreMakes", unfollowed := true, recurses := true, plainKeys := false, apart := false }
def ScoreMakesSaid : Prop := scoreMakesRow.holds Try.pinned (OpenSpec.ofChange scoreMakesSpec)

/-- ITS FALSE NEIGHBOUR: 'it returns false'. Refute it at one input. -/
def scoreMakesWrong : ChangeSpec := { name := "scoreMakes", fn := fun _ => fun
  | [d] => { results := [.lit (.bool false)], args := [d] }
  | _ => none }
def ScoreMakesWrongFalsely : Prop := scoreMakesRow.holds Try.pinned (OpenSpec.ofChange scoreMakesWrong)

/-- 'teamsterlaw.SpanLeast': WHATEVER THE INPUT: true; the input reads as it did. -/
def spanLeastSpec : ChangeSpec := { name := "spanLeast", fn := fun _ => fun
  | [d] => { results := [.lit (.bool true)], args := [d] }
  | _ => none }
def spanLeastRow : OpenClaim := { program := "ytlflnfelhndohaa", sum := "500c06aad824a91827e209b175b2d3898d1ce64a8afe3ea162b5817c5046967d", func := "teamster/teamsterlaw.SpanLeast", spec := "spanLeast", unfollowed := true, recurses := true, plainKeys := false, apart := false }
def SpanLeastSaid : Prop := spanLeastRow.holds Try.pinned (OpenSpec.ofChange spanLeastSpec)

/-- ITS FALSE NEIGHBOUR: 'it returns false'. Refute it at one input. -/
def spanLeastWrong : ChangeSpec := { name := "spanLeast", fn := fun _ => fun
  | [d] => { results := [.lit (.bool false)], args := [d] }
  | _ => none }
def SpanLeastWrongFalsely : Prop := spanLeastRow.holds Try.pinned (OpenSpec.ofChange spanLeastWrong)

/- THE SECOND FORM. 'bulk': how many values and letters a reading holds, each counted each time it is reached (what is shared counts as often as it is met; a slice's spare places count too). A statement '..UptoSaid' is the law's where the arguments, and the package variables that the reading takes, are together of bulk at most 1048576: NARROWER than '..Said'. Prove '..Said' where nothing that the law and all that it calls make is longer than what came in: it says more and counts as full. Else prove '..UptoSaid'. A law counts once. -/
mutual
def uptoBulk {H : Type} : DataW H → Nat
  | .lit (.string bytes) => bytes.length + 1
  | .lit _ => 1
  | .nil => 1
  | .ptr d => uptoBulk d + 1
  | .slice elems spare => uptoBulkAll elems + uptoBulkAll spare + 1
  | .agg parts => uptoBulkAll parts + 1
  | .iface _ d => uptoBulk d + 1
  | .map entries => uptoBulkEntries entries + 1
  | .held _ => 1
def uptoBulkAll {H : Type} : List (DataW H) → Nat
  | [] => 0
  | d :: r => uptoBulk d + uptoBulkAll r
def uptoBulkEntries {H : Type} : List (Lit × DataW H) → Nat
  | [] => 0
  | x :: r => uptoBulkEntry x + uptoBulkEntries r
def uptoBulkEntry {H : Type} : Lit × DataW H → Nat
  | (.string bytes, d) => bytes.length + uptoBulk d + 1
  | (_, d) => uptoBulk d + 1
 end
def uptoSmall : (H : Type) → List (DataW H) → Bool := fun _ ds => decide (uptoBulkAll ds ≤ 1048576)
def OpenSpec.upto (s : _root_.Go.ChangeSpec) : _root_.Go.OpenSpec := { _root_.Go.OpenSpec.ofChange s with cond := some uptoSmall }

/-- 'teamsterlaw.LanesApart', WHERE WHAT IT READS IS OF BULK AT MOST 1048576: true; the input reads as it did. -/
def lanesApartUptoRow : OpenClaim := { program := "ytlflnfelhndohaa", sum := "500c06aad824a91827e209b175b2d3898d1ce64a8afe3ea162b5817c5046967d", func := "teamster/teamsterlaw.LanesApart", spec := "lanesApart", unfollowed := true, recurses := true, plainKeys := false, apart := false, narrowed := true }
def LanesApartUptoSaid : Prop := lanesApartUptoRow.holds Try.pinned (OpenSpec.upto lanesApartSpec)

/-- 'teamsterlaw.FeeLeast', WHERE WHAT IT READS IS OF BULK AT MOST 1048576: true; the input reads as it did. -/
def feeLeastUptoRow : OpenClaim := { program := "ytlflnfelhndohaa", sum := "500c06aad824a91827e209b175b2d3898d1ce64a8afe3ea162b5817c5046967d", func := "teamster/teamsterlaw.FeeLeast", spec := "feeLeast", unfollowed := true, recurses := true, plainKeys := false, apart := false, narrowed := true }
def FeeLeastUptoSaid : Prop := feeLeastUptoRow.holds Try.pinned (OpenSpec.upto feeLeastSpec)

/-- 'teamsterlaw.ScoreMay', WHERE WHAT IT READS IS OF BULK AT MOST 1048576: true; the input reads as it did. -/
def scoreMayUptoRow : OpenClaim := { program := "ytlflnfelhndohaa", sum := "500c06aad824a91827e209b175b2d3898d1ce64a8afe3ea162b5817c5046967d", func := "teamster/teamsterlaw.ScoreMay", spec := "scoreMay", recurses := true, plainKeys := false, apart := false, narrowed := true }
def ScoreMayUptoSaid : Prop := scoreMayUptoRow.holds Try.pinned (OpenSpec.upto scoreMaySpec)

/-- 'teamsterlaw.ScoreMakes', WHERE WHAT IT READS IS OF BULK AT MOST 1048576: true; the input reads as it did. -/
def scoreMakesUptoRow : OpenClaim := { program := "ytlflnfelhndohaa", sum := "500c06aad824a91827e209b175b2d3898d1ce64a8afe3ea162b5817c5046967d", func := "teamster/teamsterlaw.ScoreMakes", spec := "scoreMakes", unfollowed := true, recurses := true, plainKeys := false, apart := false, narrowed := true }
def ScoreMakesUptoSaid : Prop := scoreMakesUptoRow.holds Try.pinned (OpenSpec.upto scoreMakesSpec)

/-- 'teamsterlaw.SpanLeast', WHERE WHAT IT READS IS OF BULK AT MOST 1048576: true; the input reads as it did. -/
def spanLeastUptoRow : OpenClaim := { program := "ytlflnfelhndohaa", sum := "500c06aad824a91827e209b175b2d3898d1ce64a8afe3ea162b5817c5046967d", func := "teamster/teamsterlaw.SpanLeast", spec := "spanLeast", unfollowed := true, recurses := true, plainKeys := false, apart := false, narrowed := true }
def SpanLeastUptoSaid : Prop := spanLeastUptoRow.holds Try.pinned (OpenSpec.upto spanLeastSpec)

end Rows
end Go.Proofs.Ytlflnfelhndohaa
