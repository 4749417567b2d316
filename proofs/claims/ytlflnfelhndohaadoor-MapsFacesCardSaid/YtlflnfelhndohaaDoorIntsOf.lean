/- Places as numbers. Conditions: none. -/
import Derived.Test.YtlflnfelhndohaaDoorCommon
namespace Go.Proofs.YtlflnfelhndohaaDoor
open Go.RowKit

def intsOf (l : List Nat) : List Int := l.map fun j : Nat => (j : Int)
theorem wrap_le8 (q : Nat) (h1 : q ≤ 8) : IntKind.i64.wrap (q : Int) = (q : Int) := by
  have h : ∀ i : Fin 9, IntKind.i64.wrap ((i.val : Nat) : Int) = ((i.val : Nat) : Int) := by decide +kernel
  exact h ⟨q, by omega⟩
end Go.Proofs.YtlflnfelhndohaaDoor
