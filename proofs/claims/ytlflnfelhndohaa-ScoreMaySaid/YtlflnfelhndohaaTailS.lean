/- A slice's tail, as the model cuts it. Conditions: none. -/
import Derived.Test.YtlflnfelhndohaaPushFull
namespace Go.Proofs.Ytlflnfelhndohaa
open Go.RowKit

theorem run_tail {P : Program} {t e : TypeId} (ht : P.underlying t = some (.slice e)) (hs : ∀ w, (sizeOf e).run P w = .ok 1 w) (A : Option Addr) (m cap k : Nat) (hk : k ≤ m) (hm : m ≤ cap) (hb : m < 2 ^ 62) (w : World) :
    (Instr.slice t (.slice A m cap) (some (.int .i64 (k : Int))) none none).run P w = .ok (.slice (if cap = k then A else A.map (·.add (k * 1))) (m - k) (cap - k)) w := by
  have h1 : (0 : Int) ≤ (k : Int) ∧ (k : Int) ≤ (m : Int) := by omega
  have h2 : (0 : Int) ≤ (m : Int) ∧ (m : Int) ≤ (cap : Int) := by omega
  simp [Instr.slice, run_underlying ht, Instr.sliceBounds, Instr.sliceBound, asIntOf, hk, hm, hs, Result.andThen]
  done
end Go.Proofs.Ytlflnfelhndohaa
