/- A slice that is grown and cut in place; what a call keeps that turns some blocks of cells. Conditions: none. -/
import Derived.Test.YtokmialpclcodaaDoorRowP
import Derived.Test.YtokmialpclcodaaDoorIntsOf
import Derived.Test.YtokmialpclcodaaDoorPushFull
import Derived.Test.YtokmialpclcodaaDoorTurned
namespace Go.Proofs.YtokmialpclcodaaDoor
open Go.RowKit Go.Shelf

theorem KpE.held {ex : List Nat} {W W' : World} {bx : Nat} {t : TypeId} (h : Held ex W W') (hbx : bx ∉ ex) (h0 : 0 ∉ ex) : KpE bx t W W' :=
  ⟨fun v hv => (h.block bx hv.lt hbx).trans hv, fun ht => ht.block h.size (h.block 0 ht.1 h0)⟩
theorem wrap_le20 (q : Nat) (h1 : q ≤ 20) : IntKind.i64.wrap (q : Int) = (q : Int) := by
  have h : ∀ i : Fin 21, IntKind.i64.wrap ((i.val : Nat) : Int) = ((i.val : Nat) : Int) := by decide +kernel
  exact h ⟨q, by omega⟩
theorem wAnd_comm (x y : BitVec 32) : wAnd x y = wAnd y x := BitVec.and_comm x y
end Go.Proofs.YtokmialpclcodaaDoor
