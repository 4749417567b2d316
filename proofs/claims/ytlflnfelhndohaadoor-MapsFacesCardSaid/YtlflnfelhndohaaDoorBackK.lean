/- What a round over a slice's values keeps. Conditions: none. -/
import Derived.Test.YtlflnfelhndohaaDoorIter
import Derived.Test.YtlflnfelhndohaaDoorOwn
import Derived.Test.YtlflnfelhndohaaDoorIntsOf
import Derived.Test.YtlflnfelhndohaaDoorCells
import Derived.IntWalk
namespace Go.Proofs.YtlflnfelhndohaaDoor
open Go.RowKit Go.Shelf

/-- What a round keeps: all that lies low, and the iterator's own box. -/
def KeepZ (z P : Nat) (W W' : World) : Prop := W.heap.size ≤ W'.heap.size ∧ ∀ k, (k < z ∨ k = P) → W'.heap[k]? = W.heap[k]?
theorem KeepZ.els {z P c : Nat} {W W' : World} {α : Type} {f : α → List Value} {A : Option Addr} {l : List α} (h : KeepZ z P W W') (he : Els W z c f A l) : Els W' z c f A l := fun h0 => by
  obtain ⟨g, off, e, hg, hc⟩ := he h0
  refine ⟨g, off, e, hg, fun i a ha j u hu => ?_⟩
  have := hc i a ha j u hu
  unfold World.cell? at this ⊢
  rw [h.2 g (.inl hg)]
  exact this
theorem KeepZ.blk {z P t : Nat} {W W' : World} {cs : Array Value} (h : KeepZ z P W W') (hk : Blk W P t cs) : Blk W' P t cs := (h.2 P (.inr rfl)).trans hk
theorem KeepZ.refl (z P : Nat) (W : World) : KeepZ z P W W := ⟨Nat.le_refl _, fun _ _ => rfl⟩
theorem KeepZ.trans {z P : Nat} {A B C : World} (h : KeepZ z P A B) (k : KeepZ z P B C) : KeepZ z P A C := ⟨Nat.le_trans h.1 k.1, fun i hi => (k.2 i hi).trans (h.2 i hi)⟩
end Go.Proofs.YtlflnfelhndohaaDoor
