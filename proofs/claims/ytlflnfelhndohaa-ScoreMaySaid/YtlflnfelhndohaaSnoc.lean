/- A copy of a slice with one element behind: 'append(append([]T{}, l...), x)'. Conditions: none. -/
import Derived.Test.YtlflnfelhndohaaOwn
namespace Go.Proofs.Ytlflnfelhndohaa
open Go.RowKit

theorem snoc_size {W w5 : World} {o : Obj} {S : Nat} {row : Option Nat} (hS : W.heap.size = S) (g2 : (W.alloc o).grownBy w5 row) : S ≤ w5.heap.size := by
  have := g2.size
  rw [size_alloc'] at this
  omega
theorem snoc_done {α : Type} {W w5 w6 : World} {o o2 : Obj} {S c cap2 cap3 : Nat} {e : TypeId} {f : α → List Value} {A2 A3 : Option Addr} {l : List α} {x : α} (hS : W.heap.size = S)
    (h2 : Own w5 S e c f A2 cap2 ([] ++ l)) (g2 : (W.alloc o).grownBy w5 (blkOf (some ⟨S, 0, none⟩))) (h3 : Own w6 S e c f A3 cap3 ([] ++ l ++ [x])) (g3 : (w5.alloc o2).grownBy w6 (blkOf A2)) :
    Below S W w6 ∧ Own w6 S e c f A3 cap3 (l ++ [x]) ∧ S < w6.heap.size := by
  have b1 : Below S W (W.alloc o) := (Below.refl S W).alloc (by omega) o
  have b2 : Below S W w5 := b1.grown g2 (by rw [size_alloc']; omega) (fun g hg => by
    have : S = g := by simpa [blkOf] using hg
    omega)
  have z5 : S < w5.heap.size := by
    have := g2.size
    rw [size_alloc'] at this
    omega
  have b3 : Below S W (w5.alloc o2) := b2.alloc (by omega) o2
  have b4 : Below S W w6 := b3.grown g3 (by rw [size_alloc']; omega) (fun g hg => (h2.lt g hg).1)
  refine ⟨b4, by rw [List.nil_append] at h3; exact h3, ?_⟩
  have := g3.size
  rw [size_alloc'] at this
  omega
/-- The empty literal. -/
theorem Own.empty {α : Type} (w : World) (e : TypeId) (c : Nat) (f : α → List Value) (hf : ∀ a, (f a).length = c) : Own (w.alloc (.cells #[] e)) w.heap.size e c f (some ⟨w.heap.size, 0, none⟩) 0 ([] : List α) :=
  Own.lit (f := f) (c := c) w w.heap.size e #[] hf [] 0 rfl rfl (by unfold maxLen; omega) (Nat.le_refl _)
theorem Own.empty_at {α : Type} {w : World} {S : Nat} (hS : w.heap.size = S) (e : TypeId) (c : Nat) (f : α → List Value) (hf : ∀ a, (f a).length = c) : Own (w.alloc (.cells #[] e)) S e c f (some ⟨S, 0, none⟩) 0 ([] : List α) := by
  subst hS
  exact Own.empty w e c f hf
end Go.Proofs.Ytlflnfelhndohaa
