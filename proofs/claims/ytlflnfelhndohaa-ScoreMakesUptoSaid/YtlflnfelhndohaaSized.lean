/- The form's own reach: a slice argument takes no more memory than there is. Conditions: none. -/
import Derived.Test.YtlflnfelhndohaaOpen
import Derived.SizedLaws
import Derived.Deep.Slices
namespace Go.Proofs.Ytlflnfelhndohaa
open Go.ChangeShapes Go.WideShapes Go.ChangeAt Go.RowKit Go.Deep Go.Joins

theorem sized_len {H : Type} {enc : TypeId × Value → H} {P : Program} {w : World} {base : Nat} {spare : Nat → Bool} {held : Bool} {t e n c : Nat} {A : Option Addr} {d : DataW H} {p : List MemPlace} (ht : P.underlying t = some (.slice e)) (h : DataW.Trod enc P w base spare held t (.slice A n c) d p) : n = 0 ∨ ∃ elems sp, d = .slice elems sp ∧ n ≤ elems.length := by
  obtain ⟨fuel, hf⟩ := h
  rw [show (Value.slice A n c).cells.toList = [.slice A n c] from rfl] at hf
  rcases open_slice ht hf with ⟨hcs, _⟩ | ⟨a, len, cap, m, n', D, Pl, hcs, _, hl, hm, hmm, hx, _⟩
  · simp only [List.cons.injEq, Value.slice.injEq, and_true] at hcs
    exact .inl hcs.2.1
  · simp only [List.cons.injEq, Value.slice.injEq, and_true] at hcs
    simp only [Prod.mk.injEq] at hx
    exact .inr ⟨_, _, hx.1, by rw [List.length_map, List.length_range]; omega⟩
end Go.Proofs.Ytlflnfelhndohaa
