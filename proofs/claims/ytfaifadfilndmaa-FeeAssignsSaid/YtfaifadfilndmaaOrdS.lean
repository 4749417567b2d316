/- Is a number in a list, in both spellings. Conditions: none. -/
import Derived.Test.YtfaifadfilndmaaInts
import Derived.Test.YtfaifadfilndmaaIntsOf
namespace Go.Proofs.Ytfaifadfilndmaa
open Go.RowKit

theorem hasB_intsL (l : List Nat) (k : Nat) : hasB (intsOf l) (k : Int) = l.contains k := by
  unfold hasB intsOf
  rw [Bool.eq_iff_iff, List.any_map, List.any_eq_true, List.contains_iff_mem]
  constructor
  · rintro ⟨x, hx, he⟩
    have he' : k = x := by simp at he; omega
    rw [he']; exact hx
  · intro h
    exact ⟨k, h, by simp⟩
theorem bool_orL (b : Bool) : b = false ∨ b = true := by cases b <;> simp
end Go.Proofs.Ytfaifadfilndmaa
