/- The cells of a word, of a number. Conditions: none. -/
import Derived.Test.YtjkfogkpacmdlaaOwn
import Derived.Test.YtjkfogkpacmdlaaInts
namespace Go.Proofs.Ytjkfogkpacmdlaa
abbrev wcell (x : BitVec 32) : List Value := [.int .u32 (wN x)]
theorem lw_set (t : List (BitVec 32)) {i k : Nat} (x : BitVec 32) (hi : i < t.length) : lw (t.set i x) k = if i = k then x else lw t k := by
  unfold lw
  by_cases h : i = k
  · subst h; simp [List.getD_eq_getElem?_getD, hi]
  · simp [List.getD_eq_getElem?_getD, List.getElem?_set, h]
theorem lw_rep (n k : Nat) : lw (List.replicate n w0) k = w0 := by
  unfold lw
  by_cases h : k < n <;> simp [List.getD_eq_getElem?_getD, h]
/-- A list that grows by one is told by its element k. -/
theorem map_range_succ {α : Type} (f : Nat → α) (k : Nat) : (List.range (k + 1)).map f = (List.range k).map f ++ [f k] := by simp [List.range_succ]
end Go.Proofs.Ytjkfogkpacmdlaa
