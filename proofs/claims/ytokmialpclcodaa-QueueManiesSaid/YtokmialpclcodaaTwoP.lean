/- Two queues: when the second one is done. In plain Lean. Conditions: none. -/
import Derived.Test.YtokmialpclcodaaOrdP
namespace Go.Proofs.Ytokmialpclcodaa
open Go.RowKit

def twoS (f s : Nat → Int) (st : Int × Int) (j : Nat) : Int × Int := (st.1 + f j, max (st.1 + f j) st.2 + s j)
def twoE (f s : Nat → Int) (l : List Nat) : Int := (l.foldl (twoS f s) (0, 0)).2
theorem two_bound {f s : Nat → Int} (hf : ∀ j, 0 ≤ f j ∧ f j ≤ 1048576) (hs : ∀ j, 0 ≤ s j ∧ s j ≤ 1048576) (l : List Nat) : ∀ k, 0 ≤ ((l.take k).foldl (twoS f s) (0, 0)).1 ∧ ((l.take k).foldl (twoS f s) (0, 0)).1 ≤ 1048576 * (k : Int) ∧ 0 ≤ ((l.take k).foldl (twoS f s) (0, 0)).2 ∧ ((l.take k).foldl (twoS f s) (0, 0)).2 ≤ 2097152 * (k : Int)
  | 0 => by simp
  | k + 1 => by
    obtain ⟨h1, h2, h3, h4⟩ := two_bound hf hs l k
    rw [List.take_add_one]
    cases hk : l[k]? with
    | none =>
      simp only [Option.toList_none, List.append_nil]
      push_cast
      omega
    | some j =>
      simp only [Option.toList_some, List.foldl_append, List.foldl_cons, List.foldl_nil, twoS]
      obtain ⟨f1, f2⟩ := hf j
      obtain ⟨s1, s2⟩ := hs j
      push_cast
      omega
theorem two_succ {f s : Nat → Int} (l : List Nat) {k : Nat} (h : k < l.length) : (l.take (k + 1)).foldl (twoS f s) (0, 0) = twoS f s ((l.take k).foldl (twoS f s) (0, 0)) l[k] := by
  rw [List.take_add_one, List.getElem?_eq_getElem h, Option.toList_some, List.foldl_append]
  rfl
theorem twoE_take {f s : Nat → Int} (l : List Nat) {n : Nat} (h : l.length = n) : twoE f s l = ((l.take n).foldl (twoS f s) (0, 0)).2 := by
  rw [← h, List.take_length]
  rfl
def outB (x : Int) : Bool := decide (x < 0) || decide (x > 1048576)
def twoCheck (a b : List Int) : Int :=
  if 7 < a.length ∨ 7 < b.length then 1 else if a.length ≠ b.length then 3 else if a.any outB || b.any outB then 4 else 0
theorem outB_no {a : List Int} (h : a.any outB = false) (j : Nat) : 0 ≤ a.getD j 0 ∧ a.getD j 0 ≤ 1048576 := by
  by_cases hj : j < a.length
  · have hm : a[j] ∈ a := List.getElem_mem hj
    have : outB a[j] = false := by
      have := List.any_eq_false.1 h _ hm
      simpa using this
    rw [List.getD_eq_getElem?_getD, List.getElem?_eq_getElem hj]
    unfold outB at this
    simp at this ⊢
    omega
  · rw [List.getD_eq_getElem?_getD, List.getElem?_eq_none (by omega)]
    simp
end Go.Proofs.Ytokmialpclcodaa
