/- The calls behind which all know all, in plain Lean. Conditions: none. -/
import Derived.Test.YtaldkafibemhnaaNewsKnows
namespace Go.Proofs.Ytaldkafibemhnaa
open Go.RowKit

def outerL (k : Nat) : List Cl := (List.range k).map fun i : Nat => ((0 : Int), ((i + 4 : Nat) : Int))
theorem outerL_length (k : Nat) : (outerL k).length = k := by simp [outerL]
theorem outerL_succ (k : Nat) : outerL (k + 1) = outerL k ++ [((0 : Int), ((k + 4 : Nat) : Int))] := by simp [outerL, List.range_succ]
def fourL : List Cl := [(0, 1), (2, 3), (0, 2), (1, 3)]
def planL (n : Nat) : List Cl := if n = 1 then [] else if n = 2 then [(0, 1)] else if n = 3 then [(0, 1), (0, 2), (0, 1)] else outerL (n - 4) ++ (fourL ++ (outerL (n - 4) ++ []))
def planWant (n : Nat) : Nat := if n < 4 then [0, 0, 1, 3].getD n 0 else 2 * n - 4
theorem plan_good (n : Nat) (h1 : 1 ≤ n) (h8 : n ≤ 8) : callsCheck n (planL n) = 0 ∧ knowW n (planL n) = List.replicate n (maskW n) ∧ (planL n).length = planWant n := by
  have : n = 1 ∨ n = 2 ∨ n = 3 ∨ n = 4 ∨ n = 5 ∨ n = 6 ∨ n = 7 ∨ n = 8 := by omega
  rcases this with rfl | rfl | rfl | rfl | rfl | rfl | rfl | rfl <;> exact ⟨by decide +kernel, by decide +kernel, by decide +kernel⟩
end Go.Proofs.Ytaldkafibemhnaa
