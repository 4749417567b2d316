/- Sums over the first numbers, in plain Lean. Conditions: none. -/
import Derived.Test.YtokmialpclcodaaDoorCells
namespace Go.Proofs.YtokmialpclcodaaDoor
open Go.RowKit

def ind (b : Bool) : Int := if b then 1 else 0
theorem ind_t : ind true = 1 := rfl
theorem ind_f : ind false = 0 := rfl
theorem ind_nn (b : Bool) : 0 ≤ ind b := by cases b <;> decide
def sm (f : Nat → Int) : Nat → Int
  | 0 => 0
  | n + 1 => sm f n + f n
theorem sm_succ (f : Nat → Int) (n : Nat) : sm f (n + 1) = sm f n + f n := rfl
theorem sm_le {f g : Nat → Int} : ∀ n, (∀ i, i < n → f i ≤ g i) → sm f n ≤ sm g n
  | 0, _ => Int.le_refl _
  | n + 1, h => by
    have := sm_le n fun i hi => h i (by omega)
    have := h n (by omega)
    unfold sm; omega
theorem sm_congr {f g : Nat → Int} (n : Nat) (h : ∀ i, i < n → f i = g i) : sm f n = sm g n := Int.le_antisymm (sm_le n fun i hi => Int.le_of_eq (h i hi)) (sm_le n fun i hi => Int.le_of_eq (h i hi).symm)
theorem sm_zero (n : Nat) : sm (fun _ => 0) n = 0 := by
  induction n with
  | zero => rfl
  | succ n ih => unfold sm; omega
theorem sm_nn {f : Nat → Int} (n : Nat) (h : ∀ i, i < n → 0 ≤ f i) : 0 ≤ sm f n := by
  have := sm_le (f := fun _ => 0) n h
  rw [sm_zero] at this
  exact this
theorem sm_add (f g : Nat → Int) : ∀ n, sm (fun i => f i + g i) n = sm f n + sm g n
  | 0 => rfl
  | n + 1 => by
    have := sm_add f g n
    unfold sm; omega
theorem sm_sub (f g : Nat → Int) : ∀ n, sm (fun i => f i - g i) n = sm f n - sm g n
  | 0 => rfl
  | n + 1 => by
    have := sm_sub f g n
    unfold sm; omega
theorem sm_swap (f : Nat → Nat → Int) (m : Nat) : ∀ n, sm (fun i => sm (f i) m) n = sm (fun j => sm (fun i => f i j) n) m
  | 0 => by
    have : sm (fun _ : Nat => (0 : Int)) m = 0 := sm_zero m
    exact this.symm
  | n + 1 => by
    have ih := sm_swap f m n
    show sm (fun i => sm (f i) m) n + sm (f n) m = sm (fun j => sm (fun i => f i j) n + f n j) m
    rw [ih, sm_add]
theorem sm_one (q : Nat) : ∀ n, sm (fun i => ind (i == q)) n = ind (decide (q < n))
  | 0 => by simp [sm, ind]
  | n + 1 => by
    have ih := sm_one q n
    unfold sm
    rw [ih]
    by_cases h : n = q
    · subst h
      have h1 : decide (n < n) = false := by simp
      have h2 : decide (n < n + 1) = true := by simp
      rw [h1, h2]
      simp [ind]
    · have h1 : (n == q) = false := by simpa using h
      have h2 : decide (q < n + 1) = decide (q < n) := by
        rw [decide_eq_decide]; omega
      rw [h1, h2]
      simp [ind]
theorem sm_only {f : Nat → Int} {q n : Nat} (hq : q < n) (h : ∀ i, i < n → i ≠ q → f i = 0) : sm f n = f q := by
  have : sm f n = sm (fun i => ind (i == q) * f q) n := sm_congr n fun i hi => by
    by_cases hiq : i = q
    · subst hiq; simp [ind]
    · have : (i == q) = false := by simpa using hiq
      rw [this, h i hi hiq]; simp [ind]
  rw [this]
  have h2 : ∀ n, sm (fun i => ind (i == q) * f q) n = sm (fun i => ind (i == q)) n * f q := fun n => by
    induction n with
    | zero => simp [sm]
    | succ n ih => unfold sm; rw [ih, Int.add_mul]
  rw [h2, sm_one, decide_eq_true hq]
  simp [ind]
/-- A sum in which but one member is another one. -/
theorem sm_upd {f g : Nat → Int} {j n : Nat} (hj : j < n) (h : ∀ q, q ≠ j → g q = f q) : sm g n = sm f n + (g j - f j) := by
  have : sm g n = sm (fun q => f q + ind (q == j) * (g j - f j)) n := sm_congr _ fun q _ => by
    by_cases e : q = j
    · subst e; simp [ind]; omega
    · have h1 : (q == j) = false := by simpa using e
      rw [h q e, h1]; simp [ind]
  rw [this, sm_add]
  congr 1
  rw [sm_only (q := j) hj fun q _ hne => by
    have h1 : (q == j) = false := by simpa using hne
    rw [h1]; simp [ind]]
  simp [ind]
abbrev la (l : List Int) (k : Nat) : Int := l.getD k 0
end Go.Proofs.YtokmialpclcodaaDoor
