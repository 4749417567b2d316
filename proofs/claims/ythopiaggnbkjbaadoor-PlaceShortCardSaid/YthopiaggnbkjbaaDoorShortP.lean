/- Which tasks lack the most room, in plain Lean. Conditions: none. -/
import Derived.Test.YthopiaggnbkjbaaDoorPlaceA
import Derived.Test.YthopiaggnbkjbaaDoorCount
import Derived.Test.YthopiaggnbkjbaaDoorCells
import Derived.Test.YthopiaggnbkjbaaDoorBit
namespace Go.Proofs.YthopiaggnbkjbaaDoor
open Go.RowKit

/-- May a task be with a worker; is a worker wanted by any of the first k that are in s? -/
def mayW (t : BitVec 32) (a : Wk) : Bool := wBut t a.2 == w0
theorem mayW_and (t : BitVec 32) (a : Wk) : (wAnd t a.2 == t) = mayW t a := by
  unfold mayW
  rw [Bool.eq_iff_iff, beq_iff_eq, beq_iff_eq]
  constructor
  · intro h
    apply w_ext
    intro m _
    have := congrArg (fun v => v.getLsbD m) h
    simp only [b_and] at this
    rw [b_but, b_0]
    cases h1 : t.getLsbD m <;> cases h2 : a.2.getLsbD m <;> simp_all
  · intro h
    apply w_ext
    intro m _
    have := congrArg (fun v => v.getLsbD m) h
    simp only [b_but, b_0] at this
    rw [b_and]
    cases h1 : t.getLsbD m <;> cases h2 : a.2.getLsbD m <;> simp_all
def wantsTo (ts : List (BitVec 32)) (a : Wk) (s : BitVec 32) : Nat → Bool
  | 0 => false
  | k + 1 => wantsTo ts a s k || (bitB s k && mayW (lw ts k) a)
theorem wantsTo_iff (ts : List (BitVec 32)) (a : Wk) (s : BitVec 32) : ∀ k, wantsTo ts a s k = true ↔ ∃ j, j < k ∧ s.getLsbD j = true ∧ mayW (lw ts j) a = true
  | 0 => by simp [wantsTo]
  | k + 1 => by
    rw [wantsTo, Bool.or_eq_true, wantsTo_iff ts a s k, Bool.and_eq_true, bitB_nat]
    constructor
    · rintro (⟨j, h, h2⟩ | h)
      · exact ⟨j, by omega, h2⟩
      · exact ⟨k, by omega, h⟩
    · rintro ⟨j, h, h2⟩
      by_cases hj : j = k
      · subst hj; exact .inr h2
      · exact .inl ⟨j, by omega, h2⟩
/-- How much room a set lacks, by the first k workers; by all; the first set that lacks the most. -/
def lackTo (ts : List (BitVec 32)) (ws : List Wk) (s : BitVec 32) : Nat → Int
  | 0 => pop s
  | k + 1 => if wantsTo ts (ws.getD k (0, w0)) s ts.length = true then lackTo ts ws s k - (ws.getD k (0, w0)).1 else lackTo ts ws s k
def lackS (ts : List (BitVec 32)) (ws : List Wk) (s : BitVec 32) : Int := lackTo ts ws s ws.length
def shortTo (ts : List (BitVec 32)) (ws : List Wk) : Nat → BitVec 32
  | 0 => w0
  | k + 1 => if lackS ts ws (shortTo ts ws k) < lackS ts ws (nw k) then nw k else shortTo ts ws k
theorem lackTo_0 (ts : List (BitVec 32)) (ws : List Wk) : ∀ k, lackTo ts ws w0 k = 0
  | 0 => by
    rw [lackTo]
    have : pop w0 = 0 := by
      unfold pop popTo
      rw [List.countP_eq_zero]
      intro i _
      rw [b_0]
      simp
    rw [this]; rfl
  | k + 1 => by
    have h : ¬ wantsTo ts (ws.getD k (0, w0)) w0 ts.length = true := by
      rw [wantsTo_iff]
      rintro ⟨j, _, h, _⟩
      rw [b_0] at h; cases h
    rw [lackTo, if_neg h, lackTo_0 ts ws k]
theorem room_ok {ws : List Wk} {m : Nat} (h : placeCheck ws m = 0) : ws.length ≤ 6 ∧ m ≤ 12 ∧ ∀ k, 0 ≤ (ws.getD k (0, w0)).1 ∧ (ws.getD k (0, w0)).1 ≤ 12 := by
  unfold placeCheck at h
  split at h
  · omega
  · split at h
    · omega
    · rename_i h1 h2
      refine ⟨by omega, by omega, fun k => ?_⟩
      by_cases hk : k < ws.length
      · have e : ws.getD k (0, w0) = ws[k] := by simp [List.getD_eq_getElem?_getD, hk]
        rw [e]
        have := List.any_eq_false.1 (by simpa using h2) ws[k] (List.getElem_mem hk)
        unfold badRoom at this
        simp at this
        omega
      · simp [List.getD_eq_getElem?_getD, show ws.length ≤ k by omega]
theorem lackTo_bounds {ts : List (BitVec 32)} {ws : List Wk} (h : ∀ k, 0 ≤ (ws.getD k (0, w0)).1 ∧ (ws.getD k (0, w0)).1 ≤ 12) (s : BitVec 32) : ∀ k : Nat, -(12 * k : Int) ≤ lackTo ts ws s k ∧ lackTo ts ws s k ≤ 32
  | 0 => by
    have := pop_le s
    rw [lackTo]
    omega
  | k + 1 => by
    have ih := lackTo_bounds (ts := ts) h s k
    have := h k
    rw [lackTo]
    split <;> omega
theorem pow_le_4096 {N : Nat} (hN : N ≤ 12) : 2 ^ N ≤ 4096 := by
  have := Nat.pow_le_pow_right (show 0 < 2 by omega) hN
  simpa using this
end Go.Proofs.YthopiaggnbkjbaaDoor
