/- All words of some numbers, put together. Conditions: none. -/
import Derived.Test.YtjkfogkpacmdlaaDoorCells
import Derived.Test.YtjkfogkpacmdlaaDoorEach
namespace Go.Proofs.YtjkfogkpacmdlaaDoor
open Go.RowKit

/-- The words of all those, put together. -/
def orAll (l : List (BitVec 32)) (x : BitVec 32) (js : List Nat) : BitVec 32 := js.foldl (fun a j => wOr a (lw l j)) x
theorem orAll_app (l : List (BitVec 32)) (x : BitVec 32) (js : List Nat) (j : Nat) : orAll l x (js ++ [j]) = wOr (orAll l x js) (lw l j) := by simp [orAll]
theorem orAll_bit (l : List (BitVec 32)) (b : Nat) : ∀ (js : List Nat) (x : BitVec 32), (orAll l x js).getLsbD b = (x.getLsbD b || js.any fun j => (lw l j).getLsbD b)
  | [], x => by simp [orAll]
  | j :: js, x => by
    show (orAll l (wOr x (lw l j)) js).getLsbD b = _
    rw [orAll_bit l b js, b_or, List.any_cons, Bool.or_assoc]
/-- The words of those of the first k that are in s, put together. -/
def orTo (l : List (BitVec 32)) (s : BitVec 32) : Nat → BitVec 32
  | 0 => w0
  | k + 1 => if bitB s k = true then wOr (orTo l s k) (lw l k) else orTo l s k
theorem orTo_bit (l : List (BitVec 32)) (s : BitVec 32) (b : Nat) : ∀ k, (orTo l s k).getLsbD b = true ↔ ∃ j, j < k ∧ s.getLsbD j = true ∧ (lw l j).getLsbD b = true
  | 0 => by simp [orTo, b_0]
  | k + 1 => by
    have ih := orTo_bit l s b k
    rw [orTo, bitB_nat]
    by_cases hk : s.getLsbD k = true
    · rw [if_pos hk, b_or, Bool.or_eq_true, ih]
      constructor
      · rintro (⟨j, hj, h⟩ | h)
        · exact ⟨j, by omega, h⟩
        · exact ⟨k, by omega, hk, h⟩
      · rintro ⟨j, hj, h⟩
        by_cases hjk : j = k
        · subst hjk; exact .inr h.2
        · exact .inl ⟨j, by omega, h⟩
    · rw [if_neg hk, ih]
      constructor
      · rintro ⟨j, hj, h⟩; exact ⟨j, by omega, h⟩
      · rintro ⟨j, hj, h⟩
        by_cases hjk : j = k
        · subst hjk; exact absurd h.1 hk
        · exact ⟨j, by omega, h⟩
theorem orAll_orTo (l : List (BitVec 32)) (s : BitVec 32) {n : Nat} (h : ∀ j ∈ bitsL s, j < n) : orAll l w0 (bitsL s) = orTo l s n := by
  refine w_ext fun b _ => ?_
  rw [Bool.eq_iff_iff, orTo_bit, orAll_bit, b_0, Bool.false_or, List.any_eq_true]
  constructor
  · rintro ⟨j, hj, hb⟩; exact ⟨j, h j hj, mem_bitsL.1 hj, hb⟩
  · rintro ⟨j, _, hj, hb⟩; exact ⟨j, mem_bitsL.2 hj, hb⟩
/-- The bits of a word below 2 ^ n. -/
theorem bits_below {s : BitVec 32} {n : Nat} (h : s.toNat < 2 ^ n) : ∀ j ∈ bitsL s, j < n := fun j hj => by
  rcases Nat.lt_or_ge j n with hlt | hge
  · exact hlt
  · have := mem_bitsL.1 hj
    rw [bit_lt h hge] at this
    cases this
end Go.Proofs.YtjkfogkpacmdlaaDoor
