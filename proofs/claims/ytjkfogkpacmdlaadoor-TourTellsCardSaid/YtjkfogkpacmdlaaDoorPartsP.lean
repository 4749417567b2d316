/- With whom each node is linked, in plain Lean. Conditions: none. -/
import Derived.Test.YtjkfogkpacmdlaaDoorSpread
import Derived.Test.YtjkfogkpacmdlaaDoorNear
import Derived.Test.YtjkfogkpacmdlaaDoorPartsQ
namespace Go.Proofs.YtjkfogkpacmdlaaDoor
open Go.RowKit

theorem part_tz {N : Nat} {l : List Ed} (hg : GoodG N l) {i : Nat} (hi : i < N) {x : BitVec 32} (hx : ∀ j, x.getLsbD j = true ↔ ∃ i', (wShl w1 i).getLsbD i' = true ∧ Rch (RS (nearL N l) (maskW N)) i' j) : x ≠ w0 ∧ IsPart l i (tz x) := by
  have hN := hg.n10
  have hb : ∀ j, x.getLsbD j = true ↔ Rch (Adj l) i j := fun j => by
    rw [hx j, ← rch_iff (rs_adj hg)]
    constructor
    · rintro ⟨i', h1, h2⟩
      rw [b_one] at h1
      simp at h1
      rw [← h1.2]
      exact h2
    · intro h
      exact ⟨i, by rw [b_one]; simp; omega, h⟩
  have hne : x ≠ w0 := fun e => by
    have := (hb i).2 ⟨0, .start⟩
    rw [e, b_0] at this
    cases this
  refine ⟨hne, (hb _).1 (tz_bit hne), fun j hj hr => ?_⟩
  rw [← hb, tz_low hne hj] at hr
  cases hr

end Go.Proofs.YtjkfogkpacmdlaaDoor
