/- With whom each node is linked, in plain Lean: the part that wants no walk. Conditions: none. -/
import Derived.Test.YtjkfogkpacmdlaaDoorDistP
import Derived.Test.YtjkfogkpacmdlaaDoorCells
import Derived.Test.YtjkfogkpacmdlaaDoorNear
namespace Go.Proofs.YtjkfogkpacmdlaaDoor
open Go.RowKit

/-- A step from a node to one that it is linked with, within some. -/
def RS (l : List (BitVec 32)) (wi : BitVec 32) (c j : Nat) : Prop := (lw l c).getLsbD j = true ∧ wi.getLsbD j = true
/-- The least node that one is linked with. -/
def IsPart (l : List Ed) (i p : Nat) : Prop := Rch (Adj l) i p ∧ ∀ j, j < p → ¬ Rch (Adj l) i j
theorem IsPart.same {l : List Ed} {i p p' : Nat} (h : IsPart l i p) (h' : IsPart l i p') : p = p' := by
  rcases Nat.lt_trichotomy p p' with e | e | e
  · exact (h'.2 p e h.1).elim
  · exact e
  · exact (h.2 p' e h'.1).elim
def PartsL (l : List Ed) (L : List Int) : Prop := ∀ i, i < L.length → ∃ p : Nat, L.getD i 0 = p ∧ IsPart l i p
theorem PartsL.nil (l : List Ed) : PartsL l [] := fun i h => absurd h (by simp)
theorem PartsL.snoc {l : List Ed} {L : List Int} {p : Nat} (h : PartsL l L) (hp : IsPart l L.length p) : PartsL l (L ++ [(p : Int)]) := fun i hi => by
  rw [List.length_append, List.length_singleton] at hi
  by_cases hlt : i < L.length
  · obtain ⟨q, h1, h2⟩ := h i hlt
    exact ⟨q, by rw [← h1]; simp [List.getD_eq_getElem?_getD, List.getElem?_append_left hlt], h2⟩
  · obtain rfl : i = L.length := by omega
    exact ⟨p, by simp [List.getD_eq_getElem?_getD], hp⟩
theorem PartsL.same {l : List Ed} {L L' : List Int} (h : PartsL l L) (h' : PartsL l L') (hl : L.length = L'.length) : L = L' := by
  apply List.ext_getElem hl
  intro i h1 h2
  obtain ⟨p, e, hp⟩ := h i h1
  obtain ⟨p', e', hp'⟩ := h' i h2
  rw [getD_at L i h1] at e
  rw [getD_at L' i h2] at e'
  rw [e, e', hp.same hp']
theorem rs_adj {N : Nat} {l : List Ed} (hg : GoodG N l) (c j : Nat) : RS (nearL N l) (maskW N) c j ↔ Adj l c j := by
  have hN := hg.n10
  unfold RS
  rw [b_mask (by omega)]
  constructor
  · rintro ⟨h1, h2⟩
    rcases Nat.lt_or_ge c N with hc | hc
    · rw [near_bit hg hc] at h1
      exact h1
    · have : lw (nearL N l) c = w0 := by
        unfold lw
        rw [List.getD_eq_getElem?_getD, List.getElem?_eq_none (by rw [nearL_length]; exact hc)]
        rfl
      rw [this, b_0] at h1
      cases h1
  · intro h
    obtain ⟨hc, hj⟩ := adj_low hg c j h
    rw [near_bit hg hc]
    exact ⟨h, by simpa using hj⟩
theorem rch_iff {R R' : Nat → Nat → Prop} (h : ∀ c j, R c j ↔ R' c j) (i j : Nat) : Rch R i j ↔ Rch R' i j := by
  have : R = R' := by funext c j; exact propext (h c j)
  rw [this]
theorem near_adj {N : Nat} {l : List Ed} (hg : GoodG N l) (c j : Nat) : (lw (nearL N l) c).getLsbD j = true ↔ Adj l c j := by
  rw [← rs_adj hg]
  refine ⟨fun h => ?_, fun h => h.1⟩
  have hN := hg.n10
  rcases Nat.lt_or_ge c N with hc | hc
  · refine ⟨h, ?_⟩
    have ha : Adj l c j := by rw [near_bit hg hc] at h; exact h
    rw [b_mask (by omega)]
    simpa using (adj_low hg c j ha).2
  · have : lw (nearL N l) c = w0 := by
      unfold lw
      rw [List.getD_eq_getElem?_getD, List.getElem?_eq_none (by rw [nearL_length]; exact hc)]
      rfl
    rw [this, b_0] at h
    cases h
end Go.Proofs.YtjkfogkpacmdlaaDoor
