/- A set of nodes of which no two have an edge, by the edges and by the words; in plain Lean. Conditions: the graph is one. -/
import Derived.Test.YtokmialpclcodaaDoorStanP
import Derived.Test.YtokmialpclcodaaDoorLoose
import Derived.Test.YtokmialpclcodaaDoorNearP
namespace Go.Proofs.YtokmialpclcodaaDoor
open Go.RowKit

theorem adj_no {N : Nat} {l : List Ed} (hg : GoodG N l) (i : Nat) : adj l i i = false := by
  rcases h : adj l i i with _ | _
  · rfl
  · obtain ⟨e, he, hj⟩ := List.any_eq_true.1 h
    unfold joins at hj
    have hj := of_decide_eq_true hj
    have := (hg.ed e he).ne
    omega
theorem loose_iff {N : Nat} {es : List Ed} (hg : GoodG N es) (x : BitVec 32) : looseB es x = true ↔ ∀ i j : Nat, x.getLsbD i = true → x.getLsbD j = true → adj es i j = false := by
  unfold looseB adj
  rw [List.all_eq_true]
  constructor
  · intro h i j hi hj
    rw [List.any_eq_false]
    intro e he hjn
    have h1 := h e he
    unfold loose at h1
    unfold joins at hjn
    rw [decide_eq_true_iff] at hjn
    rcases hjn with ⟨h2, h3⟩ | ⟨h2, h3⟩
    · rw [h2, h3, bitB_nat, bitB_nat, hi, hj] at h1; cases h1
    · rw [h2, h3, bitB_nat, bitB_nat, hi, hj] at h1; cases h1
  · intro h e he
    obtain ⟨a0, a1, b0, b1, _⟩ := hg.ed e he
    obtain ⟨i, hi⟩ := Int.eq_ofNat_of_zero_le a0
    obtain ⟨j, hj⟩ := Int.eq_ofNat_of_zero_le b0
    unfold loose
    rw [hi, hj, bitB_nat, bitB_nat]
    cases h1 : x.getLsbD i with
    | false => rfl
    | true =>
      cases h2 : x.getLsbD j with
      | false => rfl
      | true =>
        have := List.any_eq_false.1 (h i j h1 h2) e he
        unfold joins at this
        rw [decide_eq_true_iff] at this
        exact absurd (.inl ⟨hi, hj⟩) this
theorem loose_0 (es : List Ed) {N : Nat} (hg : GoodG N es) : looseB es w0 = true := (loose_iff hg w0).2 fun i _ hi => by rw [b_0] at hi; cases hi
theorem loose_ins {N : Nat} {es : List Ed} (hg : GoodG N es) (t : BitVec 32) (x : Nat) (hx : x < N) (_ : t.getLsbD x = false) : looseB es (wOr t (wShl w1 x)) = (looseB es t && decide (wAnd t (lw (nearL N es) x) = w0)) := by
  have hN := hg.n10
  have hbit : ∀ j, (wOr t (wShl w1 x)).getLsbD j = true ↔ t.getLsbD j = true ∨ j = x := fun j => by rw [or_bit (by omega), Bool.or_eq_true, decide_eq_true_iff]
  have hdis : wAnd t (lw (nearL N es) x) = w0 ↔ ∀ j, t.getLsbD j = true → adj es x j = false := by
    constructor
    · intro h j hj
      have := congrArg (fun y : BitVec 32 => y.getLsbD j) h
      simp only [b_and, b_0, hj, Bool.true_and] at this
      rw [near_bit hg hx] at this
      exact this
    · intro h
      refine w_ext fun j _ => ?_
      rw [b_and, b_0, near_bit hg hx]
      cases hb : t.getLsbD j with
      | false => rfl
      | true => rw [h j hb]; rfl
  rw [Bool.eq_iff_iff, Bool.and_eq_true, decide_eq_true_iff, loose_iff hg, loose_iff hg, hdis]
  constructor
  · exact fun h => ⟨fun i j hi hj => h i j ((hbit i).2 (.inl hi)) ((hbit j).2 (.inl hj)), fun j hj => h x j ((hbit x).2 (.inr rfl)) ((hbit j).2 (.inl hj))⟩
  · rintro ⟨h1, h2⟩ i j hi hj
    rcases (hbit i).1 hi with hi | hi <;> rcases (hbit j).1 hj with hj | hj
    · exact h1 i j hi hj
    · rw [hj, adj_symm]; exact h2 i hi
    · rw [hi]; exact h2 j hj
    · rw [hi, hj]; exact adj_no hg x
/-- By the words: node by node. -/
theorem loose_near {N : Nat} {es : List Ed} (hg : GoodG N es) {s : BitVec 32} (hs : InW N s) : looseB es s = true ↔ ∀ i, s.getLsbD i = true → wAnd (lw (nearL N es) i) s = w0 := by
  rw [loose_iff hg]
  constructor
  · intro h i hi
    refine w_ext fun j _ => ?_
    rw [b_and, b_0, near_bit hg (hs i hi)]
    cases hb : s.getLsbD j with
    | false => rw [Bool.and_false]
    | true => rw [h i j hi hb]; rfl
  · intro h i j hi hj
    have := congrArg (fun y : BitVec 32 => y.getLsbD j) (h i hi)
    simp only [b_and, b_0, hj, Bool.and_true] at this
    rw [near_bit hg (hs i hi)] at this
    exact this
end Go.Proofs.YtokmialpclcodaaDoor
