/- Two operations of a drawn region ready at once. Conditions: none. -/
import Derived.Test.YtlflnfelhndohaaDoorRegC
namespace Go.Proofs.YtlflnfelhndohaaDoor
open Go.RowKit Go.Shelf
section
variable {P : Program} {md : Region.Mode} {ops : Array Oper} {z : Nat} {C : World → Prop} {Q : Act → World → Prop}
theorem anyD_two {i j : Nat} {oi oj : Oper} {fuel : Nat} {listed : Array Bool} {a : Act} {w : World} (hr : Region.ready md ops listed = [i, j]) (hi : ops[i]? = some oi) (hj : ops[j]? = some oj) (hwi : Region.wanted oi (yielded ops a.tmps) = true) (hwj : Region.wanted oj (yielded ops a.tmps) = true) (hC : listed.getD z false = true ∨ C w)
    (h1 : oi.wp P a w (anyC P md ops z C Q fuel (listed.setIfInBounds i true)) noP) (h2 : oj.wp P a w (anyC P md ops z C Q fuel (listed.setIfInBounds j true)) noP) : anyC P md ops z C Q (fuel + 1) listed a w :=
  ⟨hC, fun h0 => (by rw [hr] at h0; cases h0), fun k hk => by
    rw [hr] at hk
    simp only [List.mem_cons, List.not_mem_nil, or_false] at hk
    rcases hk with rfl | rfl
    · exact ⟨oi, hi, .inl ⟨hwi, h1⟩⟩
    · exact ⟨oj, hj, .inl ⟨hwj, h2⟩⟩⟩
end
end Go.Proofs.YtlflnfelhndohaaDoor
