/- First fit of all things of an order; what the check lets through. Conditions: none. -/
import Derived.Test.YtkfomboihnfajaaPackB
import Derived.Test.YtkfomboihnfajaaPackC
namespace Go.Proofs.Ytkfomboihnfajaa
open Go.RowKit

theorem Fits.placed {sz : List Int} {room : Int} {R l R' : List Int} (h : Fits sz room R l R') : R'.length = R.length ∧ ∀ i : Nat, i < R.length → (0 ≤ R.getD i 0 ∨ (i : Int) ∈ l) → 0 ≤ R'.getD i 0 := by
  induction h with
  | nil R => exact ⟨rfl, fun i _ h => h.elim id fun h => by simp at h⟩
  | cons R R' a l j _ t ih =>
    rw [List.length_set] at ih
    refine ⟨ih.1, fun i hi h => ih.2 i hi ?_⟩
    by_cases hai : a = i
    · subst hai
      left
      rw [getD_set_eq _ _ _ hi]
      omega
    · rw [getD_set_ne _ _ _ _ hai]
      rcases h with h | h
      · exact .inl h
      · rcases List.mem_cons.1 h with h | h
        · omega
        · exact .inr h
theorem filled_fits {sz : List Int} {room : Int} {n mb : Nat} {od R : List Int} (h : Fits sz room (List.replicate n (-1)) od R) (hp : Placed n mb R) (hall : ∀ i : Nat, i < n → (i : Int) ∈ od) : filled R = R :=
  filled_all hp fun i hi => by
    have := (h.placed.2 i (by simpa using hi) (.inr (hall i hi)))
    omega
theorem pack_good {sz : List Int} {room : Int} (h : packCheck sz room = 0) : sz.length ≤ 8 ∧ 1 ≤ room ∧ room ≤ 1048576 ∧ ∀ i, 0 ≤ sz.getD i 0 ∧ sz.getD i 0 ≤ room := by
  unfold packCheck at h
  split at h
  · omega
  · split at h
    · omega
    · split at h
      · omega
      · rename_i h1 h2 h3
        refine ⟨by omega, by omega, by omega, fun i => ?_⟩
        by_cases hi : i < sz.length
        · have e := getD_at sz i hi 0
          rw [e]
          have := List.any_eq_false.1 (by simpa using h3) sz[i] (List.getElem_mem hi)
          unfold sizeBad at this
          simp at this
          omega
        · have : sz.getD i 0 = 0 := by simp [List.getD_eq_getElem?_getD, show sz.length ≤ i by omega]
          omega

end Go.Proofs.Ytkfomboihnfajaa
