/- Keys of maps: pairs of ints. Conditions: none. -/
import Derived.Test.YtjkfogkpacmdlaaKeys
namespace Go.Proofs.Ytjkfogkpacmdlaa
open Go.RowKit

abbrev pairV (p : Int × Int) : Value := .agg #[.int .i64 p.1, .int .i64 p.2]
theorem keyL_pair : KeyL Try.prog 104 pairV where
  chk b a w := by
    obtain ⟨x, y⟩ := a
    kernel_rfl
  eqv a b w := by
    obtain ⟨x, y⟩ := a
    obtain ⟨x', y'⟩ := b
    unfold Op.equal
    rw [show Op.maxDepth = 9999 + 1 from rfl]
    rw [run_equalIn_agg w 9999 104 _ _ (by kernel_rfl) (by kernel_rfl)]
    have hag : ∀ W, (isAgg 3).run Try.prog W = .ok false W := fun W => by kernel_rfl
    have he := fun (W : World) (d : Nat) (p q : Int) => run_equalIn_int (P := Try.prog) W d 3 .i64 .i64 p q Try.underlying3
    by_cases h1 : x = x'
    · by_cases h2 : y = y'
      · subst h1 h2
        simp [Program.fieldsOf, Try.underlying104, Op.eqFields, part, hag, he, Result.andThen]
      · subst h1
        simp [Program.fieldsOf, Try.underlying104, Op.eqFields, part, hag, he, Result.andThen, h2]
    · simp [Program.fieldsOf, Try.underlying104, Op.eqFields, part, hag, he, Result.andThen, h1]
  desc := ⟨_, Try.underlying104, .inl fun a b => rfl⟩
  self a := by simp [Instr.sameBits]
end Go.Proofs.Ytjkfogkpacmdlaa
