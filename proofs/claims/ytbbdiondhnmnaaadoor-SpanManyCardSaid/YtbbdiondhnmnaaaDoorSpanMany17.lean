/- Keys of maps: ints, words, pairs of ints. Conditions: none. -/
import Derived.Test.YtbbdiondhnmnaaaDoorProg
import Derived.Test.YtbbdiondhnmnaaaDoorSpanMany16
import Derived.Test.YtbbdiondhnmnaaaDoorSpanMany2
namespace Go.Proofs.YtbbdiondhnmnaaaDoor
open Go.RowKit

theorem keyL_int {P : Program} {t : TypeId} (h : P.underlying t = some (.int .i64)) : KeyL P t (fun n : Int => .int .i64 n) where
  chk b a w := MapKept.run_checkKey h (by simp [MapKept.IsKey]) b 9999
  eqv a b w := by
    unfold Op.equal
    rw [show Op.maxDepth = 9999 + 1 from rfl, run_equalIn_int w 9999 t .i64 .i64 a b h]
    rfl
  desc := ⟨_, h, .inr fun a b => by simp [Instr.sameNow]; rfl⟩
  self a := by simp [Instr.sameBits]
theorem keyL_word {P : Program} {t : TypeId} (h : P.underlying t = some (.int .u32)) : KeyL P t (fun x : BitVec 32 => .int .u32 (wN x)) where
  chk b a w := MapKept.run_checkKey h (by simp [MapKept.IsKey]) b 9999
  eqv a b w := by
    unfold Op.equal
    rw [show Op.maxDepth = 9999 + 1 from rfl, run_equalIn_int w 9999 t .u32 .u32 (wN a) (wN b) h, w_eq]
    rfl
  desc := ⟨_, h, .inr fun a b => by simp [Instr.sameNow, w_eq]; rfl⟩
  self a := by simp [Instr.sameBits]
end Go.Proofs.YtbbdiondhnmnaaaDoor

/- Keys of maps: pairs of ints. Conditions: none. -/
namespace Go.Proofs.YtbbdiondhnmnaaaDoor
open Go.RowKit

abbrev pairV (p : Int × Int) : Value := .agg #[.int .i64 p.1, .int .i64 p.2]
theorem keyL_pair : KeyL Tryd.prog 51 pairV where
  chk b a w := by
    obtain ⟨x, y⟩ := a
    kernel_rfl
  eqv a b w := by
    obtain ⟨x, y⟩ := a
    obtain ⟨x', y'⟩ := b
    unfold Op.equal
    rw [show Op.maxDepth = 9999 + 1 from rfl]
    rw [run_equalIn_agg w 9999 51 _ _ (by kernel_rfl) (by kernel_rfl)]
    have hag : ∀ W, (isAgg 3).run Tryd.prog W = .ok false W := fun W => by kernel_rfl
    have he := fun (W : World) (d : Nat) (p q : Int) => run_equalIn_int (P := Tryd.prog) W d 3 .i64 .i64 p q Tryd.underlying3
    by_cases h1 : x = x'
    · by_cases h2 : y = y'
      · subst h1 h2
        simp [Program.fieldsOf, Tryd.underlying51, Op.eqFields, part, hag, he, Result.andThen]
      · subst h1
        simp [Program.fieldsOf, Tryd.underlying51, Op.eqFields, part, hag, he, Result.andThen, h2]
    · simp [Program.fieldsOf, Tryd.underlying51, Op.eqFields, part, hag, he, Result.andThen, h1]
  desc := ⟨_, Tryd.underlying51, .inl fun a b => rfl⟩
  self a := by simp [Instr.sameBits]
end Go.Proofs.YtbbdiondhnmnaaaDoor
