/- Keys of maps: ints, words, pairs of ints. Conditions: none. -/
import Derived.Test.YtjkfogkpacmdlaaProg
import Derived.Test.YtjkfogkpacmdlaaMaps
import Derived.Test.YtjkfogkpacmdlaaWords
namespace Go.Proofs.Ytjkfogkpacmdlaa
open Go.RowKit

theorem keyL_int {P : Program} {t : TypeId} (h : P.underlying t = some (.int .i64)) : KeyL P t (fun n : Int => .int .i64 n) where
  chk b a w := MapKept.run_checkKey h (by simp [MapKept.IsKey]) b 9999
  eqv a b w := by
    unfold Op.equal
    rw [show Op.maxDepth = 9999 + 1 from rfl, run_equalIn_int w 9999 t .i64 .i64 a b h]
    rfl
  desc := ⟨_, h, .inr fun a b => by simp [Instr.sameNow]; rfl⟩
  self a := by simp [Instr.sameBits]
theorem keyL_word {P : Program} {t : TypeId} (h : P.underlying t = some (.int .u32)) : KeyL P t (fun x : BitVec 32 => .int .u32 (wN x)) where
  chk b a w := MapKept.run_checkKey h (by simp [MapKept.IsKey]) b 9999
  eqv a b w := by
    unfold Op.equal
    rw [show Op.maxDepth = 9999 + 1 from rfl, run_equalIn_int w 9999 t .u32 .u32 (wN a) (wN b) h, w_eq]
    rfl
  desc := ⟨_, h, .inr fun a b => by simp [Instr.sameNow, w_eq]; rfl⟩
  self a := by simp [Instr.sameBits]
end Go.Proofs.Ytjkfogkpacmdlaa
