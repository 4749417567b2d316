/- Words that count, and the one bit at a place. Conditions: none. -/
import Derived.Test.YtjkfogkpacmdlaaFeeLeast6
namespace Go.Proofs.Ytjkfogkpacmdlaa
open Go.RowKit

def nw (k : Nat) : BitVec 32 := BitVec.ofNat 32 k
theorem wN_nw {k : Nat} (h : k < 4294967296) : wN (nw k) = k := by
  unfold wN nw
  rw [BitVec.toNat_ofNat]
  omega
theorem nw_succ (k : Nat) : wAdd (nw k) w1 = nw (k + 1) := by
  unfold wAdd w1 nw
  apply BitVec.eq_of_toNat_eq
  simp
theorem wN_pow {n : Nat} (h : n < 32) : wN (wShl w1 n) = (2 ^ n : Nat) := by
  unfold wN
  rw [wN_shl1 h]
theorem shr_and1_eq0 (x : BitVec 32) (i : Nat) : (wAnd (wShr x i) w1 == w0) = !bitB x i := by
  rw [bitB_nat, Bool.eq_iff_iff, beq_iff_eq]
  constructor
  · intro h
    have := congrArg (fun v => v.getLsbD 0) h
    simp only [b_and, b_shr, b_1, b_0, Nat.add_zero, decide_true, Bool.and_true] at this
    rw [this]
    rfl
  · intro h
    apply w_ext
    intro m _
    rw [b_and, b_shr, b_1, b_0]
    by_cases hm : m = 0
    · subst hm
      simpa using h
    · simp [hm]
theorem nw_toNat (x : BitVec 32) : nw x.toNat = x := by
  unfold nw
  exact BitVec.ofNat_toNat 32 x |>.trans (by simp)

end Go.Proofs.Ytjkfogkpacmdlaa
