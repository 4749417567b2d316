/- What wishes are told to be wrong: the program and the reference compute the one function wishCheck. Conditions: the lists read as lists. -/
import Derived.Test.YtjkfogkpacmdlaaFeeLeast9
import Derived.Test.YtjkfogkpacmdlaaFeeLeast2
namespace Go.Proofs.Ytjkfogkpacmdlaa
open Go.RowKit
attribute [local go_sem ↓] s_and s_or s_but s_and1 s_shr s_shl1
attribute [local go_sem] s_eq0 s_ne0 s_eq1

abbrev rcell (s : Sls Int) : List Value := [s.val]
def badAt (n : Int) (l : List Int) (k : Nat) : Bool := decide (l.getD k 0 < 0) || decide (n ≤ l.getD k 0) || hasB (l.take k) (l.getD k 0)
def listBad (n : Int) (l : List Int) : Bool := (List.range l.length).any (badAt n l)
def sideBad (n : Int) (ls : List (Sls Int)) : Bool := ls.any fun s => listBad n s.l
def wishCheck (L R : List (Sls Int)) : Int :=
  if 8 < L.length ∨ 8 < R.length then 1 else if L.length ≠ R.length then 3 else if sideBad L.length L || sideBad L.length R then 2 else 0
/-- What has been seen of the first k. -/
def seenTo (l : List Int) : Nat → BitVec 32
  | 0 => w0
  | k + 1 => wOr (seenTo l k) (wShl w1 (l.getD k 0).toNat)
theorem seen_bit (l : List Int) : ∀ (k : Nat) (m : Nat), m < 32 → k ≤ l.length → (∀ j, j < k → 0 ≤ l.getD j 0) → (seenTo l k).getLsbD m = hasB (l.take k) m
  | 0, m, _, _, _ => by simp [seenTo, b_0, hasB]
  | k + 1, m, hm, hk, h => by
    unfold hasB
    rw [seenTo, b_or, seen_bit l k m hm (by omega) (fun j hj => h j (by omega)), b_one, any_take_succ _ _ _ (by omega)]
    unfold hasB
    congr 1
    have h0 := h k (by omega)
    rw [← getD_at l k (by omega) 0]
    generalize l.getD k 0 = x at h0
    rw [Bool.eq_iff_iff]
    simp [hm]
    omega
theorem noBad_nonneg {n : Int} {l : List Int} {k : Nat} (h : (List.range k).any (badAt n l) = false) : ∀ j, j < k → 0 ≤ l.getD j 0 := by
  intro j hj
  have := List.any_eq_false.1 h j (List.mem_range.2 hj)
  unfold badAt at this
  generalize l.getD j 0 = x at this
  simp at this
  omega

end Go.Proofs.Ytjkfogkpacmdlaa
