/- What is in a box: the reference's sum and the plain one. Conditions: none. -/
import Derived.Test.YtfaifadfilndmaaDoorFewT
import Derived.Test.YtfaifadfilndmaaDoorPackP
import Derived.Test.YtfaifadfilndmaaDoorIntsOf
namespace Go.Proofs.YtfaifadfilndmaaDoor
open Go.RowKit

theorem ints_getD (l : List Nat) (k : Nat) : (intsOf l).getD k 0 = ((l.getD k 0 : Nat) : Int) := by
  unfold intsOf
  rw [List.getD_eq_getElem?_getD, List.getD_eq_getElem?_getD, List.getElem?_map]
  cases l[k]? <;> rfl
theorem inTo_few (sz : List Int) (l : List Nat) (b : Nat) : ∀ k, inTo sz (intsOf l) (b : Int) k = fSum (fun i => sz.getD i 0) ((List.range k).filter fun i => l.getD i 0 == b)
  | 0 => by simp [inTo, fSum]
  | k + 1 => by
    rw [inTo, inTo_few sz l b k, List.range_succ, List.filter_append, fSum_append, ints_getD]
    congr 1
    by_cases h : l.getD k 0 = b
    · have h2 : ((l.getD k 0 : Nat) : Int) = (b : Int) := by rw [h]
      rw [if_pos h2]
      have h3 : ([k].filter fun i => l.getD i 0 == b) = [k] := by rw [List.filter_cons, if_pos (by rw [h]; simp)]; rfl
      rw [h3]
      simp [fSum]
    · have h2 : ¬ ((l.getD k 0 : Nat) : Int) = (b : Int) := fun e => h (by omega)
      rw [if_neg h2]
      have h3 : ([k].filter fun i => l.getD i 0 == b) = [] := by rw [List.filter_cons, if_neg (by simpa using h)]; rfl
      rw [h3]
      simp [fSum]
theorem inB_few (sz : List Int) (l : List Nat) (b : Nat) : inB sz (intsOf l) (b : Int) = fIn (fun i => sz.getD i 0) l b := by
  unfold inB fIn
  rw [inTo_few]
  unfold intsOf
  rw [List.length_map]
/-- The program's table entry does not ask for an order of the list. -/
theorem FMin.perm {room : Int} {sz : Nat → Int} {L L' : List Nat} {b : FSt} (h : FMin room sz L b) (hp : L.Perm L') : FMin room sz L' b := by
  obtain ⟨l, hl, he⟩ := h.is
  exact ⟨⟨l, hl.trans hp, he⟩, fun k hk => h.le k (hk.trans hp.symm)⟩
end Go.Proofs.YtfaifadfilndmaaDoor
