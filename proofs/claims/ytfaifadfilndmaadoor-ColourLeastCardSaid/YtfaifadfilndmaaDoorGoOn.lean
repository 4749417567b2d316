/- Going on along a row; the first that is found. Conditions: none. -/
import Derived.Test.YtfaifadfilndmaaDoorRowP
import Derived.Test.YtfaifadfilndmaaDoorInts
import Derived.Test.YtfaifadfilndmaaDoorIntsOf
namespace Go.Proofs.YtfaifadfilndmaaDoor
open Go.RowKit

theorem hasB_ints (l : List Nat) (k : Nat) : hasB (intsOf l) (k : Int) = l.contains k := by
  unfold hasB intsOf
  rw [Bool.eq_iff_iff, List.any_map, List.any_eq_true, List.contains_iff_mem]
  constructor
  · rintro ⟨x, hx, he⟩
    have he' : k = x := by simp at he; omega
    rw [he']; exact hx
  · intro h
    exact ⟨k, h, by simp⟩
def goOn (t : List (BitVec 32)) (ring : Bool) (n f : Nat) (l : List Nat) (i : Nat) : Option (List Nat) := if canGo t l i then rowF t ring n f (l ++ [i]) else none
theorem range_none {β : Type} {g : Nat → Option β} {k : Nat} (h : (List.range k).findSome? g = none) (hk : g k = none) : (List.range (k + 1)).findSome? g = none := by
  rw [List.range_succ]
  exact findSome_more h hk
theorem range_some {β : Type} {g : Nat → Option β} {k n : Nat} (hkn : k < n) (h : (List.range k).findSome? g = none) {b : β} (hk : g k = some b) : (List.range n).findSome? g = some b := by
  refine findSome_stop h hk ?_
  rw [← List.range_succ]
  exact ⟨(List.range (n - (k + 1))).map (fun x => (k + 1) + x), by rw [← List.range_add]; congr 1; omega⟩

end Go.Proofs.YtfaifadfilndmaaDoor
