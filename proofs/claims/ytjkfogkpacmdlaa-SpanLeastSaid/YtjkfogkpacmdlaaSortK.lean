/- slices.Sort of numbers: the kit's contract at this dump, for a slice of the caller's own. Conditions: the slice lies in a row of the caller's own. -/
import Derived.Shelf.SortM.Plain
import Derived.Shelf.SortM.SortNone
import Derived.Ground.SlgmProg
import Derived.Sort.OwnSortedInts
import Derived.Test.YtjkfogkpacmdlaaOwn
import Derived.Test.YtjkfogkpacmdlaaCells
namespace Go.Proofs
open Go.Shelf
shelf_lay_g SlLaysM.n5 Slgm 5 at Try 42 as Try.lSortI
end Go.Proofs
namespace Go.Proofs.Ytjkfogkpacmdlaa
open Go.RowKit Go.Shelf Go.Sort

/-- The list in order. -/
def sortI (l : List Int) : List Int := l.mergeSort fun x y => decide (x ≤ y)
theorem sortI_len (l : List Int) : (sortI l).length = l.length := List.length_mergeSort _
theorem sortI_perm (l : List Int) : (sortI l).Perm l := List.mergeSort_perm _ _
theorem sortI_sorted (l : List Int) : (sortI l).Pairwise (· ≤ ·) := by
  have h := List.pairwise_mergeSort (le := fun x y : Int => decide (x ≤ y)) (fun a b c h1 h2 => by have := of_decide_eq_true h1; have := of_decide_eq_true h2; exact decide_eq_true (by omega)) (fun a b => by simp; omega) l
  exact h.imp fun hab => of_decide_eq_true hab
theorem Sort_ints (l : List Int) (A : Option Addr) (n cap B : Nat) (w : World) (hl : l.length = n) (hN : n < 4611686018427387904) (ho : Own w B 3 1 icell A cap l) :
    Calls Try.prog 42 #[.slice A n cap] w fun e w' => e = .returned (.tuple #[]) ∧ w.grownBy w' (blkOf A) ∧ Own w' B 3 1 icell A cap (sortI l) := by
  rcases ho.2.2 with ⟨hv, h0⟩ | ⟨g, cp, cur, hv, hb, hh, hn, hm, hcs, ht⟩
  · injection hv with h1 h2 h3
    subst h1 h3
    have hl0 : l = [] := List.eq_nil_of_length_eq_zero h0
    subst hl0
    obtain rfl : 0 = n := hl
    refine (@AnyM.slices_Sort_int_none _ _ Try.lSortI none 0 w).mono ?_
    rintro e w' ⟨rfl, rfl⟩
    exact ⟨rfl, World.grownBy.refl _ _, by rw [show sortI [] = [] by simp [sortI]]; exact Own.nil (f := icell) (c := 1) _ _ _ (fun _ => rfl)⟩
  · injection hv with h1 h2 h3
    subst h1 h3
    rw [Nat.mul_one] at ht
    have hf : l.flatMap icell = l.map (Value.int .i64) := flat1 l
    rw [hf] at ht
    rw [← hl] at hN ⊢
    refine (@AnyM.slices_Sort_int _ _ Try.lSortI g 0 cap l w (holds_of_blockI hh ht) (Array.getElem?_eq_some_iff.1 hh).1 hN).mono ?_
    rintro e w' ⟨rfl, m, os, rfl⟩
    refine ⟨rfl, grownBy_sortedI _, fun _ => rfl, ?_⟩
    have h := ownsRow_sortedI (n := m) (os := os) (ss := l) (ts := sortI l) (sortI_len l) hb hh hn hm hcs
    rw [show (sortI l).flatMap icell = (sortI l).map (Value.int .i64) from flat1 _, sortI_len]
    exact h
end Go.Proofs.Ytjkfogkpacmdlaa
