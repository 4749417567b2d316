/- Making a graph out of degrees, the reference's way: the greatest first; in plain Lean. Conditions: none. -/
import Derived.Test.YtlflnfelhndohaaSortP
namespace Go.Proofs.Ytlflnfelhndohaa
open Go.RowKit

/-- The first of the greatest. -/
def topF (left : List Int) : Nat → Int
  | 0 => 0
  | i + 1 => if valZ left (topF left i) < left.getD i 0 then (i : Int) else topF left i
/-- The best one to be joined next. -/
def bestF (left M : List Int) (top : Int) : Nat → Int
  | 0 => -1
  | i + 1 => if (i : Int) ≠ top ∧ hasB M i = false ∧ 0 < left.getD i 0 ∧ (bestF left M top i < 0 ∨ valZ left (bestF left M top i) < left.getD i 0) then (i : Int) else bestF left M top i
theorem val_nat (left : List Int) (i : Nat) : valZ left (i : Int) = left.getD i 0 := by unfold valZ; rw [Int.toNat_natCast]
theorem hasB_cons (a : Int) (M : List Int) (x : Int) : hasB (a :: M) x = false ↔ x ≠ a ∧ hasB M x = false := by
  rw [hasB_not, hasB_not, List.mem_cons, not_or]
theorem topF_pick {left : List Int} : ∀ m, 1 ≤ m → topF left m = pickTo left [] m ∧ 0 ≤ topF left m := by
  intro m
  induction m with
  | zero => intro h; omega
  | succ m ih =>
    intro _
    have hb : hasB ([] : List Int) (m : Int) = false := hasB_not.2 (by simp)
    rw [topF, pickTo]
    by_cases h0 : m = 0
    · subst h0
      have e : valZ left (topF left 0) = left.getD 0 0 := by unfold valZ topF; rfl
      rw [e, if_neg (by omega), if_pos ⟨hb, .inl (by rw [pickTo]; omega)⟩]
      exact ⟨rfl, Int.le_refl _⟩
    · obtain ⟨h1, h2⟩ := ih (by omega)
      rw [← h1]
      by_cases h : valZ left (topF left m) < left.getD m 0
      · rw [if_pos h, if_pos ⟨hb, .inr h⟩]
        exact ⟨rfl, by omega⟩
      · rw [if_neg h, if_neg (by rintro ⟨_, h3 | h3⟩; omega; exact h h3)]
        exact ⟨rfl, h2⟩
theorem bestF_pick (left M : List Int) (top : Int) : ∀ m, bestF left M top m = if 0 ≤ pickTo left (top :: M) m ∧ 0 < valZ left (pickTo left (top :: M) m) then pickTo left (top :: M) m else -1
  | 0 => by rw [bestF, pickTo, if_neg (by omega)]
  | m + 1 => by
    have ih := bestF_pick left M top m
    have hr := pickTo_range left (top :: M) m
    rw [bestF, pickTo]
    obtain ⟨p, hp⟩ : ∃ p, p = pickTo left (top :: M) m := ⟨_, rfl⟩
    obtain ⟨b, hb⟩ : ∃ b, b = bestF left M top m := ⟨_, rfl⟩
    rw [← hp] at ih hr ⊢
    rw [← hb] at ih ⊢
    by_cases he : (m : Int) ≠ top ∧ hasB M m = false
    · have hh : hasB (top :: M) (m : Int) = false := (hasB_cons top M m).2 he
      by_cases hv : 0 < left.getD m 0
      · by_cases hc : p < 0 ∨ valZ left p < left.getD m 0
        · rw [if_pos (c := hasB (top :: M) (m : Int) = false ∧ _) ⟨hh, hc⟩, val_nat, if_pos (c := (0 : Int) ≤ (m : Int) ∧ _) ⟨by omega, hv⟩, if_pos]
          refine ⟨he.1, he.2, hv, ?_⟩
          rw [ih]
          split
          · rename_i h
            rcases hc with hc | hc
            · omega
            · exact .inr hc
          · exact .inl (by decide)
        · rw [if_neg (c := hasB (top :: M) (m : Int) = false ∧ _) (fun h => hc h.2), ← ih, if_neg]
          rintro ⟨_, _, _, h4⟩
          have hpos : 0 ≤ p ∧ 0 < valZ left p := by omega
          rw [if_pos hpos] at ih
          rw [ih] at h4
          exact hc h4
      · rw [if_neg (c := (m : Int) ≠ top ∧ _) (fun h => hv h.2.2.1), ih]
        by_cases hc : p < 0 ∨ valZ left p < left.getD m 0
        · rw [if_pos (c := hasB (top :: M) (m : Int) = false ∧ _) ⟨hh, hc⟩, val_nat, if_neg (c := (0 : Int) ≤ (m : Int) ∧ _) (fun h => hv h.2), if_neg]
          rintro ⟨h1, h2⟩
          omega
        · rw [if_neg (c := hasB (top :: M) (m : Int) = false ∧ _) (fun h => hc h.2)]
    · have hh : ¬ hasB (top :: M) (m : Int) = false := fun h => he ((hasB_cons top M m).1 h)
      rw [if_neg (c := (m : Int) ≠ top ∧ _) (fun h => he ⟨h.1, h.2.1⟩), if_neg (c := hasB (top :: M) (m : Int) = false ∧ _) (fun h => hh h.1), ih]
/-- So many to be joined. -/
def mkF (left : List Int) (top : Int) (n : Nat) : Nat → List Int → Option (List Int)
  | 0, M => some M
  | k + 1, M => if bestF left M top n < 0 then none else mkF left top n k (M ++ [bestF left M top n])
/-- What is left when some have been joined. -/
def decF (left : List Int) (top : Int) (M : List Int) : List Int := M.foldl (fun l x => l.set x.toNat (valZ l x - 1)) (left.set top.toNat 0)
/-- The edges, or none. -/
def refH (n : Nat) : Nat → List Int → Option (List (Int × Int))
  | 0, _ => none
  | f + 1, left => if n = 0 ∨ valZ left (topF left n) = 0 then some [] else
    match mkF left (topF left n) n (valZ left (topF left n)).toNat [] with
    | none => none
    | some M => (refH n f (decF left (topF left n) M)).map fun E => M.map (fun x => (topF left n, x)) ++ E
/-- The k-th of those by falling values. -/
def fAt (left : List Int) (k : Nat) : Int := (fallsTo left (k + 1)).getD k 0
theorem fAt_is (left : List Int) (k : Nat) : fAt left k = pickTo left (fallsTo left k) left.length := by
  unfold fAt
  rw [fallsTo, List.getD_eq_getElem?_getD, List.getElem?_append_right (by rw [fallsTo_length]; exact Nat.le_refl _), fallsTo_length, Nat.sub_self]
  rfl
theorem falls_snoc (left : List Int) (k : Nat) : fallsTo left (k + 1) = fallsTo left k ++ [fAt left k] := by rw [fAt_is, fallsTo]
theorem mkF_falls {left : List Int} {n : Nat} (hn : left.length = n) {top : Int} : ∀ (k : Nat) (M : List Int), fallsTo left (M.length + 1) = top :: M → (∀ q, M.length + 1 ≤ q → q < M.length + 1 + k → 0 ≤ fAt left q ∧ 0 < valZ left (fAt left q)) → ∃ M', mkF left top n k M = some M' ∧ fallsTo left (M.length + 1 + k) = top :: M'
  | 0, M, h, _ => ⟨M, rfl, h⟩
  | k + 1, M, h, hq => by
    have hb : bestF left M top n = fAt left (M.length + 1) := by
      rw [bestF_pick, fAt_is, hn, h]
      have := hq (M.length + 1) (Nat.le_refl _) (by omega)
      rw [fAt_is, hn, h] at this
      rw [if_pos this]
    have h0 := (hq (M.length + 1) (Nat.le_refl _) (by omega)).1
    have hf : fallsTo left ((M ++ [fAt left (M.length + 1)]).length + 1) = top :: (M ++ [fAt left (M.length + 1)]) := by
      rw [List.length_append, List.length_singleton, falls_snoc, h]
      rfl
    obtain ⟨M', h1, h2⟩ := mkF_falls hn k (M ++ [fAt left (M.length + 1)]) hf (fun q h3 h4 => hq q (by rw [List.length_append, List.length_singleton] at h3; omega) (by rw [List.length_append, List.length_singleton] at h4; omega))
    refine ⟨M', ?_, ?_⟩
    · rw [mkF, hb, if_neg (by omega)]
      exact h1
    · rw [List.length_append, List.length_singleton] at h2
      rw [← h2]
      congr 1
      omega
theorem mkF_none {left : List Int} {n : Nat} (hn : left.length = n) {top : Int} : ∀ (k : Nat) (M : List Int), fallsTo left (M.length + 1) = top :: M → (∃ q, M.length + 1 ≤ q ∧ q < M.length + 1 + k ∧ ¬ (0 ≤ fAt left q ∧ 0 < valZ left (fAt left q))) → mkF left top n k M = none
  | 0, M, _, ⟨q, h1, h2, _⟩ => by omega
  | k + 1, M, h, ⟨q, h1, h2, h3⟩ => by
    rw [mkF]
    by_cases hg : 0 ≤ fAt left (M.length + 1) ∧ 0 < valZ left (fAt left (M.length + 1))
    · have hb : bestF left M top n = fAt left (M.length + 1) := by
        have hg' := hg
        rw [fAt_is, hn, h] at hg'
        rw [bestF_pick, fAt_is, hn, h, if_pos hg']
      rw [hb, if_neg (by omega)]
      refine mkF_none hn k (M ++ [fAt left (M.length + 1)]) ?_ ⟨q, ?_, ?_, h3⟩
      · rw [List.length_append, List.length_singleton, falls_snoc, h]
        rfl
      · rw [List.length_append, List.length_singleton]
        have : q ≠ M.length + 1 := fun e => h3 (by rw [e]; exact hg)
        omega
      · rw [List.length_append, List.length_singleton]; omega
    · have hb : bestF left M top n = -1 := by
        rw [fAt_is, hn, h] at hg
        rw [bestF_pick, if_neg hg]
      rw [hb, if_pos (by omega)]
/-- The top is the first by falling values. -/
theorem top_falls {left : List Int} {n : Nat} (hn : left.length = n) (h1 : 1 ≤ n) : fallsTo left 1 = [topF left n] ∧ 0 ≤ topF left n := by
  have h := topF_pick (left := left) n h1
  refine ⟨?_, h.2⟩
  rw [fallsTo, fallsTo, hn, h.1]
  rfl
end Go.Proofs.Ytlflnfelhndohaa
