/- graph.Spread by a word that is known. Conditions: those of Spread. -/
import Derived.Test.YtnpcbbdfpbnakaaDoorSpread
namespace Go.Proofs.YtnpcbbdfpbnakaaDoor
open Go.RowKit

theorem word_to (f : Nat → Bool) : ∀ n, n ≤ 32 → ∃ y : BitVec 32, ∀ j, y.getLsbD j = (decide (j < n) && f j)
  | 0, _ => ⟨w0, fun j => by rw [b_0]; simp⟩
  | n + 1, h => by
    obtain ⟨y, hy⟩ := word_to f n (by omega)
    rcases hf : f n with _ | _
    · refine ⟨y, fun j => ?_⟩
      rw [hy]
      by_cases hj : j = n
      · subst hj; simp [hf]
      · have e : (j < n + 1) = (j < n) := by simp only [eq_iff_iff]; omega
        simp only [e]
    · refine ⟨wOr y (wShl w1 n), fun j => ?_⟩
      rw [b_or, hy, b_one]
      by_cases hj : j = n
      · subst hj; simp [hf]; omega
      · have e : (j < n + 1) = (j < n) := by simp only [eq_iff_iff]; omega
        simp only [e, hj, decide_false, Bool.and_false, Bool.or_false]
theorem spread_word (l : List (BitVec 32)) (fr wi : BitVec 32) : ∃ y : BitVec 32, ∀ j, y.getLsbD j = true ↔ ∃ i, fr.getLsbD i = true ∧ Rch (RS l wi) i j := by
  obtain ⟨y, hy⟩ := word_to (fun j => @decide (∃ i, fr.getLsbD i = true ∧ Rch (RS l wi) i j) (Classical.propDecidable _)) 32 (Nat.le_refl _)
  refine ⟨y, fun j => ?_⟩
  rw [hy, Bool.and_eq_true, @decide_eq_true_iff, @decide_eq_true_iff _ (Classical.propDecidable _)]
  refine ⟨fun h => h.2, fun h => ⟨?_, h⟩⟩
  obtain ⟨i, hi, m, hm⟩ := h
  cases hm with
  | start =>
    rcases Nat.lt_or_ge j 32 with e | e
    · exact e
    · rw [b_ge fr e] at hi; cases hi
  | step _ hs =>
    rcases Nat.lt_or_ge j 32 with e | e
    · exact e
    · have := hs.2
      rw [b_ge wi e] at this; cases this
theorem graph_Spread_at (A : Option Addr) (n c : Nat) (l : List (BitVec 32)) (fr wi y : BitVec 32) (w : World) (hl : l.length = n) (hn : n ≤ 32) (hr : Els w w.heap.size 1 wcell A l) (htab : TabOk w) (h0 : 0 < w.heap.size)
    (hfr : ∀ j, fr.getLsbD j = true → j < n) (hwi : ∀ j, wi.getLsbD j = true → j < n) (hy : ∀ j, y.getLsbD j = true ↔ ∃ i, fr.getLsbD i = true ∧ Rch (RS l wi) i j) :
    Calls Tryd.prog 72 #[.slice A n c, .int .u32 (wN fr), .int .u32 (wN wi)] w fun e w' => e = .returned (.int .u32 (wN y)) ∧ Below w.heap.size w w' := by
  refine (graph_Spread A n c l fr wi w hl hn hr htab h0 hfr hwi).mono ?_
  rintro e w' ⟨x, rfl, hb, hx⟩
  have e : x = y := w_ext fun j _ => by rw [Bool.eq_iff_iff, hx, hy]
  rw [e]
  exact ⟨rfl, hb⟩
end Go.Proofs.YtnpcbbdfpbnakaaDoor
