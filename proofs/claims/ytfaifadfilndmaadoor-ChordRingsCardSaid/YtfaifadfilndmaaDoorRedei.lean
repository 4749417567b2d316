/- Of players of which each two have one winner there is a row in which each beats the next one; the search finds one: in plain Lean. Conditions: none. -/
import Derived.Test.YtfaifadfilndmaaDoorRowP
namespace Go.Proofs.YtfaifadfilndmaaDoor
open Go.RowKit

def Ch (b : Nat → Nat → Bool) : List Nat → Prop
  | [] => True
  | [_] => True
  | a :: c :: l => b a c = true ∧ Ch b (c :: l)
def insB (b : Nat → Nat → Bool) (x : Nat) : List Nat → List Nat
  | [] => [x]
  | a :: l => if b x a then x :: a :: l else a :: insB b x l
theorem insB_perm (b : Nat → Nat → Bool) (x : Nat) : ∀ l, (insB b x l).Perm (x :: l)
  | [] => List.Perm.refl _
  | a :: l => by
    rw [insB]
    split
    · exact List.Perm.refl _
    · exact ((insB_perm b x l).cons a).trans (List.Perm.swap x a l)
theorem insB_ch {b : Nat → Nat → Bool} {x : Nat} : ∀ (l : List Nat) (a : Nat), (∀ c ∈ a :: l, b x c = true ∨ b c x = true) → Ch b (a :: l) → b a x = true → Ch b (a :: insB b x l)
  | [], a, _, _, h => ⟨h, trivial⟩
  | c :: l, a, ht, hc, h => by
    rw [insB]
    split
    · rename_i hx
      exact ⟨h, hx, hc.2⟩
    · rename_i hx
      refine ⟨hc.1, insB_ch l c (fun d hd => ht d (by simp [hd])) hc.2 ?_⟩
      rcases ht c (by simp) with h1 | h1
      · exact absurd h1 hx
      · exact h1
theorem insB_ch' {b : Nat → Nat → Bool} {x : Nat} {l : List Nat} (ht : ∀ c ∈ l, b x c = true ∨ b c x = true) (hc : Ch b l) : Ch b (insB b x l) := by
  cases l with
  | nil => exact trivial
  | cons a l =>
    rw [insB]
    split
    · rename_i hx
      exact ⟨hx, hc⟩
    · rename_i hx
      refine insB_ch l a ht hc ?_
      rcases ht a (by simp) with h1 | h1
      · exact absurd h1 hx
      · exact h1
theorem redei (b : Nat → Nat → Bool) : ∀ n, (∀ i j, i < n → j < n → i ≠ j → b i j = true ∨ b j i = true) → ∃ u : List Nat, u.Perm (List.range n) ∧ Ch b u
  | 0, _ => ⟨[], List.Perm.refl _, trivial⟩
  | n + 1, h => by
    obtain ⟨u, hp, hc⟩ := redei b n (fun i j hi hj => h i j (by omega) (by omega))
    refine ⟨insB b n u, ?_, insB_ch' (fun c hcm => ?_) hc⟩
    · rw [List.range_succ]
      exact (insB_perm b n u).trans ((hp.cons n).trans (List.perm_append_comm (l₁ := [n]) (l₂ := List.range n)))
    · have hcn : c < n := List.mem_range.1 (hp.mem_iff.1 hcm)
      exact h n c (by omega) (by omega) (by omega)
theorem Ch_mid {b : Nat → Nat → Bool} {i : Nat} {v : List Nat} : ∀ l : List Nat, l ≠ [] → Ch b (l ++ i :: v) → b (l.getLastD 0) i = true
  | [], h, _ => absurd rfl h
  | [a], _, h => h.1
  | a :: c :: l, _, h => by
    have := Ch_mid (b := b) (c :: l) (by simp) h.2
    simpa [List.getLastD] using this
theorem row_found (t : List (BitVec 32)) (n : Nat) : ∀ (f : Nat) (l v : List Nat), v.length = f → (l ++ v).Nodup → (∀ i ∈ l ++ v, i < n) → Ch (fun i j : Nat => bitB (lw t i) (j : Int)) (l ++ v) → rowF t false n f l ≠ none
  | 0, l, v, _, _, _, _ => by
    rw [rowF]
    simp [endOk]
  | f + 1, l, v, hv, hn, hlt, hc => by
    cases v with
    | nil => simp at hv
    | cons i v =>
      have ih := row_found t n f (l ++ [i]) v (by simpa using hv) (by simpa using hn) (by simpa using hlt) (by simpa using hc)
      intro hnone
      rw [rowF, List.findSome?_eq_none_iff] at hnone
      have hi := hnone i (List.mem_range.2 (hlt i (by simp)))
      have hcan : canGo t l i = true := by
        unfold canGo
        have h1 : l.contains i = false := by
          rw [← Bool.not_eq_true, List.contains_iff_mem]
          intro hm
          have := (List.nodup_append.1 hn).2.2 i hm i (by simp)
          exact this rfl
        rw [h1]
        cases hl : l with
        | nil => rfl
        | cons a l' =>
          have := Ch_mid l (by rw [hl]; simp) hc
          rw [hl] at this
          simp only [Bool.not_false, Bool.true_and, List.isEmpty_cons, Bool.false_or]
          exact this
      rw [if_pos hcan] at hi
      exact ih hi
theorem row_some {t : List (BitVec 32)} {n : Nat} (h : ∀ i j : Nat, i < n → j < n → i ≠ j → bitB (lw t i) (j : Int) = true ∨ bitB (lw t j) (i : Int) = true) : ∃ u, rowF t false n n [] = some u := by
  obtain ⟨u, hp, hc⟩ := redei (fun i j : Nat => bitB (lw t i) (j : Int)) n h
  have := row_found t n n [] u (by have := hp.length_eq; rwa [List.length_range] at this) (by simpa using hp.nodup_iff.2 List.nodup_range) (fun i hi => List.mem_range.1 (hp.mem_iff.1 (by simpa using hi))) (by simpa using hc)
  cases hr : rowF t false n n [] with
  | none => exact absurd hr this
  | some u => exact ⟨u, rfl⟩
end Go.Proofs.YtfaifadfilndmaaDoor
