/- Adding edges by degrees, in plain Lean. Conditions: none. -/
import Derived.Test.YtdleajoagcopgaaNearP
import Derived.Test.YtdleajoagcopgaaGraphB
namespace Go.Proofs.Ytdleajoagcopgaa
open Go.RowKit

def edOf (a b : Nat) : Ed := ⟨a, b, 0⟩
def okP (N : Nat) (l : List Ed) (a b : Nat) : Bool := !adj l a b && decide (N ≤ deg l a + deg l b)
/-- None among the pairs ahead of (a, b). -/
def NoneTo (N : Nat) (l : List Ed) (a b : Nat) : Prop := (∀ x, x < a → ∀ y, x < y → y < N → okP N l x y = false) ∧ ∀ y, a < y → y < b → okP N l a y = false
def IsFirst (N : Nat) (l : List Ed) (a b : Nat) : Prop := a < b ∧ b < N ∧ okP N l a b = true ∧ NoneTo N l a b
theorem IsFirst.same {N : Nat} {l : List Ed} {a b a' b' : Nat} (h : IsFirst N l a b) (h' : IsFirst N l a' b') : a = a' ∧ b = b' := by
  obtain ⟨h1, h2, h3, h4, h5⟩ := h
  obtain ⟨k1, k2, k3, k4, k5⟩ := h'
  have e1 : a = a' := by
    rcases Nat.lt_trichotomy a a' with e | e | e
    · rw [k4 a e b h1 h2] at h3; cases h3
    · exact e
    · rw [h4 a' e b' k1 k2] at k3; cases k3
  subst e1
  refine ⟨rfl, ?_⟩
  rcases Nat.lt_trichotomy b b' with e | e | e
  · rw [k5 b h1 e] at h3; cases h3
  · exact e
  · rw [h5 b' k1 e] at k3; cases k3
inductive Closes (N : Nat) : List Ed → List Ed → Prop where
  | stop {l : List Ed} : (∀ x y, x < y → y < N → okP N l x y = false) → Closes N l l
  | step {l R : List Ed} {a b : Nat} : IsFirst N l a b → Closes N (l ++ [edOf a b]) R → Closes N l R
theorem Closes.same {N : Nat} {l R R' : List Ed} (h : Closes N l R) (h' : Closes N l R') : R = R' := by
  induction h with
  | stop hn =>
    cases h' with
    | stop _ => rfl
    | step hf _ =>
      have := hn _ _ hf.1 hf.2.1
      rw [hf.2.2.1] at this
      cases this
  | step hf _ ih =>
    cases h' with
    | stop hn =>
      have := hn _ _ hf.1 hf.2.1
      rw [hf.2.2.1] at this
      cases this
    | step hf' h2 =>
      obtain ⟨rfl, rfl⟩ := hf.same hf'
      exact ih h2
theorem NoneTo.start (N : Nat) (l : List Ed) : NoneTo N l 0 1 := ⟨fun x h => by omega, fun y h1 h2 => by omega⟩
theorem NoneTo.next {N : Nat} {l : List Ed} {a b : Nat} (h : NoneTo N l a b) (hno : okP N l a b = false) : NoneTo N l a (b + 1) :=
  ⟨h.1, fun y h1 h2 => by
    rcases Nat.lt_succ_iff_lt_or_eq.1 h2 with e | e
    · exact h.2 y h1 e
    · rw [e]; exact hno⟩
theorem NoneTo.line {N : Nat} {l : List Ed} {a b : Nat} (h : NoneTo N l a b) (hb : N ≤ b) : NoneTo N l (a + 1) (a + 2) :=
  ⟨fun x hx y h1 h2 => by
    rcases Nat.lt_succ_iff_lt_or_eq.1 hx with e | e
    · exact h.1 x e y h1 h2
    · subst e; exact h.2 y h1 (by omega), fun y h1 h2 => by omega⟩
theorem NoneTo.done {N : Nat} {l : List Ed} {a b : Nat} (h : NoneTo N l a b) (ha : N ≤ a) : ∀ x y, x < y → y < N → okP N l x y = false := fun x y h1 h2 => h.1 x (by omega) y h1 h2

def codeE (e : Ed) : Nat := (min e.a e.b).toNat * 10 + (max e.a e.b).toNat
def codes45 : List Nat := (List.range 10).flatMap fun a => ((List.range 10).filter fun b => decide (a < b)).map fun b => a * 10 + b
theorem good_count {N : Nat} {l : List Ed} (hN : N ≤ 10) (he : ∀ e ∈ l, GoodE N e) (hd : l.Pairwise fun e f => (e.pair == f.pair) = false) : l.length ≤ 45 := by
  have hnd : (l.map codeE).Nodup := by
    rw [List.Nodup, List.pairwise_map]
    refine hd.imp_of_mem (fun {e f} h1 h2 h3 hc => ?_)
    rw [same_pair] at h3
    have h3' := of_decide_eq_false h3
    have g1 := he e h1
    have g2 := he f h2
    obtain ⟨_, _, _, _, _, _, _⟩ := g1
    obtain ⟨_, _, _, _, _, _, _⟩ := g2
    unfold codeE at hc
    apply h3'
    omega
  have hsub : ∀ c ∈ l.map codeE, c ∈ codes45 := fun c hc => by
    obtain ⟨e, h1, rfl⟩ := List.mem_map.1 hc
    obtain ⟨_, _, _, _, _, _, _⟩ := he e h1
    unfold codes45
    rw [List.mem_flatMap]
    refine ⟨(min e.a e.b).toNat, List.mem_range.2 (by omega), ?_⟩
    rw [List.mem_map]
    exact ⟨(max e.a e.b).toNat, List.mem_filter.2 ⟨List.mem_range.2 (by omega), by simp; omega⟩, rfl⟩
  have := hnd.length_le_of_subset hsub
  rw [List.length_map] at this
  have h45 : codes45.length = 45 := by decide
  omega
theorem good_snoc {N : Nat} {l : List Ed} (h : GoodG N l) {a b : Nat} (hab : a < b) (hb : b < N) (hno : adj l a b = false) : GoodG N (l ++ [edOf a b]) := by
  have hed : ∀ e ∈ l ++ [edOf a b], GoodE N e := fun e he => by
    rcases List.mem_append.1 he with h1 | h1
    · exact h.ed e h1
    · rw [List.mem_singleton] at h1
      subst h1
      refine ⟨?_, ?_, ?_, ?_, ?_, ?_, ?_⟩ <;> simp [edOf] <;> omega
  have hnd : (l ++ [edOf a b]).Pairwise fun e f => (e.pair == f.pair) = false := by
    rw [List.pairwise_append]
    refine ⟨h.nd, List.pairwise_singleton _ _, fun e he f hf => ?_⟩
    rw [List.mem_singleton] at hf
    subst hf
    rw [same_pair]
    have h1 := List.any_eq_false.1 hno e he
    unfold joins at h1
    exact decide_eq_false (fun hh => h1 (decide_eq_true hh))
  exact ⟨h.n10, good_count h.n10 hed hnd, hed, hnd⟩
theorem okP_adj {N : Nat} {l : List Ed} {a b : Nat} (h : okP N l a b = true) : adj l a b = false := by
  unfold okP at h
  simp at h
  exact h.1
end Go.Proofs.Ytdleajoagcopgaa
