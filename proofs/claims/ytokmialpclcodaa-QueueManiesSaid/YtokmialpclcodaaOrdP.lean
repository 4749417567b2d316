/- All orders of some places, the first one first, and the best of them: in plain Lean. Conditions: none. -/
import Derived.Test.YtokmialpclcodaaIntsOf
namespace Go.Proofs.Ytokmialpclcodaa
open Go.RowKit

/-- All orders that begin with some, so many left. -/
def permsF (n : Nat) : Nat → List Nat → List (List Nat)
  | 0, l => [l]
  | f + 1, l => (List.range n).flatMap fun i => if l.contains i then [] else permsF n f (l ++ [i])
def nextF (n f : Nat) (l : List Nat) (i : Nat) : List (List Nat) := if l.contains i then [] else permsF n f (l ++ [i])
theorem permsF_succ (n f : Nat) (l : List Nat) : permsF n (f + 1) l = (List.range n).flatMap (nextF n f l) := rfl
theorem flat_range_succ {β : Type} (g : Nat → List β) (k : Nat) : (List.range (k + 1)).flatMap g = (List.range k).flatMap g ++ g k := by
  rw [List.range_succ, List.flatMap_append]
  simp
theorem flat_len {β : Type} (g : Nat → List β) (X : Nat) (h : ∀ i, (g i).length ≤ X) : ∀ k, ((List.range k).flatMap g).length ≤ k * X
  | 0 => by simp
  | k + 1 => by
    rw [flat_range_succ, List.length_append, Nat.add_mul]
    have := flat_len g X h k
    have := h k
    omega
theorem perms_len {n : Nat} (hn : n ≤ 8) : ∀ (f : Nat) (l : List Nat), (permsF n f l).length ≤ 8 ^ f
  | 0, _ => Nat.le_refl _
  | f + 1, l => by
    rw [permsF_succ]
    refine Nat.le_trans (flat_len _ (8 ^ f) (fun i => ?_) n) ?_
    · unfold nextF
      split
      · simp
      · exact perms_len hn f _
    · rw [Nat.pow_succ, Nat.mul_comm]
      exact Nat.mul_le_mul_left _ hn
theorem next_len {n : Nat} (hn : n ≤ 8) (f : Nat) (l : List Nat) (i : Nat) : (nextF n f l i).length ≤ 8 ^ f := by
  unfold nextF
  split
  · simp
  · exact perms_len hn f _
theorem pow8 {f : Nat} (h : f ≤ 7) : 8 ^ f ≤ 2097152 := Nat.le_trans (Nat.pow_le_pow_right (by omega) h) (by decide)
/-- Each order has all places, each once. -/
theorem perms_ok {n : Nat} : ∀ (f : Nat) (l : List Nat), l.length + f = n → (∀ i ∈ l, i < n) → ∀ p ∈ permsF n f l, p.length = n ∧ ∀ i ∈ p, i < n
  | 0, l, hl, hi, p, hp => by
    have : p = l := by simpa [permsF] using hp
    subst this
    exact ⟨by omega, hi⟩
  | f + 1, l, hl, hi, p, hp => by
    rw [permsF_succ] at hp
    obtain ⟨i, h1, h2⟩ := List.mem_flatMap.1 hp
    unfold nextF at h2
    split at h2
    · cases h2
    · refine perms_ok f (l ++ [i]) (by simp; omega) (fun j hj => ?_) p h2
      rcases List.mem_append.1 hj with h | h
      · exact hi j h
      · rw [List.mem_singleton] at h
        rw [h]; exact List.mem_range.1 h1
theorem perms_ne {n : Nat} : ∀ (f : Nat) (l : List Nat), l.length + f = n → l.Nodup → (∀ i ∈ l, i < n) → permsF n f l ≠ []
  | 0, l, _, _, _ => by simp [permsF]
  | f + 1, l, hl, hnd, hi => by
    obtain ⟨i, hin, hil⟩ : ∃ i, i < n ∧ i ∉ l := by
      refine Classical.byContradiction fun hno => ?_
      have hall : ∀ i, i < n → i ∈ l := fun i h => Classical.byContradiction fun h' => hno ⟨i, h, h'⟩
      have hsub : List.range n ⊆ l := fun i h => hall i (List.mem_range.1 h)
      have := (List.nodup_range (n := n)).length_le_of_subset hsub
      rw [List.length_range] at this
      omega
    rw [permsF_succ]
    intro h
    have h1 : nextF n f l i = [] := by
      rw [List.flatMap_eq_nil_iff] at h
      exact h i (List.mem_range.2 hin)
    unfold nextF at h1
    rw [if_neg (by simpa using hil)] at h1
    exact perms_ne f (l ++ [i]) (by simp; omega) (by
      rw [List.nodup_append]
      exact ⟨hnd, by simp, fun a ha b hb => by
        rw [List.mem_singleton] at hb
        intro e
        rw [hb] at e
        exact hil (e ▸ ha)⟩) (fun j hj => by
      rcases List.mem_append.1 hj with h | h
      · exact hi j h
      · rw [List.mem_singleton] at h
        rw [h]; exact hin) h1
/-- The first one of which a number is the least. -/
def bestStep (wt : List Nat → Int) (b : Option (List Nat × Int)) (l : List Nat) : Option (List Nat × Int) :=
  match b with
  | none => some (l, wt l)
  | some (m, x) => if wt l < x then some (l, wt l) else some (m, x)
def bestF (wt : List Nat → Int) (L : List (List Nat)) : Option (List Nat × Int) := L.foldl (bestStep wt) none
theorem bestF_snoc (wt : List Nat → Int) (L : List (List Nat)) (l : List Nat) : bestF wt (L ++ [l]) = bestStep wt (bestF wt L) l := by
  unfold bestF
  rw [List.foldl_append]
  rfl
theorem bestF_none {wt : List Nat → Int} (L : List (List Nat)) (h : bestF wt L = none) : L = [] := by
  rcases List.eq_nil_or_concat L with rfl | ⟨L', a, rfl⟩
  · rfl
  · rw [List.concat_eq_append, bestF_snoc] at h
    unfold bestStep at h
    split at h
    · cases h
    · split at h <;> cases h
theorem bestF_mem {wt : List Nat → Int} : ∀ (L : List (List Nat)) {q : List Nat} {x : Int}, bestF wt L = some (q, x) → q ∈ L := by
  intro L
  have main : ∀ (n : Nat) (L : List (List Nat)), L.length = n → ∀ {q : List Nat} {x : Int}, bestF wt L = some (q, x) → q ∈ L := by
    intro n
    induction n with
    | zero =>
      intro L hL q x h
      obtain rfl := List.eq_nil_of_length_eq_zero hL
      cases h
    | succ n ih =>
      intro L hL q x h
      rcases List.eq_nil_or_concat L with rfl | ⟨L', a, rfl⟩
      · cases h
      · rw [List.concat_eq_append] at h hL ⊢
        rw [bestF_snoc] at h
        have ih' := fun {q x} h => ih L' (by simpa using hL) (q := q) (x := x) h
        cases ho : bestF wt L' with
        | none =>
          rw [ho] at h
          unfold bestStep at h
          injection h with h
          injection h with h1 h2
          rw [← h1]; simp
        | some p =>
          obtain ⟨m, y⟩ := p
          rw [ho] at h
          unfold bestStep at h
          split at h
          · rename_i hb
            cases hb
          · rename_i m' y' hb
            injection hb with hb
            injection hb with hb1 hb2
            subst hb1 hb2
            split at h
            · injection h with h
              injection h with h1 h2
              rw [← h1]; simp
            · injection h with h
              injection h with h1 h2
              rw [← h1]
              exact List.mem_append_left _ (ih' ho)
  exact fun {q x} h => main L.length L rfl h
theorem bestF_congr {wt wt' : List Nat → Int} : ∀ (L : List (List Nat)), (∀ l ∈ L, wt l = wt' l) → bestF wt L = bestF wt' L := by
  intro L h
  have main : ∀ (L : List (List Nat)) b, (∀ l ∈ L, wt l = wt' l) → L.foldl (bestStep wt) b = L.foldl (bestStep wt') b := by
    intro L
    induction L with
    | nil => intro b _; rfl
    | cons a L ih =>
      intro b h
      rw [List.foldl_cons, List.foldl_cons]
      have h1 := h a List.mem_cons_self
      have : bestStep wt b a = bestStep wt' b a := by
        unfold bestStep
        rw [h1]
      rw [this]
      exact ih _ fun l hl => h l (List.mem_cons_of_mem _ hl)
  exact main L none h
end Go.Proofs.Ytokmialpclcodaa
