/- Sorting in place, stably: what a swap, a turn of two runs, and a merge of two runs make, in plain Lean. Conditions: none. -/
import Derived.Test.YtjkfogkpacmdlaaCells
namespace Go.Proofs.Ytjkfogkpacmdlaa
open Go.RowKit

/-- Ahead of: by value, of the same value by place. -/
def bfV (V : Int → Int) (a b : Int) : Prop := V a < V b ∨ (V a = V b ∧ a < b)
theorem bfV.trans {V : Int → Int} {a b c : Int} (h : bfV V a b) (k : bfV V b c) : bfV V a c := by unfold bfV at *; omega
theorem bfV.asymm {V : Int → Int} {a b : Int} (h : bfV V a b) (k : bfV V b a) : False := by unfold bfV at *; omega
theorem bfV.or {V : Int → Int} {a b : Int} (h : a ≠ b) : bfV V a b ∨ bfV V b a := by unfold bfV; omega
abbrev SrtV (V : Int → Int) (l : List Int) : Prop := l.Pairwise (bfV V)

theorem swap_at {α : Type} (A1 A2 A3 : List α) (p q : α) {i j : Nat} (hi : A1.length = i) (hj : i + 1 + A2.length = j) : ((A1 ++ p :: (A2 ++ q :: A3)).set i q).set j p = A1 ++ q :: (A2 ++ p :: A3) := by
  subst hi hj
  rw [List.set_append_right _ _ (Nat.le_refl _), Nat.sub_self, List.set_cons_zero, List.set_append_right _ _ (by omega)]
  rw [show A1.length + 1 + A2.length - A1.length = A2.length + 1 by omega, List.set_cons_succ, List.set_append_right _ _ (Nat.le_refl _), Nat.sub_self, List.set_cons_zero]
theorem swap_at' {α : Type} (A1 A2 A3 : List α) (p q : α) {i j : Nat} (hi : A1.length = i) (hj : i + 1 + A2.length = j) : ((A1 ++ p :: (A2 ++ q :: A3)).set j p).set i q = A1 ++ q :: (A2 ++ p :: A3) := by
  rw [List.set_comm _ _ (by omega)]
  exact swap_at A1 A2 A3 p q hi hj
theorem get_mid {α : Type} (A1 T : List α) (p d : α) {i : Nat} (hi : A1.length = i) : (A1 ++ p :: T).getD i d = p := by
  subst hi
  simp
theorem get_mid2 {α : Type} (A1 A2 A3 : List α) (p q d : α) {j : Nat} (hj : A1.length + 1 + A2.length = j) : (A1 ++ p :: (A2 ++ q :: A3)).getD j d = q := by
  have := get_mid (A1 ++ p :: A2) A3 q d (i := j) (by simp; omega)
  simpa using this

/-- One is put where it belongs. -/
theorem ins_srt {V : Int → Int} {R1 R2 : List Int} {x : Int} (h : SrtV V (R1 ++ R2)) (h1 : ∀ y ∈ R1, bfV V y x) (h2 : ∀ y ∈ R2, bfV V x y) : SrtV V (R1 ++ x :: R2) := by
  obtain ⟨a, b, c⟩ := List.pairwise_append.1 h
  refine List.pairwise_append.2 ⟨a, List.pairwise_cons.2 ⟨h2, b⟩, fun y hy z hz => ?_⟩
  rcases List.mem_cons.1 hz with rfl | hz
  · exact h1 y hy
  · exact c y hy z hz
theorem srt_last {V : Int → Int} {S : List Int} {y x : Int} (h : SrtV V (S ++ [y])) (hx : bfV V y x) : ∀ z ∈ S ++ [y], bfV V z x := fun z hz => by
  rcases List.mem_append.1 hz with hz | hz
  · exact ((List.pairwise_append.1 h).2.2 z hz y (by simp)).trans hx
  · rw [List.mem_singleton] at hz
    rw [hz]
    exact hx
theorem srt_at {V : Int → Int} {R : List Int} (h : SrtV V R) {i j : Nat} (hij : i < j) (hj : j < R.length) : bfV V (R.getD i 0) (R.getD j 0) := by
  rw [getD_at R i (by omega), getD_at R j hj]
  exact List.pairwise_iff_getElem.1 h i j (by omega) hj hij
/-- Where one belongs in a run: what a search of halves has found. -/
theorem srt_split {V : Int → Int} {R : List Int} (h : SrtV V R) {x : Int} {i : Nat} (hi : i ≤ R.length) (h1 : i = 0 ∨ bfV V (R.getD (i - 1) 0) x) (h2 : i = R.length ∨ bfV V x (R.getD i 0)) : (∀ y ∈ R.take i, bfV V y x) ∧ ∀ y ∈ R.drop i, bfV V x y := by
  constructor
  · intro y hy
    obtain ⟨k, hk, rfl⟩ := List.getElem_of_mem hy
    rw [List.length_take] at hk
    rw [List.getElem_take]
    rcases h1 with h1 | h1
    · omega
    · by_cases e : k = i - 1
      · have : R[k] = R.getD (i - 1) 0 := by rw [← e, getD_at R k (by omega)]
        rw [this]
        exact h1
      · have := srt_at h (i := k) (j := i - 1) (by omega) (by omega)
        rw [getD_at R k (by omega)] at this
        exact this.trans h1
  · intro y hy
    obtain ⟨k, hk, rfl⟩ := List.getElem_of_mem hy
    rw [List.length_drop] at hk
    rw [List.getElem_drop]
    rcases h2 with h2 | h2
    · omega
    · by_cases e : k = 0
      · subst e
        rw [← getD_at R (i + 0) (by omega) 0]
        exact h2
      · have := srt_at h (i := i) (j := i + k) (by omega) (by omega)
        rw [getD_at R (i + k) (by omega)] at this
        exact h2.trans this
/-- Of two runs the first ones of one come ahead of the last ones of the other. -/
theorem srt_cross {V : Int → Int} {L R : List Int} (hL : SrtV V L) (hR : SrtV V R) {i j : Nat} (hi : i ≤ L.length) (hj : j ≤ R.length) (h : i = 0 ∨ j = R.length ∨ bfV V (L.getD (i - 1) 0) (R.getD j 0)) : ∀ x ∈ L.take i, ∀ y ∈ R.drop j, bfV V x y := by
  intro x hx y hy
  obtain ⟨k, hk, rfl⟩ := List.getElem_of_mem hx
  obtain ⟨q, hq, rfl⟩ := List.getElem_of_mem hy
  rw [List.length_take] at hk
  rw [List.length_drop] at hq
  rw [List.getElem_take, List.getElem_drop]
  rcases h with h | h | h
  · omega
  · omega
  · have h1 : L[k] = L.getD (i - 1) 0 ∨ bfV V L[k] (L.getD (i - 1) 0) := by
      by_cases e : k = i - 1
      · left; rw [← e, getD_at L k (by omega)]
      · right
        have := srt_at hL (i := k) (j := i - 1) (by omega) (by omega)
        rwa [getD_at L k (by omega)] at this
    have h2 : R.getD j 0 = R[j + q] ∨ bfV V (R.getD j 0) R[j + q] := by
      by_cases e : q = 0
      · left; subst e; rw [getD_at R j (by omega)]; rfl
      · right
        have := srt_at hR (i := j) (j := j + q) (by omega) (by omega)
        rwa [getD_at R (j + q) (by omega)] at this
    rcases h1 with h1 | h1 <;> rcases h2 with h2 | h2
    · rw [h1, ← h2]; exact h
    · rw [h1]; exact h.trans h2
    · rw [← h2]; exact h1.trans h
    · exact (h1.trans h).trans h2
/-- A run that is sorted, of the same numbers. -/
structure Mrg (V : Int → Int) (S T : List Int) : Prop where
  srt : SrtV V S
  perm : S.Perm T
theorem Mrg.len {V : Int → Int} {S T : List Int} (h : Mrg V S T) : S.length = T.length := h.perm.length_eq
/-- The smaller half merged, the larger half merged. -/
theorem mrg_halves {V : Int → Int} {L R : List Int} (hL : SrtV V L) (hR : SrtV V R) {i j : Nat} (hi : i ≤ L.length) (hj : j ≤ R.length) (h1 : i = 0 ∨ j = R.length ∨ bfV V (L.getD (i - 1) 0) (R.getD j 0)) (h2 : j = 0 ∨ i = L.length ∨ bfV V (R.getD (j - 1) 0) (L.getD i 0))
    {S T : List Int} (hS : Mrg V S (L.take i ++ R.take j)) (hT : Mrg V T (L.drop i ++ R.drop j)) : Mrg V (S ++ T) (L ++ R) := by
  have c1 := srt_cross hL hR hi hj h1
  have c2 := srt_cross hR hL hj hi h2
  have c3 : ∀ x ∈ L.take i, ∀ y ∈ L.drop i, bfV V x y := by
    have := hL
    rw [← List.take_append_drop i L] at this
    exact (List.pairwise_append.1 this).2.2
  have c4 : ∀ x ∈ R.take j, ∀ y ∈ R.drop j, bfV V x y := by
    have := hR
    rw [← List.take_append_drop j R] at this
    exact (List.pairwise_append.1 this).2.2
  refine ⟨List.pairwise_append.2 ⟨hS.srt, hT.srt, fun x hx y hy => ?_⟩, ?_⟩
  · rcases List.mem_append.1 (hS.perm.mem_iff.1 hx) with hx | hx <;> rcases List.mem_append.1 (hT.perm.mem_iff.1 hy) with hy | hy
    · exact c3 x hx y hy
    · exact c1 x hx y hy
    · exact c2 x hx y hy
    · exact c4 x hx y hy
  · refine (hS.perm.append hT.perm).trans ?_
    have e : L ++ R = (L.take i ++ L.drop i) ++ (R.take j ++ R.drop j) := by rw [List.take_append_drop, List.take_append_drop]
    rw [e]
    rw [List.append_assoc, List.append_assoc]
    refine List.Perm.append_left _ ?_
    rw [← List.append_assoc, ← List.append_assoc]
    exact List.Perm.append_right _ List.perm_append_comm
theorem SrtV.take {V : Int → Int} {L : List Int} (h : SrtV V L) (i : Nat) : SrtV V (L.take i) := h.sublist (List.take_sublist _ _)
theorem SrtV.drop {V : Int → Int} {L : List Int} (h : SrtV V L) (i : Nat) : SrtV V (L.drop i) := h.sublist (List.drop_sublist _ _)
end Go.Proofs.Ytjkfogkpacmdlaa
