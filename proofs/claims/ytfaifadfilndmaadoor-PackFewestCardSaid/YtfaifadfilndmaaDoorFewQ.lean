/- How few boxes: by all ways to put them: no way is better than the least order: in plain Lean. Conditions: none. -/
import Derived.Test.YtfaifadfilndmaaDoorFewP
namespace Go.Proofs.YtfaifadfilndmaaDoor
open Go.RowKit

theorem filter_split (g : Nat → Nat) (u : Nat) : ∀ L : List Nat, (L.filter (fun i => decide (g i < u)) ++ L.filter (fun i => g i == u)).Perm (L.filter fun i => decide (g i < u + 1))
  | [] => List.Perm.refl _
  | a :: L => by
    have ih := filter_split g u L
    rw [List.filter_cons, List.filter_cons, List.filter_cons]
    rcases Nat.lt_trichotomy (g a) u with h | h | h
    · rw [if_pos (by simpa using h), if_neg (by simp; omega), if_pos (by simp; omega)]
      exact ih.cons a
    · rw [if_neg (by simp; omega), if_pos (by simpa using h), if_pos (by simp; omega)]
      exact List.perm_middle.trans (ih.cons a)
    · rw [if_neg (by simp; omega), if_neg (by simp; omega), if_neg (by simp; omega)]
      exact ih
theorem groups_perm (g : Nat → Nat) (L : List Nat) : ∀ u, (((List.range u).map fun b => L.filter fun i => g i == b).flatten).Perm (L.filter fun i => decide (g i < u))
  | 0 => by simp
  | u + 1 => by
    rw [List.range_succ, List.map_append, List.flatten_append]
    simp only [List.map_cons, List.map_nil, List.flatten_cons, List.flatten_nil, List.append_nil]
    exact ((groups_perm g L u).append_right _).trans (filter_split g u L)
def fUsed (l : List Nat) : Nat := l.foldl (fun u b => if u ≤ b then b + 1 else u) 0
theorem fUsed_snoc (l : List Nat) (b : Nat) : fUsed (l ++ [b]) = if fUsed l ≤ b then b + 1 else fUsed l := by unfold fUsed; rw [List.foldl_append]; rfl
theorem fUsed_mem : ∀ {l : List Nat} {b : Nat}, b ∈ l → b < fUsed l := fun {l b} h => by
  have : ∀ (l : List Nat) (u : Nat), u ≤ l.foldl (fun u b => if u ≤ b then b + 1 else u) u ∧ ∀ b ∈ l, b < l.foldl (fun u b => if u ≤ b then b + 1 else u) u := fun l => by
    induction l with
    | nil => exact fun u => ⟨Nat.le_refl _, fun b hb => by cases hb⟩
    | cons a l ih =>
      intro u
      obtain ⟨h1, h2⟩ := ih (if u ≤ a then a + 1 else u)
      rw [List.foldl_cons]
      refine ⟨?_, fun b hb => ?_⟩
      · refine Nat.le_trans ?_ h1
        split <;> omega
      · rcases List.mem_cons.1 hb with rfl | hb
        · refine Nat.lt_of_lt_of_le ?_ h1
          split <;> omega
        · exact h2 b hb
  exact (this l 0).2 b h
/-- What is in a box. -/
def fIn (sz : Nat → Int) (l : List Nat) (b : Nat) : Int := fSum sz ((List.range l.length).filter fun i => l.getD i 0 == b)
theorem fSum_append (sz : Nat → Int) (l k : List Nat) : fSum sz (l ++ k) = fSum sz l + fSum sz k := by simp [fSum]
theorem fIn_snoc (sz : Nat → Int) (l : List Nat) (b c : Nat) : fIn sz (l ++ [b]) c = fIn sz l c + if b = c then sz l.length else 0 := by
  unfold fIn
  rw [List.length_append, List.length_singleton, List.range_succ, List.filter_append, fSum_append]
  congr 1
  · congr 1
    refine List.filter_congr fun i hi => ?_
    have := List.mem_range.1 hi
    simp [List.getD_eq_getElem?_getD, List.getElem?_append_left this]
  · by_cases h : b = c
    · simp [h, List.getD_eq_getElem?_getD, fSum]
    · simp [h, List.getD_eq_getElem?_getD, fSum]
def fRef (room : Int) (sz : Nat → Int) (n : Nat) : Nat → List Nat → Int
  | 0, l => fUsed l
  | f + 1, l => (List.range (fUsed l + 1)).foldl (fun best b => if fIn sz l b + sz l.length ≤ room then (if fRef room sz n f (l ++ [b]) < best then fRef room sz n f (l ++ [b]) else best) else best) (n + 1 : Nat)
theorem fold_low {α : Type} {K : Int} {p : α → Bool} {g : α → Int} : ∀ (L : List α) (x : Int), K ≤ x → (∀ a ∈ L, p a = true → K ≤ g a) → K ≤ L.foldl (fun best b => if p b = true then (if g b < best then g b else best) else best) x
  | [], x, h, _ => h
  | a :: L, x, h, hg => by
    rw [List.foldl_cons]
    refine fold_low L _ ?_ (fun b hb => hg b (by simp [hb]))
    split
    · rename_i hp
      split
      · exact hg a (by simp) hp
      · exact h
    · exact h
/-- Each way needs as many as the least order, at the least. -/
theorem leaf_low {room : Int} {sz : Nat → Int} (hs : ∀ i, 0 ≤ sz i) {n : Nat} {b : FSt} (hb : FMin room sz (List.range n) b) {l : List Nat} (hl : l.length = n) (hv : ∀ c, fIn sz l c ≤ room) : b.1 ≤ fUsed l := by
  have hp := groups_perm (fun i => l.getD i 0) (List.range n) (fUsed l)
  have hall : ((List.range n).filter fun i => decide (l.getD i 0 < fUsed l)) = List.range n := List.filter_eq_self.2 fun i hi => by
    have hlt : i < l.length := by rw [hl]; exact List.mem_range.1 hi
    simp only [decide_eq_true_eq]
    refine fUsed_mem ?_
    rw [List.getD_eq_getElem?_getD, List.getElem?_eq_getElem hlt]
    exact List.getElem_mem hlt
  rw [hall] at hp
  have h1 := hb.le _ hp
  have h2 := run_boxes (room := room) hs ((List.range (fUsed l)).map fun b => (List.range n).filter fun i => l.getD i 0 == b) (fun k hk => by
    obtain ⟨c, _, rfl⟩ := List.mem_map.1 hk
    have := hv c
    unfold fIn at this
    rw [hl] at this
    exact this) (0, room + 1) 0 (Int.le_refl _)
  rw [List.length_map, List.length_range] at h2
  unfold fLe fRun at h1
  omega
end Go.Proofs.YtfaifadfilndmaaDoor
