/- How few boxes: the search by all ways finds one that is as good as any: in plain Lean. Conditions: none. -/
import Derived.Test.YtfaifadfilndmaaDoorFewQ
namespace Go.Proofs.YtfaifadfilndmaaDoor
open Go.RowKit

theorem fold_up {α : Type} {p : α → Bool} {g : α → Int} : ∀ (L : List α) (x : Int), (L.foldl (fun best b => if p b = true then (if g b < best then g b else best) else best) x ≤ x) ∧ ∀ a ∈ L, p a = true → L.foldl (fun best b => if p b = true then (if g b < best then g b else best) else best) x ≤ g a
  | [], x => ⟨Int.le_refl _, fun a h => by cases h⟩
  | c :: L, x => by
    rw [List.foldl_cons]
    obtain ⟨h1, h2⟩ := fold_up (p := p) (g := g) L (if p c = true then (if g c < x then g c else x) else x)
    refine ⟨?_, fun a ha hp => ?_⟩
    · refine Int.le_trans h1 ?_
      split
      · split <;> omega
      · exact Int.le_refl _
    · rcases List.mem_cons.1 ha with rfl | ha
      · refine Int.le_trans h1 ?_
        rw [if_pos hp]
        split <;> omega
      · exact h2 a ha hp
/-- A way l of the first ones goes with a way g of all, up to the boxes' names. -/
structure Goes (g : Nat → Nat) (l : List Nat) : Prop where
  iff : ∀ i j, i < l.length → j < l.length → (l.getD i 0 = l.getD j 0 ↔ g i = g j)
  all : ∀ b, b < fUsed l → ∃ i, i < l.length ∧ l.getD i 0 = b
theorem getD_mem {l : List Nat} {i : Nat} (h : i < l.length) : l.getD i 0 ∈ l := by
  rw [List.getD_eq_getElem?_getD, List.getElem?_eq_getElem h]
  exact List.getElem_mem h
theorem Goes.used {g : Nat → Nat} {l : List Nat} (h : Goes g l) {K : Nat} (hK : ∀ i, i < l.length → g i < K) : fUsed l ≤ K := by
  have hex : ∀ b, ∃ i, b < fUsed l → i < l.length ∧ l.getD i 0 = b := fun b => by
    by_cases hb : b < fUsed l
    · obtain ⟨i, hi⟩ := h.all b hb
      exact ⟨i, fun _ => hi⟩
    · exact ⟨0, fun k => absurd k hb⟩
  obtain ⟨c, hc⟩ := Classical.axiomOfChoice hex
  have := nodup_len (n := K) (l := (List.range (fUsed l)).map fun b => g (c b)) ?_ ?_
  · simpa using this
  · refine List.pairwise_map.2 ?_
    refine List.Pairwise.imp_of_mem ?_ (List.nodup_range (n := fUsed l))
    intro a b ha hb hne he
    have ha' := List.mem_range.1 ha
    have hb' := List.mem_range.1 hb
    obtain ⟨h1, h2⟩ := hc a ha'
    obtain ⟨h3, h4⟩ := hc b hb'
    have := (h.iff _ _ h1 h3).2 he
    rw [h2, h4] at this
    exact hne this
  · intro i hi
    obtain ⟨b, hb, rfl⟩ := List.mem_map.1 hi
    exact hK _ (hc b (List.mem_range.1 hb)).1
theorem getD_old {l : List Nat} {b i : Nat} (h : i < l.length) : (l ++ [b]).getD i 0 = l.getD i 0 := by
  simp [List.getD_eq_getElem?_getD, List.getElem?_append_left h]
theorem getD_new (l : List Nat) (b : Nat) : (l ++ [b]).getD l.length 0 = b := by
  simp [List.getD_eq_getElem?_getD]
/-- The next one's box: the one of its like, or a new one. -/
theorem Goes.next {g : Nat → Nat} {l : List Nat} (h : Goes g l) : ∃ b, b ≤ fUsed l ∧ (∀ i, i < l.length → (l.getD i 0 = b ↔ g i = g l.length)) ∧ Goes g (l ++ [b]) := by
  have key : ∃ b, b ≤ fUsed l ∧ (∀ i, i < l.length → (l.getD i 0 = b ↔ g i = g l.length)) := by
    by_cases hex : ∃ i, i < l.length ∧ g i = g l.length
    · obtain ⟨i0, h0, he⟩ := hex
      refine ⟨l.getD i0 0, Nat.le_of_lt (fUsed_mem (getD_mem h0)), fun i hi => ?_⟩
      rw [h.iff i i0 hi h0, he]
    · refine ⟨fUsed l, Nat.le_refl _, fun i hi => ⟨fun he => ?_, fun he => absurd ⟨i, hi, he⟩ hex⟩⟩
      have := fUsed_mem (getD_mem hi)
      omega
  obtain ⟨b, hb, hbi⟩ := key
  refine ⟨b, hb, hbi, ⟨fun i j hi hj => ?_, fun c hc => ?_⟩⟩
  · rw [List.length_append, List.length_singleton] at hi hj
    by_cases h1 : i < l.length
    · rw [getD_old h1]
      by_cases h2 : j < l.length
      · rw [getD_old h2]
        exact h.iff i j h1 h2
      · obtain rfl : j = l.length := by omega
        rw [getD_new]
        exact hbi i h1
    · obtain rfl : i = l.length := by omega
      rw [getD_new]
      by_cases h2 : j < l.length
      · rw [getD_old h2]
        exact ⟨fun e => ((hbi j h2).1 e.symm).symm, fun e => ((hbi j h2).2 e.symm).symm⟩
      · obtain rfl : j = l.length := by omega
        rw [getD_new]
        exact ⟨fun _ => rfl, fun _ => rfl⟩
  · rw [fUsed_snoc] at hc
    by_cases h1 : c < fUsed l
    · obtain ⟨i, hi, he⟩ := h.all c h1
      exact ⟨i, by rw [List.length_append]; omega, by rw [getD_old hi]; exact he⟩
    · split at hc
      · exact ⟨l.length, by rw [List.length_append, List.length_singleton]; omega, by rw [getD_new]; omega⟩
      · exact absurd hc h1
theorem fSum_nonneg {sz : Nat → Int} (hs : ∀ i, 0 ≤ sz i) : ∀ l : List Nat, 0 ≤ fSum sz l
  | [] => by simp [fSum]
  | a :: l => by rw [fSum_cons]; have := hs a; have := fSum_nonneg hs l; omega
theorem fRef_step (room : Int) (sz : Nat → Int) (n f : Nat) (l : List Nat) : fRef room sz n (f + 1) l = (List.range (fUsed l + 1)).foldl (fun best b => if decide (fIn sz l b + sz l.length ≤ room) = true then (if fRef room sz n f (l ++ [b]) < best then fRef room sz n f (l ++ [b]) else best) else best) (n + 1 : Nat) := by
  rw [fRef]
  simp only [decide_eq_true_eq]
/-- The search's number is at most that of any way. -/
theorem ref_up {room : Int} {sz : Nat → Int} (hs : ∀ i, 0 ≤ sz i) {n K : Nat} {g : Nat → Nat} (hg : ∀ c, fSum sz ((List.range n).filter fun i => g i == c) ≤ room) (hK : ∀ i, i < n → g i < K) : ∀ (f : Nat) (l : List Nat), l.length + f = n → Goes g l → fRef room sz n f l ≤ K
  | 0, l, hl, h => by
    rw [fRef]
    have := h.used (K := K) (fun i hi => hK i (by omega))
    omega
  | f + 1, l, hl, h => by
    obtain ⟨b, hb, hbi, hgo⟩ := h.next
    rw [fRef_step]
    refine Int.le_trans ((fold_up (p := fun b => decide (fIn sz l b + sz l.length ≤ room)) (g := fun b => fRef room sz n f (l ++ [b])) _ _).2 b (List.mem_range.2 (by omega)) ?_) (ref_up hs hg hK f (l ++ [b]) (by rw [List.length_append, List.length_singleton]; omega) hgo)
    rw [decide_eq_true_eq]
    have hf : fIn sz l b = fSum sz ((List.range l.length).filter fun i => g i == g l.length) := by
      unfold fIn
      congr 1
      refine List.filter_congr fun i hi => ?_
      have := hbi i (List.mem_range.1 hi)
      rw [Bool.eq_iff_iff, beq_iff_eq, beq_iff_eq]
      exact this
    have hsum := hg (g l.length)
    rw [show n = (l.length + 1) + f by omega, List.range_add, List.filter_append, fSum_append, List.range_succ, List.filter_append, fSum_append] at hsum
    have h1 : ([l.length].filter fun i => g i == g l.length) = [l.length] := by simp
    rw [h1] at hsum
    have h2 := fSum_nonneg hs (List.filter (fun i => g i == g l.length) (List.map (fun x => l.length + 1 + x) (List.range f)))
    have h3 : fSum sz [l.length] = sz l.length := by simp [fSum]
    omega
end Go.Proofs.YtfaifadfilndmaaDoor
