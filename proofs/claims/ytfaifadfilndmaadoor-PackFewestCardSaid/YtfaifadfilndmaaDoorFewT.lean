/- How few boxes: the least order's boxes are what the search by all ways finds: in plain Lean. Conditions: none. -/
import Derived.Test.YtfaifadfilndmaaDoorFewS
namespace Go.Proofs.YtfaifadfilndmaaDoor
open Go.RowKit

/-- An order, run through, puts each thing into a box. -/
theorem run_way {room : Int} {sz : Nat → Int} (hr : 0 ≤ room) (hs : ∀ i, 0 ≤ sz i ∧ sz i ≤ room) : ∀ (n : Nat) (l : List Nat), l.length = n → l.Nodup → ∃ (k : Nat) (g : Nat → Nat), (fRun room sz l).1 = k ∧ (∀ i ∈ l, g i < k) ∧ (∀ c, fSum sz (l.filter fun i => g i == c) ≤ room) ∧ (k = 0 → (fRun room sz l).2 = room + 1) ∧ (∀ j, k = j + 1 → fSum sz (l.filter fun i => g i == j) = (fRun room sz l).2)
  | 0, l, hl, _ => by
    have : l = [] := List.length_eq_zero_iff.1 hl
    subst this
    exact ⟨0, fun _ => 0, rfl, fun i hi => (by cases hi), fun c => by simpa [fSum] using hr, fun _ => rfl, fun j hj => by omega⟩
  | n + 1, l, hl, hn => by
    rcases List.eq_nil_or_concat l with rfl | ⟨l', i, rfl⟩
    · simp at hl
    · rw [List.concat_eq_append] at hl hn ⊢
      rw [List.length_append, List.length_singleton] at hl
      obtain ⟨hn', _, hni⟩ := List.nodup_append.1 hn
      have hil : i ∉ l' := fun h => hni i h i (by simp) rfl
      obtain ⟨k, g, h1, h2, h3, h4, h5⟩ := run_way hr hs n l' (by omega) hn'
      rw [fRun_snoc]
      have hcong : ∀ (v c : Nat), l'.filter (fun j => (if j = i then v else g j) == c) = l'.filter fun j => g j == c := fun v c => List.filter_congr fun j hj => by
        have : ¬ j = i := fun e => hil (e ▸ hj)
        simp [this]
      have hsi := hs i
      unfold fStep
      by_cases ho : room < (fRun room sz l').2 + sz i
      · rw [if_pos ho]
        refine ⟨k + 1, fun j => if j = i then k else g j, by show (fRun room sz l').1 + 1 = _; rw [h1]; rfl, fun j hj => ?_, fun c => ?_, fun hk => by omega, fun j hj => ?_⟩
        · rcases List.mem_append.1 hj with hj | hj
          · have : ¬ j = i := fun e => hil (e ▸ hj)
            have := h2 j hj
            simp [*]
            omega
          · rw [List.mem_singleton] at hj
            simp [hj]
        · rw [List.filter_append, fSum_append, hcong]
          by_cases hc : k = c
          · subst hc
            have he : l'.filter (fun j => g j == k) = [] := List.filter_eq_nil_iff.2 fun j hj => by have := h2 j hj; simp; omega
            rw [he]
            simp [fSum]
            exact hsi.2
          · have := h3 c
            simp [hc, fSum] at this ⊢
            exact this
        · obtain rfl : j = k := by omega
          rw [List.filter_append, fSum_append, hcong]
          have he : l'.filter (fun i => g i == j) = [] := List.filter_eq_nil_iff.2 fun a ha => by have := h2 a ha; simp; omega
          rw [he]
          simp [fSum]
      · rw [if_neg ho]
        have hk0 : k ≠ 0 := fun e => by have := h4 e; omega
        obtain ⟨q, rfl⟩ : ∃ q, k = q + 1 := ⟨k - 1, by omega⟩
        have h6 := h5 q rfl
        refine ⟨q + 1, fun j => if j = i then q else g j, by show (fRun room sz l').1 = _; rw [h1], fun j hj => ?_, fun c => ?_, fun hk => by omega, fun j hj => ?_⟩
        · rcases List.mem_append.1 hj with hj | hj
          · have h7 : ¬ j = i := fun e => hil (e ▸ hj)
            have := h2 j hj
            simp [h7]
            omega
          · rw [List.mem_singleton] at hj
            simp [hj]
        · rw [List.filter_append, fSum_append, hcong]
          by_cases hc : q = c
          · subst hc
            rw [h6]
            simp [fSum]
            omega
          · have := h3 c
            simp [hc, fSum] at this ⊢
            exact this
        · obtain rfl : j = q := by omega
          rw [List.filter_append, fSum_append, hcong, h6]
          simp [fSum]
theorem flat_ones : ∀ l : List Nat, (l.map fun i => [i]).flatten = l
  | [] => rfl
  | a :: l => by rw [List.map_cons, List.flatten_cons, flat_ones l]; rfl
theorem sum_perm {l k : List Int} (h : l.Perm k) : l.sum = k.sum := by
  induction h with
  | nil => rfl
  | cons a _ ih => rw [List.sum_cons, List.sum_cons, ih]
  | swap a b l => simp only [List.sum_cons]; omega
  | trans _ _ h1 h2 => exact h1.trans h2
theorem run_le {room : Int} {sz : Nat → Int} (hs : ∀ i, 0 ≤ sz i ∧ sz i ≤ room) (l : List Nat) : (fRun room sz l).1 ≤ l.length := by
  have := run_boxes (room := room) (fun i => (hs i).1) (l.map fun i => [i]) (fun k hk => by
    obtain ⟨i, _, rfl⟩ := List.mem_map.1 hk
    simp [fSum]
    exact (hs i).2) (0, room + 1) 0 (Int.le_refl _)
  rw [flat_ones, List.length_map] at this
  unfold fRun
  omega
theorem ref_low {room : Int} {sz : Nat → Int} (hs : ∀ i, 0 ≤ sz i ∧ sz i ≤ room) {n : Nat} {b : FSt} (hb : FMin room sz (List.range n) b) : ∀ (f : Nat) (l : List Nat), l.length + f = n → (∀ c, fIn sz l c ≤ room) → b.1 ≤ fRef room sz n f l
  | 0, l, hl, hv => by
    rw [fRef]
    exact leaf_low (fun i => (hs i).1) hb (by omega) hv
  | f + 1, l, hl, hv => by
    rw [fRef_step]
    refine fold_low _ _ ?_ (fun c hc hp => ref_low hs hb f (l ++ [c]) (by rw [List.length_append, List.length_singleton]; omega) (fun d => ?_))
    · obtain ⟨l', hl', he⟩ := hb.is
      have h1 := run_le hs l'
      have h2 := hl'.length_eq
      rw [List.length_range] at h2
      rw [he]
      omega
    · rw [decide_eq_true_eq] at hp
      rw [fIn_snoc]
      by_cases h : c = d
      · subst h; simpa using hp
      · have := hv d
        simp [h]
        exact this
/-- The law. -/
theorem few_same {room : Int} {sz : Nat → Int} (hr : 0 ≤ room) (hs : ∀ i, 0 ≤ sz i ∧ sz i ≤ room) {n : Nat} {b : FSt} (hb : FMin room sz (List.range n) b) : fRef room sz n n [] = b.1 := by
  refine Int.le_antisymm ?_ (ref_low hs hb n [] (by simp) (fun c => by simp [fIn, fSum]; exact hr))
  obtain ⟨l, hl, he⟩ := hb.is
  obtain ⟨k, g, h1, h2, h3, _, _⟩ := run_way hr hs l.length l rfl (hl.nodup_iff.2 List.nodup_range)
  rw [he, h1]
  refine ref_up (fun i => (hs i).1) (g := g) (fun c => ?_) (fun i hi => h2 i (hl.mem_iff.2 (List.mem_range.2 hi))) n [] (by simp) ⟨fun i j hi => by simp at hi, fun c hc => by simp [fUsed] at hc⟩
  have h4 : ((List.range n).filter fun i => g i == c).Perm (l.filter fun i => g i == c) := (hl.filter _).symm
  have h5 : fSum sz ((List.range n).filter fun i => g i == c) = fSum sz (l.filter fun i => g i == c) := by
    unfold fSum
    exact sum_perm (h4.map sz)
  rw [h5]
  exact h3 c
end Go.Proofs.YtfaifadfilndmaaDoor
