/- The tour, in plain Lean: edges taken away from words, the next one, the whole way. Conditions: the graph may be. -/
import Derived.Test.YtjkfogkpacmdlaaDoorTourP
namespace Go.Proofs.YtjkfogkpacmdlaaDoor
open Go.RowKit

/-- An edge is taken away, or put back. -/
def turnW (r : List (BitVec 32)) (a b : Nat) : List (BitVec 32) := (r.set a (wXor (lw r a) (wShl w1 b))).set b (wXor (lw (r.set a (wXor (lw r a) (wShl w1 b))) b) (wShl w1 a))
theorem turnW_length (r : List (BitVec 32)) (a b : Nat) : (turnW r a b).length = r.length := by simp [turnW]
theorem turnW_bit {r : List (BitVec 32)} {a b : Nat} (ha : a < r.length) (hb : b < r.length) (hne : a ≠ b) (h32 : r.length ≤ 32) (i j : Nat) (hi : i < r.length) : (lw (turnW r a b) i).getLsbD j = ((lw r i).getLsbD j ^^ decide ((i = a ∧ j = b) ∨ (i = b ∧ j = a))) := by
  unfold turnW
  rw [lw_set _ _ (by rw [List.length_set]; exact hb), lw_set (k := b) _ _ ha, if_neg hne]
  by_cases h1 : b = i
  · subst h1
    rw [if_pos rfl, b_xor, b_one]
    congr 1
    rw [Bool.eq_iff_iff]
    simp
    omega
  · rw [if_neg h1, lw_set _ _ ha]
    by_cases h2 : a = i
    · subst h2
      rw [if_pos rfl, b_xor, b_one]
      congr 1
      rw [Bool.eq_iff_iff]
      simp
      omega
    · rw [if_neg h2]
      have : decide ((i = a ∧ j = b) ∨ (i = b ∧ j = a)) = false := by simp; omega
      rw [this, Bool.xor_false]
theorem words_ext {r t : List (BitVec 32)} (hl : r.length = t.length) (h : ∀ i, i < r.length → ∀ j, (lw r i).getLsbD j = (lw t i).getLsbD j) : r = t := by
  refine List.ext_getElem hl fun i h1 h2 => ?_
  have := h i h1
  rw [lw_at r i h1, lw_at t i h2] at this
  exact w_ext fun j _ => this j
theorem turn_near {N : Nat} {l : List Ed} (hg : GoodG N l) {a j : Nat} (h : Adj l a j) : turnW (nearL N l) a j = nearL N (cutE l a j) := by
  have hlow := adj_low hg a j h
  have hn := hg.n10
  refine words_ext (by rw [turnW_length, nearL_length, nearL_length]) fun i hi k => ?_
  rw [turnW_length, nearL_length] at hi
  rw [turnW_bit (by rw [nearL_length]; omega) (by rw [nearL_length]; omega) (adj_ne hg h) (by rw [nearL_length]; omega) i k (by rw [nearL_length]; exact hi), near_bit hg hi, near_bit (cut_good hg a j) hi]
  have h1 := adj_cut (l := l) (a := a) (j := j) (x := i) (y := k)
  have h2 : (i = a ∧ k = j) ∨ (i = j ∧ k = a) → adj l i k = true := fun hk => by
    rcases hk with ⟨e1, e2⟩ | ⟨e1, e2⟩
    · rw [e1, e2]; exact h
    · rw [e1, e2]; exact adj_sym h
  unfold Adj at h1
  by_cases hk : (i = a ∧ k = j) ∨ (i = j ∧ k = a)
  · rw [decide_eq_true hk, h2 hk]
    have : ¬ adj (cutE l a j) i k = true := fun hh => (h1.1 hh).2 hk
    rw [Bool.not_eq_true] at this
    rw [this]
    rfl
  · rw [decide_eq_false hk, Bool.xor_false, Bool.eq_iff_iff, h1]
    exact ⟨fun h => ⟨h, hk⟩, fun h => h.1⟩
theorem turn_back {r : List (BitVec 32)} {a b : Nat} (ha : a < r.length) (hb : b < r.length) (hne : a ≠ b) (h32 : r.length ≤ 32) : turnW (turnW r a b) a b = r := by
  refine words_ext (by rw [turnW_length, turnW_length]) fun i hi k => ?_
  rw [turnW_length, turnW_length] at hi
  rw [turnW_bit (by rw [turnW_length]; exact ha) (by rw [turnW_length]; exact hb) hne (by rw [turnW_length]; exact h32) i k (by rw [turnW_length]; exact hi), turnW_bit ha hb hne h32 i k hi, Bool.xor_assoc, Bool.xor_self, Bool.xor_false]
open Classical in
/-- May one go there? -/
noncomputable def okT (N : Nat) (l : List Ed) (a j : Nat) : Bool := decide (Adj l a j ∧ conn N (cutE l a j) j)
theorem okT_iff {N : Nat} {l : List Ed} {a j : Nat} : okT N l a j = true ↔ Adj l a j ∧ conn N (cutE l a j) j := by simp only [okT, decide_eq_true_eq]
theorem okT_not {N : Nat} {l : List Ed} {a j : Nat} : okT N l a j = false ↔ ¬ (Adj l a j ∧ conn N (cutE l a j) j) := by rw [← okT_iff, Bool.not_eq_true]
noncomputable def nxtT (N : Nat) (l : List Ed) (a : Nat) : Nat := ((List.range N).find? (okT N l a)).getD 0
theorem nxtT_eq {N : Nat} {l : List Ed} {a j : Nat} (hj : j < N) (h : okT N l a j = true) (hm : ∀ i, i < j → okT N l a i = false) : nxtT N l a = j := by
  unfold nxtT
  rw [List.find?_range_eq_some.2 ⟨h, List.mem_range.2 hj, fun i hi => by rw [hm i hi]; rfl⟩]
  rfl
theorem nxtT_spec {N : Nat} {l : List Ed} (hg : GoodG N l) {a s : Nat} (hl : l ≠ []) (hp : par N l a s) (hc : conn N l a) : nxtT N l a < N ∧ okT N l a (nxtT N l a) = true ∧ ∀ i, i < nxtT N l a → okT N l a i = false := by
  obtain ⟨j, h1, h2⟩ := fleury hg hl hp hc
  have hj := (adj_low hg a j h1).2
  cases hf : (List.range N).find? (okT N l a) with
  | none =>
    have := List.find?_eq_none.1 hf j (List.mem_range.2 hj)
    exact absurd (okT_iff.2 ⟨h1, h2⟩) this
  | some k =>
    obtain ⟨q1, q2, q3⟩ := List.find?_range_eq_some.1 hf
    have e : nxtT N l a = k := by unfold nxtT; rw [hf]; rfl
    rw [e]
    exact ⟨List.mem_range.1 q2, q1, fun i hi => by simpa using q3 i hi⟩
/-- The way, from the next one on. -/
noncomputable def tourR (N : Nat) : Nat → List Ed → Nat → List Int
  | 0, _, _ => []
  | f + 1, l, a => (nxtT N l a : Int) :: tourR N f (cutE l a (nxtT N l a)) (nxtT N l a)
theorem tourR_len (N : Nat) : ∀ f l a, (tourR N f l a).length = f
  | 0, _, _ => rfl
  | f + 1, l, a => by rw [tourR, List.length_cons, tourR_len N f]
/-- Who begins. -/
def stT (N : Nat) (l : List Ed) : Nat := ((List.range N).find? fun i : Nat => decide (0 < deg l i)).getD 0
def StI (l : List Ed) (lo hi s : Nat) : Prop := (∀ i, lo ≤ i → i < hi → 0 < deg l i → 0 < deg l s ∧ s ≤ i) ∧ ((∀ i, lo ≤ i → i < hi → deg l i = 0) → s = 0)
theorem StI.eq_ {N : Nat} {l : List Ed} {s : Nat} (h : StI l 0 N s) : s = stT N l := by
  unfold stT
  cases hf : (List.range N).find? fun i : Nat => decide (0 < deg l i) with
  | none =>
    refine h.2 fun i _ hi => ?_
    have := List.find?_eq_none.1 hf i (List.mem_range.2 hi)
    simp at this
    omega
  | some k =>
    obtain ⟨q1, q2, q3⟩ := List.find?_range_eq_some.1 hf
    have q1 : 0 < deg l k := by simpa using q1
    obtain ⟨h1, h2⟩ := h.1 k (Nat.zero_le _) (List.mem_range.1 q2) q1
    show s = k
    refine Classical.byContradiction fun hne => ?_
    have := q3 s (by omega)
    simp at this
    omega
theorem StI.up {l : List Ed} {k s : Nat} (h : StI l 0 k s) : StI l 0 (k + 1) (if 0 < deg l k ∧ deg l s = 0 then k else s) := by
  split
  · rename_i hk
    have hz : ∀ i, i < k → deg l i = 0 := fun i hi => Classical.byContradiction fun hne => by
      have := (h.1 i (Nat.zero_le _) hi (by omega)).1
      omega
    refine ⟨fun i _ hi hd => ?_, fun hall => ?_⟩
    · by_cases hik : i = k
      · subst hik; exact ⟨hk.1, Nat.le_refl _⟩
      · have := hz i (by omega); omega
    · have := hall k (Nat.zero_le _) (by omega); omega
  · rename_i hk
    refine ⟨fun i _ hi hd => ?_, fun hall => h.2 fun i h0 hi => hall i h0 (by omega)⟩
    by_cases hik : i = k
    · subst hik
      have hs : 0 < deg l s := by
        refine Classical.byContradiction fun hne => hk ⟨hd, by omega⟩
      refine ⟨hs, Classical.byContradiction fun hlt => ?_⟩
      have h0 : s = 0 := h.2 fun j _ hj => Classical.byContradiction fun hne => by
        have := (h.1 j (Nat.zero_le _) hj (by omega)).2
        omega
      omega
    · exact h.1 i (Nat.zero_le _) (by omega) hd
theorem StI.down {l : List Ed} {k N s : Nat} (h : StI l (k + 1) N s) (hk : k < N) : StI l k N (if 0 < deg l k then k else s) := by
  split
  · rename_i hd
    exact ⟨fun i h0 hi _ => ⟨hd, h0⟩, fun hall => by have := hall k (Nat.le_refl _) hk; omega⟩
  · rename_i hd
    refine ⟨fun i h0 hi hdi => ?_, fun hall => h.2 fun i h0 hi => hall i (by omega) hi⟩
    by_cases hik : i = k
    · subst hik; exact absurd hdi hd
    · exact h.1 i (by omega) hi hdi
theorem StI.here (l : List Ed) (k : Nat) : StI l k k 0 := ⟨fun i h0 hi _ => by omega, fun _ => rfl⟩
theorem stT_lt {N : Nat} (l : List Ed) (hN : 0 < N) : stT N l < N := by
  unfold stT
  cases hf : (List.range N).find? fun i : Nat => decide (0 < deg l i) with
  | none => exact hN
  | some k => exact List.mem_range.1 (List.find?_range_eq_some.1 hf).2.1
/-- May all edges be met? -/
def mayT (N : Nat) (l : List Ed) (a s : Nat) : Prop := par N l a s ∧ conn N l a
open Classical in
/-- The whole way. -/
noncomputable def tourT (N : Nat) (l : List Ed) : List Int := if mayT N l (stT N l) (stT N l) then (stT N l : Int) :: tourR N l.length l (stT N l) else []
end Go.Proofs.YtjkfogkpacmdlaaDoor
