/- The tree of a code, leaf by leaf, in plain Lean. Conditions: none. -/
import Derived.Test.YtlflnfelhndohaaDoorMapsHoles7
import Derived.Test.YtlflnfelhndohaaDoorMapsHoles10
namespace Go.Proofs.YtlflnfelhndohaaDoor

theorem pigeon : ∀ (n : Nat) (L : List Int), (∀ i : Nat, i < n → (i : Int) ∈ L) → n ≤ L.length
  | 0, _, _ => Nat.zero_le _
  | n + 1, L, h => by
    have h0 := h n (by omega)
    have h1 := pigeon n (L.erase (n : Int)) (fun i hi => (List.mem_erase_of_ne (by omega)).2 (h i (by omega)))
    rw [List.length_erase_of_mem h0] at h1
    have := List.length_pos_of_mem h0
    omega
/-- The first number below n of which p holds. -/
def firstN (p : Nat → Bool) (n : Nat) : Nat := (List.range n).findIdx p
theorem firstN_some {p : Nat → Bool} {n : Nat} (h : ∃ i, i < n ∧ p i = true) : firstN p n < n ∧ p (firstN p n) = true ∧ ∀ k, k < firstN p n → p k = false := by
  obtain ⟨i, hi, hp⟩ := h
  have hlt : (List.range n).findIdx p < (List.range n).length := List.findIdx_lt_length_of_exists ⟨i, List.mem_range.2 hi, hp⟩
  have h2 : (List.range n).findIdx p < n := by simpa using hlt
  have h3 := List.findIdx_getElem (w := hlt)
  rw [List.getElem_range] at h3
  refine ⟨h2, h3, fun k hk => ?_⟩
  have h4 := List.not_of_lt_findIdx (p := p) (xs := List.range n) (i := k) hk
  rw [List.getElem_range] at h4
  simpa using h4
theorem firstN_of {p : Nat → Bool} {n i : Nat} (hi : i < n) (h : p i = true) (hno : ∀ k, k < i → p k = false) : firstN p n = i := by
  obtain ⟨h1, h2, h3⟩ := firstN_some ⟨i, hi, h⟩
  rcases Nat.lt_trichotomy (firstN p n) i with hlt | he | hgt
  · rw [hno _ hlt] at h2; cases h2
  · exact he
  · rw [h3 i hgt] at h; cases h
/-- The first place at which p holds of a list that is told by places. -/
theorem idxF_range {α : Type} (p : α → Bool) (f : Nat → α) (n i : Nat) (hi : i < n) (h : p (f i) = true) (hno : ∀ k, k < i → p (f k) = false) : idxF p ((List.range n).map f) = i := by
  refine idxF_at (l := (List.range n).map f) (k := i) (by simpa using hi) ?_ (by simpa using h)
  rw [List.any_eq_false]
  intro x hx
  rw [← List.map_take] at hx
  obtain ⟨k, hk, rfl⟩ := List.mem_map.1 hx
  rw [List.take_range, List.mem_range] at hk
  rw [hno k (by omega)]
  simp

theorem hasB_mem {l : List Int} {x : Int} : hasB l x = true ↔ x ∈ l := by
  unfold hasB
  rw [List.any_eq_true]
  constructor
  · rintro ⟨y, hy, h⟩
    rw [beq_iff_eq] at h
    rw [h]; exact hy
  · exact fun h => ⟨x, h, by simp⟩
theorem hasB_not {l : List Int} {x : Int} : hasB l x = false ↔ x ∉ l := by
  rw [← hasB_mem]
  simp

def fresh (gone rest : List Int) (x : Nat) : Bool := !hasB gone x && !hasB rest x
def goneL (code : List Int) : Nat → List Int
  | 0 => []
  | k + 1 => goneL code k ++ [((firstN (fresh (goneL code k) (code.drop k)) (code.length + 2) : Nat) : Int)]
/-- Which leaf is gone in step k. -/
def pk (code : List Int) (k : Nat) : Nat := firstN (fresh (goneL code k) (code.drop k)) (code.length + 2)
theorem goneL_succ (code : List Int) (k : Nat) : goneL code (k + 1) = goneL code k ++ [(pk code k : Int)] := rfl
theorem goneL_length (code : List Int) : ∀ k, (goneL code k).length = k
  | 0 => rfl
  | k + 1 => by rw [goneL_succ, List.length_append, goneL_length code k]; rfl
theorem pk_spec (code : List Int) {k : Nat} (hk : k ≤ code.length) : pk code k < code.length + 2 ∧ fresh (goneL code k) (code.drop k) (pk code k) = true ∧ ∀ i, i < pk code k → fresh (goneL code k) (code.drop k) i = false := by
  refine firstN_some ?_
  rcases Classical.em (∃ i, i < code.length + 2 ∧ fresh (goneL code k) (code.drop k) i = true) with h | h
  · exact h
  · exfalso
    have := pigeon (code.length + 2) (goneL code k ++ code.drop k) (fun i hi => by
      rw [List.mem_append]
      rcases hf : fresh (goneL code k) (code.drop k) i with _ | _
      · unfold fresh at hf
        rw [Bool.and_eq_false_iff] at hf
        simp only [Bool.not_eq_false'] at hf
        exact hf.imp hasB_mem.1 hasB_mem.1
      · exact absurd ⟨i, hi, hf⟩ h)
    rw [List.length_append, goneL_length, List.length_drop] at this
    omega
theorem drop_sub {code : List Int} {k : Nat} {x : Int} (h : x ∈ code.drop (k + 1)) : x ∈ code.drop k := by
  have : code.drop (k + 1) = (code.drop k).drop 1 := by rw [List.drop_drop]
  rw [this] at h
  exact List.mem_of_mem_drop h
theorem gone_rest (code : List Int) : ∀ k, k ≤ code.length → ∀ x ∈ goneL code k, x ∉ code.drop k
  | 0, _, x, hx => by cases hx
  | k + 1, hk, x, hx => by
    rw [goneL_succ, List.mem_append] at hx
    rcases hx with hx | hx
    · exact fun h => gone_rest code k (by omega) x hx (drop_sub h)
    · have h1 := (pk_spec code (k := k) (by omega)).2.1
      unfold fresh at h1
      rw [Bool.and_eq_true] at h1
      simp only [Bool.not_eq_true'] at h1
      rw [List.mem_singleton] at hx
      subst hx
      exact fun h => hasB_not.1 h1.2 (drop_sub h)
/-- What the program counts: -1: gone; else how often it still comes. -/
def comesAt (code : List Int) (k x : Nat) : Int := if hasB (goneL code k) x then -1 else ((code.drop k).count (x : Int) : Int)
def comesL (code : List Int) (k : Nat) : List Int := (List.range (code.length + 2)).map (comesAt code k)
theorem comesL_length (code : List Int) (k : Nat) : (comesL code k).length = code.length + 2 := by simp [comesL]
theorem comesAt_le (code : List Int) (k x : Nat) : -1 ≤ comesAt code k x ∧ comesAt code k x ≤ code.length := by
  unfold comesAt
  have := List.count_le_length (a := (x : Int)) (l := code.drop k)
  rw [List.length_drop] at this
  split <;> omega
theorem comesL_at (code : List Int) (k x : Nat) (h : x < (comesL code k).length) : (comesL code k)[x] = comesAt code k x := by simp [comesL]
theorem comes_zero (code : List Int) (k x : Nat) : (0 == comesAt code k x) = fresh (goneL code k) (code.drop k) x := by
  unfold comesAt fresh
  rcases h : hasB (goneL code k) x with _ | _
  · rcases h2 : hasB (code.drop k) x with _ | _
    · have := List.count_eq_zero.2 (hasB_not.1 h2)
      simp [this]
    · have := List.count_pos_iff.2 (hasB_mem.1 h2)
      simp
      omega
  · simp
theorem comes_idx (code : List Int) {k : Nat} (hk : k ≤ code.length) : idxF (fun y => 0 == y) (comesL code k) = pk code k := by
  obtain ⟨h1, h2, h3⟩ := pk_spec code hk
  exact idxF_range _ _ _ _ h1 (by rw [comes_zero]; exact h2) (fun i hi => by rw [comes_zero]; exact h3 i hi)
theorem set_map_range {α : Type} (f : Nat → α) (n i : Nat) (v : α) : ((List.range n).map f).set i v = (List.range n).map fun x => if x = i then v else f x := by
  apply List.ext_getElem (by simp)
  intro x h1 h2
  rw [List.getElem_set]
  simp only [List.getElem_map, List.getElem_range]
  by_cases h : i = x
  · rw [if_pos h, if_pos h.symm]
  · rw [if_neg h, if_neg (fun e => h e.symm)]
theorem comes_step (code : List Int) {k j : Nat} (hk : k < code.length) (hj : code[k] = (j : Int)) (hjn : j < code.length + 2) :
    ((comesL code k).set (pk code k) (-1)).set j (comesAt code k j - 1) = comesL code (k + 1) ∧ pk code k ≠ j ∧ 0 < comesAt code k j := by
  obtain ⟨h1, h2, h3⟩ := pk_spec code (k := k) (by omega)
  have hd := drop_at code k hk
  rw [hj] at hd
  have hjr : (j : Int) ∈ code.drop k := by rw [hd]; simp
  have hjg : hasB (goneL code k) j = false := hasB_not.2 fun h => gone_rest code k (by omega) _ h hjr
  have hne : pk code k ≠ j := by
    rintro rfl
    unfold fresh at h2
    rw [Bool.and_eq_true] at h2
    simp only [Bool.not_eq_true'] at h2
    exact hasB_not.1 h2.2 hjr
  have hc : comesAt code k j = ((code.drop (k + 1)).count (j : Int) : Int) + 1 := by
    unfold comesAt
    rw [hjg, hd, List.count_cons_self]
    simp
  refine ⟨?_, hne, by omega⟩
  unfold comesL
  rw [set_map_range, set_map_range]
  refine List.map_congr_left fun x _ => ?_
  by_cases h4 : x = j
  · subst h4
    rw [if_pos rfl, hc]
    unfold comesAt
    have : hasB (goneL code (k + 1)) x = false := by
      rw [goneL_succ]
      exact hasB_not.2 fun h => by
        rcases List.mem_append.1 h with h | h
        · exact hasB_not.1 hjg h
        · rw [List.mem_singleton] at h; omega
    rw [this]
    simp
  · rw [if_neg h4]
    by_cases h5 : x = pk code k
    · subst h5
      rw [if_pos rfl]
      unfold comesAt
      rw [goneL_succ, hasB_mem.2 (List.mem_append_right _ (List.mem_singleton.2 rfl))]
      simp
    · rw [if_neg h5]
      unfold comesAt
      have e1 : hasB (goneL code (k + 1)) x = hasB (goneL code k) x := by
        rw [goneL_succ, Bool.eq_iff_iff, hasB_mem, hasB_mem, List.mem_append, List.mem_singleton]
        constructor
        · rintro (h | h)
          · exact h
          · omega
        · exact .inl
      have e2 : (code.drop k).count (x : Int) = (code.drop (k + 1)).count (x : Int) := by
        rw [hd, List.count_cons_of_ne (by omega)]
      rw [e1, e2]
theorem comes_start (code : List Int) (k : Nat) (hk : k < code.length) (j : Nat) (hj : code[k] = (j : Int)) (n : Nat) :
    ((List.range n).map fun x : Nat => ((code.take k).count (x : Int) : Int)).set j (((code.take k).count (j : Int) : Int) + 1) = (List.range n).map fun x : Nat => ((code.take (k + 1)).count (x : Int) : Int) := by
  rw [set_map_range]
  refine List.map_congr_left fun x _ => ?_
  rw [List.take_succ_eq_append_getElem hk, hj, List.count_append]
  by_cases h : x = j
  · subst h
    rw [if_pos rfl]
    simp
  · rw [if_neg h, List.count_cons_of_ne (by omega)]
    simp
theorem comes_zero_start (code : List Int) : ((List.range (code.length + 2)).map fun x : Nat => ((code.take code.length).count (x : Int) : Int)) = comesL code 0 := by
  rw [List.take_length]
  rfl
/-- The last two. -/
def pa (code : List Int) : Nat := pk code code.length
def pb (code : List Int) : Nat := firstN (fun x => !hasB (goneL code code.length ++ [(pa code : Int)]) x) (code.length + 2)
theorem fresh_end (code : List Int) (x : Nat) : fresh (goneL code code.length) (code.drop code.length) x = !hasB (goneL code code.length) x := by
  unfold fresh
  rw [List.drop_length]
  simp [hasB]
theorem pa_spec (code : List Int) : pa code < code.length + 2 ∧ hasB (goneL code code.length) (pa code) = false ∧ ∀ i : Nat, i < pa code → hasB (goneL code code.length) i = true := by
  obtain ⟨h1, h2, h3⟩ := pk_spec code (k := code.length) (by omega)
  refine ⟨h1, ?_, fun i hi => ?_⟩
  · rw [fresh_end] at h2
    show hasB (goneL code code.length) (pk code code.length : Nat) = false
    simpa using h2
  · have := h3 i hi
    rw [fresh_end] at this
    simpa using this
theorem pb_spec (code : List Int) : pb code < code.length + 2 ∧ pa code < pb code ∧ hasB (goneL code code.length) (pb code) = false ∧ ∀ i : Nat, pa code < i → i < pb code → hasB (goneL code code.length) i = true := by
  obtain ⟨a1, a2, a3⟩ := pa_spec code
  obtain ⟨h1, h2, h3⟩ := firstN_some (p := fun x => !hasB (goneL code code.length ++ [(pa code : Int)]) x) (n := code.length + 2) (by
    rcases Classical.em (∃ i : Nat, i < code.length + 2 ∧ (!hasB (goneL code code.length ++ [(pa code : Int)]) i) = true) with h | h
    · exact h
    · exfalso
      have := pigeon (code.length + 2) (goneL code code.length ++ [(pa code : Int)]) (fun i hi => by
        rcases hf : hasB (goneL code code.length ++ [(pa code : Int)]) i with _ | _
        · exact absurd ⟨i, hi, by rw [hf]; rfl⟩ h
        · exact hasB_mem.1 hf)
      rw [List.length_append, goneL_length] at this
      simp at this)
  have e : ∀ i : Nat, hasB (goneL code code.length ++ [(pa code : Int)]) i = (hasB (goneL code code.length) i || decide (i = pa code)) := fun i => by
    rw [Bool.eq_iff_iff, Bool.or_eq_true, decide_eq_true_iff, hasB_mem, hasB_mem, List.mem_append, List.mem_singleton]
    exact or_congr Iff.rfl (by omega)
  rw [e] at h2
  change (!(hasB (goneL code code.length) (pb code) || decide (pb code = pa code))) = true at h2
  have h4 : hasB (goneL code code.length) (pb code) = false ∧ pb code ≠ pa code := by
    rw [Bool.not_eq_true', Bool.or_eq_false_iff, decide_eq_false_iff_not] at h2
    exact h2
  refine ⟨h1, ?_, h4.1, fun i hi hib => ?_⟩
  · rcases Nat.lt_trichotomy (pa code) (pb code) with h | h | h
    · exact h
    · exact absurd h.symm h4.2
    · have := a3 _ h
      rw [h4.1] at this; cases this
  · have := h3 i hib
    rw [e] at this
    have h6 : decide (i = pa code) = false := by simp; omega
    rw [h6] at this
    simpa using this
theorem comes_idx2 (code : List Int) : idxF (fun y => 0 == y) ((comesL code code.length).drop (pa code + 1)) = (pb code : Int) - (pa code + 1) := by
  obtain ⟨h1, h2, h3, h4⟩ := pb_spec code
  have e : (comesL code code.length).drop (pa code + 1) = (List.range (code.length + 2 - (pa code + 1))).map fun i => comesAt code code.length (pa code + 1 + i) := by
    unfold comesL
    apply List.ext_getElem (by simp)
    intro i h5 h6
    simp
  rw [e, idxF_range _ _ _ (pb code - (pa code + 1)) (by omega)]
  · omega
  · rw [comes_zero, fresh_end, show pa code + 1 + (pb code - (pa code + 1)) = pb code by omega, h3]
    rfl
  · intro k hk
    rw [comes_zero, fresh_end, h4 _ (by omega) (by omega)]
    rfl
/-- The edges of the tree. -/
def decE (code : List Int) (k : Nat) : List Ed := (List.range k).map fun t => ⟨(pk code t : Int), code.getD t 0, 0⟩
theorem decE_length (code : List Int) (k : Nat) : (decE code k).length = k := by simp [decE]
theorem decE_succ (code : List Int) (k : Nat) : decE code (k + 1) = decE code k ++ [⟨(pk code k : Int), code.getD k 0, 0⟩] := map_range_succ _ _
def decAll (code : List Int) : List Ed := decE code code.length ++ [⟨(pa code : Int), (pb code : Int), 0⟩]
def codeBad (n x : Int) : Bool := decide (x < 0) || decide (n ≤ x)
def codeCheck (code : List Int) : Int := if 8 < code.length then 1 else if code.any (codeBad (code.length + 2)) then 2 else 0
end Go.Proofs.YtlflnfelhndohaaDoor
