/- First fit in plain Lean: what lies in a box, the box that a thing goes into, all things in an order. Conditions: none. -/
import Derived.Test.YtokmialpclcodaaCommon
namespace Go.Proofs.Ytokmialpclcodaa

/-- What is in box j, of the first k. -/
def inTo (sz R : List Int) (j : Int) : Nat → Int
  | 0 => 0
  | k + 1 => inTo sz R j k + if R.getD k 0 = j then sz.getD k 0 else 0
def inB (sz R : List Int) (j : Int) : Int := inTo sz R j R.length
theorem inTo_set (sz R : List Int) (j b : Int) (i : Nat) (hi : i < R.length) (hne : R.getD i 0 ≠ j) : ∀ k, inTo sz (R.set i b) j k = inTo sz R j k + if i < k ∧ b = j then sz.getD i 0 else 0
  | 0 => by simp [inTo]
  | k + 1 => by
    rw [inTo, inTo, inTo_set sz R j b i hi hne k]
    by_cases hik : i = k
    · subst hik
      have h1 : (R.set i b).getD i 0 = b := by simp [List.getD_eq_getElem?_getD, hi]
      rw [h1]
      repeat' split
      all_goals omega
    · have h1 : (R.set i b).getD k 0 = R.getD k 0 := by simp [List.getD_eq_getElem?_getD, List.getElem?_set, hik]
      rw [h1]
      repeat' split
      all_goals omega
theorem inTo_none (sz R : List Int) (j : Int) : ∀ k, (∀ i, i < k → R.getD i 0 ≠ j) → inTo sz R j k = 0
  | 0, _ => rfl
  | k + 1, h => by
    rw [inTo, inTo_none sz R j k (fun i hi => h i (by omega)), if_neg (h k (by omega))]
    rfl
theorem inTo_bounds (sz R : List Int) (j M : Int) (hs : ∀ i, 0 ≤ sz.getD i 0 ∧ sz.getD i 0 ≤ M) : ∀ k, 0 ≤ inTo sz R j k ∧ inTo sz R j k ≤ M * k
  | 0 => by simp [inTo]
  | k + 1 => by
    have h1 := inTo_bounds sz R j M hs k
    have h2 := hs k
    have h3 : M * ((k + 1 : Nat) : Int) = M * (k : Int) + M := by rw [Int.natCast_add, Int.mul_add]; simp
    rw [inTo, h3]
    split <;> omega
theorem inTo_mono (sz R : List Int) (j M : Int) (hs : ∀ i, 0 ≤ sz.getD i 0 ∧ sz.getD i 0 ≤ M) {k m : Nat} (h : k ≤ m) : inTo sz R j k ≤ inTo sz R j m := by
  induction m with
  | zero =>
    obtain rfl : k = 0 := by omega
    exact Int.le_refl _
  | succ m ih =>
    by_cases hk : k = m + 1
    · subst hk; exact Int.le_refl _
    · have := ih (by omega)
      have := hs m
      rw [inTo]
      split <;> omega
/-- j is the first box with room for x. -/
def IsFit (sz R : List Int) (room x : Int) (j : Nat) : Prop := inB sz R j + x ≤ room ∧ ∀ k : Nat, k < j → room < inB sz R k + x
theorem IsFit.unique {sz R : List Int} {room x : Int} {i j : Nat} (h : IsFit sz R room x i) (h' : IsFit sz R room x j) : i = j := by
  rcases Nat.lt_trichotomy i j with hlt | rfl | hgt
  · have := h'.2 i hlt; have := h.1; omega
  · rfl
  · have := h.2 j hgt; have := h'.1; omega
/-- All of a list of things that have found their box, one after the other. -/
inductive Fits (sz : List Int) (room : Int) : List Int → List Int → List Int → Prop
  | nil (R : List Int) : Fits sz room R [] R
  | cons (R R' : List Int) (i : Nat) (l : List Int) (j : Nat) (h : IsFit sz R room (sz.getD i 0) j) (t : Fits sz room (R.set i j) l R') : Fits sz room R ((i : Int) :: l) R'
theorem Fits.unique {sz : List Int} {room : Int} {R l R1 R2 : List Int} (h : Fits sz room R l R1) (h' : Fits sz room R l R2) : R1 = R2 := by
  generalize hl : l = l' at h'
  induction h generalizing l' R2 with
  | nil R => subst hl; cases h'; rfl
  | cons R R' i l j h t ih =>
    subst hl
    generalize hm : (i : Int) :: l = m at h'
    cases h' with
    | nil => cases hm
    | cons _ _ i' l' j' h2 t2 =>
      injection hm with h3 h4
      have h3 : i = i' := by omega
      subst h3
      subst h4
      have := h.unique h2
      subst this
      exact ih _ rfl t2
theorem Fits.snoc {sz : List Int} {room : Int} {R l R1 : List Int} (h : Fits sz room R l R1) (i j : Nat) (hf : IsFit sz R1 room (sz.getD i 0) j) : Fits sz room R (l ++ [(i : Int)]) (R1.set i j) := by
  induction h with
  | nil R => exact .cons _ _ i _ j hf (.nil _)
  | cons R R' i' l j' h' t ih => exact .cons _ _ i' _ j' h' (ih hf)
/-- Things stand in boxes below m, those not yet placed at -1. -/
structure Placed (n m : Nat) (R : List Int) : Prop where
  len : R.length = n
  lo : ∀ i, i < n → -1 ≤ R.getD i 0
  hi : ∀ i, i < n → R.getD i 0 < m
theorem Placed.empty {n m : Nat} {R : List Int} (h : Placed n m R) (sz : List Int) {j : Nat} (hj : m ≤ j) : inB sz R j = 0 := by
  unfold inB
  rw [h.len]
  exact inTo_none sz R j n fun i hi => by have := h.hi i hi; omega
theorem Placed.set_ {n m : Nat} {R : List Int} (h : Placed n m R) {i j : Nat} (hi : i < n) (hj : j ≤ m) : Placed n (max m (j + 1)) (R.set i j) := by
  refine ⟨by rw [List.length_set, h.len], fun k hk => ?_, fun k hk => ?_⟩
  · by_cases hik : i = k
    · subst hik
      have : (R.set i (j : Int)).getD i 0 = j := by simp [List.getD_eq_getElem?_getD, h.len, hi]
      omega
    · have : (R.set i (j : Int)).getD k 0 = R.getD k 0 := by simp [List.getD_eq_getElem?_getD, List.getElem?_set, hik]
      have := h.lo k hk
      omega
  · by_cases hik : i = k
    · subst hik
      have : (R.set i (j : Int)).getD i 0 = j := by simp [List.getD_eq_getElem?_getD, h.len, hi]
      omega
    · have : (R.set i (j : Int)).getD k 0 = R.getD k 0 := by simp [List.getD_eq_getElem?_getD, List.getElem?_set, hik]
      have := h.hi k hk
      omega
theorem inB_set {n m : Nat} {R : List Int} (h : Placed n m R) (sz : List Int) {i b : Nat} (hi : i < n) (hno : R.getD i 0 = -1) (j : Nat) : inB sz (R.set i b) j = inB sz R j + if b = j then sz.getD i 0 else 0 := by
  unfold inB
  rw [List.length_set, inTo_set sz R j b i (by rw [h.len]; exact hi) (by omega), h.len]
  congr 1
  by_cases hb : b = j
  · rw [if_pos hb, if_pos ⟨hi, by omega⟩]
  · rw [if_neg hb, if_neg (fun h => hb (by omega))]
/-- Which have their box. -/
def filled (R : List Int) : List Int := R.map fun v => if v < 0 then 0 else v
theorem filled_set (R : List Int) (i j : Nat) : filled (R.set i j) = (filled R).set i j := by
  unfold filled
  rw [List.map_set]
  congr 1
theorem filled_all {n m : Nat} {R : List Int} (h : Placed n m R) (hall : ∀ i, i < n → R.getD i 0 ≠ -1) : filled R = R := by
  apply List.ext_getElem (by simp [filled])
  intro i h1 h2
  have hi : i < n := by rw [← h.len]; exact h2
  have e : R.getD i 0 = R[i] := by simp [List.getD_eq_getElem?_getD, h2]
  have := h.lo i hi
  have := hall i hi
  simp only [filled, List.getElem_map]
  rw [if_neg (by rw [← e]; omega)]
/-- The boxes as the program keeps them. -/
structure Boxes (sz R bs : List Int) (n : Nat) : Prop where
  pl : Placed n bs.length R
  sum : ∀ j, j < bs.length → bs.getD j 0 = inB sz R j
theorem getD_set_eq (l : List Int) (i : Nat) (x : Int) (hi : i < l.length) : (l.set i x).getD i 0 = x := by simp [List.getD_eq_getElem?_getD, hi]
theorem getD_set_ne (l : List Int) (i k : Nat) (x : Int) (h : i ≠ k) : (l.set i x).getD k 0 = l.getD k 0 := by simp [List.getD_eq_getElem?_getD, List.getElem?_set, h]
theorem Boxes.into {sz R bs : List Int} {n i j : Nat} (h : Boxes sz R bs n) (hi : i < n) (hj : j < bs.length) (hno : R.getD i 0 = -1) : Boxes sz (R.set i j) (bs.set j (bs.getD j 0 + sz.getD i 0)) n := by
  refine ⟨?_, fun k hk => ?_⟩
  · have := h.pl.set_ (i := i) (j := j) hi (by omega)
    rw [Nat.max_eq_left (by omega)] at this
    rw [List.length_set]
    exact this
  · rw [List.length_set] at hk
    rw [inB_set h.pl sz hi hno]
    by_cases hjk : j = k
    · subst hjk
      rw [getD_set_eq _ _ _ hj, if_pos rfl, h.sum j hj]
    · rw [getD_set_ne _ _ _ _ hjk, if_neg hjk, h.sum k hk]
      omega
theorem Boxes.more {sz R bs : List Int} {n : Nat} (h : Boxes sz R bs n) : Boxes sz R (bs ++ [0]) n := by
  refine ⟨⟨h.pl.len, h.pl.lo, fun i hi => ?_⟩, fun j hj => ?_⟩
  · have := h.pl.hi i hi
    rw [List.length_append]
    simp only [List.length_cons, List.length_nil]
    omega
  · by_cases hb : j < bs.length
    · rw [← h.sum j hb]
      simp [List.getD_eq_getElem?_getD, List.getElem?_append, hb]
    · have hj' : j = bs.length := by simp at hj; omega
      subst hj'
      rw [h.pl.empty sz (Nat.le_refl _)]
      simp [List.getD_eq_getElem?_getD]
theorem idxF_some {α : Type} {p : α → Bool} {l : List α} (h : l.any p = true) : ∃ k, ∃ hk : k < l.length, idxF p l = k ∧ p l[k] = true ∧ ∀ j, ∀ hj : j < k, p (l[j]'(by omega)) = false := by
  obtain ⟨x, hx, hp⟩ := List.any_eq_true.1 h
  have hlt : l.findIdx p < l.length := List.findIdx_lt_length_of_exists ⟨x, hx, hp⟩
  refine ⟨l.findIdx p, hlt, ?_, List.findIdx_getElem (w := hlt), fun j hj => ?_⟩
  · unfold idxF
    rw [if_pos h]
  · have := List.not_of_lt_findIdx hj
    simpa using this
theorem idxF_no {α : Type} {p : α → Bool} {l : List α} (h : l.any p = false) : idxF p l = -1 := by
  unfold idxF
  rw [if_neg (by rw [h]; simp)]
/-- The program's box is the first one with room. -/
theorem Boxes.fit {sz R bs : List Int} {n : Nat} (h : Boxes sz R bs n) (room x : Int) (hx : x ≤ room) :
    (bs.any (fun y => decide (y + x ≤ room)) = false ∧ IsFit sz R room x bs.length) ∨ ∃ k, k < bs.length ∧ idxF (fun y => decide (y + x ≤ room)) bs = k ∧ IsFit sz R room x k := by
  rcases ha : bs.any (fun y => decide (y + x ≤ room)) with _ | _
  · left
    refine ⟨rfl, by rw [h.pl.empty sz (Nat.le_refl _)]; omega, fun k hk => ?_⟩
    have := List.any_eq_false.1 ha bs[k] (List.getElem_mem hk)
    have e : bs.getD k 0 = bs[k] := by simp [List.getD_eq_getElem?_getD, hk]
    rw [← h.sum k hk, e]
    simpa using this
  · right
    obtain ⟨k, hk, h1, h2, h3⟩ := idxF_some ha
    refine ⟨k, hk, h1, ?_, fun j hj => ?_⟩
    · have e : bs.getD k 0 = bs[k] := by simp [List.getD_eq_getElem?_getD, hk]
      rw [← h.sum k hk, e]
      simpa using h2
    · have e : bs.getD j 0 = bs[j]'(by omega) := by simp [List.getD_eq_getElem?_getD, show j < bs.length by omega]
      have := h3 j hj
      rw [← h.sum j (by omega), e]
      simpa using this
def placesL (n : Nat) : List Int := (List.range n).map fun i : Nat => (i : Int)
theorem placesL_length (n : Nat) : (placesL n).length = n := by simp [placesL]
theorem placesL_succ (n : Nat) : placesL (n + 1) = placesL n ++ [(n : Int)] := by simp [placesL, List.range_succ]
theorem placesL_mem {n i : Nat} (h : i < n) : (i : Int) ∈ placesL n := by
  unfold placesL
  exact List.mem_map.2 ⟨i, List.mem_range.2 h, rfl⟩
theorem placesL_get {n k : Nat} (h : k < n) : (placesL n).getD k 0 = k := by simp [placesL, List.getD_eq_getElem?_getD, h]
theorem placesL_nodup (n : Nat) : (placesL n).Nodup := by
  unfold placesL
  refine List.Pairwise.map _ ?_ List.nodup_range
  intro a b h
  omega
end Go.Proofs.Ytokmialpclcodaa
