/- A stable sort of places by falling values, in plain Lean: insertion and selection make the same list. Conditions: none. -/
import Derived.Test.YtjkfogkpacmdlaaCells
namespace Go.Proofs.Ytjkfogkpacmdlaa
open Go.RowKit

def valZ (sz : List Int) (a : Int) : Int := sz.getD a.toNat 0
/-- Ahead: the greater value; of the same the lesser place. -/
def bef (sz : List Int) (a b : Int) : Prop := valZ sz b < valZ sz a ∨ (valZ sz a = valZ sz b ∧ a < b)
theorem bef_trans {sz : List Int} {a b c : Int} (h : bef sz a b) (k : bef sz b c) : bef sz a c := by unfold bef at *; omega
theorem bef_asymm {sz : List Int} {a b : Int} (h : bef sz a b) (k : bef sz b a) : False := by unfold bef at *; omega
/-- The reference's search for the next one. -/
def pickTo (sz L : List Int) : Nat → Int
  | 0 => -1
  | i + 1 => if hasB L i = false ∧ (pickTo sz L i < 0 ∨ valZ sz (pickTo sz L i) < sz.getD i 0) then (i : Int) else pickTo sz L i
def fallsTo (sz : List Int) : Nat → List Int
  | 0 => []
  | k + 1 => fallsTo sz k ++ [pickTo sz (fallsTo sz k) sz.length]
theorem fallsTo_length (sz : List Int) : ∀ k, (fallsTo sz k).length = k
  | 0 => rfl
  | k + 1 => by rw [fallsTo, List.length_append, fallsTo_length sz k]; rfl
theorem pickTo_range (sz L : List Int) : ∀ m : Nat, -1 ≤ pickTo sz L m ∧ pickTo sz L m < m
  | 0 => by rw [pickTo]; omega
  | m + 1 => by
    have := pickTo_range sz L m
    rw [pickTo]
    split <;> omega
theorem pickTo_best (sz L : List Int) : ∀ m : Nat, (pickTo sz L m = -1 ∧ ∀ i : Nat, i < m → hasB L i = true) ∨
    (0 ≤ pickTo sz L m ∧ hasB L (pickTo sz L m) = false ∧ ∀ i : Nat, i < m → hasB L i = false → (i : Int) = pickTo sz L m ∨ bef sz (pickTo sz L m) i)
  | 0 => .inl ⟨rfl, fun i hi => by omega⟩
  | m + 1 => by
    have hr := pickTo_range sz L m
    rw [pickTo]
    split
    · rename_i h
      refine .inr ⟨by omega, h.1, fun i hi hno => ?_⟩
      by_cases him : i = m
      · exact .inl (by rw [him])
      · right
        rcases pickTo_best sz L m with ⟨h1, h2⟩ | ⟨h1, h2, h3⟩
        · rw [h2 i (by omega)] at hno; cases hno
        · have hv : valZ sz (pickTo sz L m) < valZ sz m := by
            rcases h.2 with h4 | h4
            · omega
            · exact h4
          rcases h3 i (by omega) hno with h4 | h4
          · rw [h4]; exact .inl hv
          · refine bef_trans (.inl hv) h4
    · rename_i h
      rcases pickTo_best sz L m with ⟨h1, h2⟩ | ⟨h1, h2, h3⟩
      · refine .inl ⟨h1, fun i hi => ?_⟩
        by_cases him : i = m
        · subst him
          cases hh : hasB L (i : Int) with
          | true => rfl
          | false => exact absurd ⟨hh, .inl (by omega)⟩ h
        · exact h2 i (by omega)
      · refine .inr ⟨h1, h2, fun i hi hno => ?_⟩
        by_cases him : i = m
        · subst him
          right
          have hv : ¬ valZ sz (pickTo sz L i) < valZ sz i := fun hlt => h ⟨hno, .inr hlt⟩
          unfold bef
          omega
        · exact h3 i (by omega) hno
theorem hasB_mem {L : List Int} {x : Int} : hasB L x = true ↔ x ∈ L := by
  unfold hasB
  rw [List.any_eq_true]
  constructor
  · rintro ⟨y, hy, h⟩
    have : x = y := by simpa using h
    rw [this]; exact hy
  · intro h
    exact ⟨x, h, by simp⟩
theorem hasB_not {L : List Int} {x : Int} : hasB L x = false ↔ x ∉ L := by
  rw [← hasB_mem]
  cases hasB L x <;> simp
/-- A list of all places in that order is what the reference finds. -/
theorem sorted_falls {sz s : List Int} {n : Nat} (hn : sz.length = n) (hl : s.length = n) (hp : s.Pairwise (bef sz)) (hm : ∀ x, x ∈ s ↔ 0 ≤ x ∧ x < n) : ∀ k, k ≤ n → fallsTo sz k = s.take k
  | 0, _ => rfl
  | k + 1, hk => by
    have ih := sorted_falls hn hl hp hm k (by omega)
    have hkl : k < s.length := by omega
    rw [fallsTo, ih, List.take_succ_eq_append_getElem hkl, hn]
    congr 2
    have hpg := List.pairwise_iff_getElem.1 hp
    have hsk := (hm s[k]).1 (List.getElem_mem hkl)
    obtain ⟨c, hc⟩ := Int.eq_ofNat_of_zero_le hsk.1
    have hcn : c < n := by omega
    have hnot : s[k] ∉ s.take k := fun h => by
      obtain ⟨i, hi, he⟩ := List.mem_take_iff_getElem.1 h
      have := hpg i k (by omega) hkl (by omega)
      rw [he] at this
      exact bef_asymm this this
    rcases pickTo_best sz (s.take k) n with ⟨_, h2⟩ | ⟨h1, h2, h3⟩
    · have := h2 c hcn
      rw [← hc] at this
      exact absurd (hasB_mem.1 this) hnot
    · have hr := pickTo_range sz (s.take k) n
      have hpm : pickTo sz (s.take k) n ∈ s := (hm _).2 ⟨h1, hr.2⟩
      have hps : pickTo sz (s.take k) n = s[k] ∨ bef sz s[k] (pickTo sz (s.take k) n) := by
        obtain ⟨i, hi, he⟩ := List.getElem_of_mem hpm
        rcases Nat.lt_trichotomy i k with h | h | h
        · exact absurd (List.mem_take_iff_getElem.2 ⟨i, by omega, he⟩) (hasB_not.1 h2)
        · subst h; exact .inl he.symm
        · right
          rw [← he]
          exact hpg k i hkl hi h
      rcases h3 c hcn (by rw [← hc]; exact hasB_not.2 hnot) with h4 | h4
      · rw [← h4, hc]
      · rw [← hc] at h4
        rcases hps with h5 | h5
        · exact h5
        · exact (bef_asymm h4 h5).elim

/-! Insertion. -/
def restL (n i : Nat) : List Int := (List.range (n - i)).map fun q : Nat => ((i + q : Nat) : Int)
theorem restL_cons {n i : Nat} (h : i < n) : restL n i = (i : Int) :: restL n (i + 1) := by
  unfold restL
  obtain ⟨d, hd⟩ : ∃ d, n - i = d + 1 := ⟨n - i - 1, by omega⟩
  rw [hd, List.range_succ_eq_map, List.map_cons, List.map_map, show n - (i + 1) = d by omega]
  congr 1
  refine List.map_congr_left fun q _ => ?_
  show ((i + (q + 1) : Nat) : Int) = ((i + 1 + q : Nat) : Int)
  congr 1
  omega
/-- The first i are in order; the rest lies as it lay. -/
structure SortSt (sz : List Int) (n i : Nat) (u : List Int) : Prop where
  split : ∃ P, u = P ++ restL n i ∧ P.length = i ∧ P.Pairwise (bef sz) ∧ ∀ x, x ∈ P ↔ 0 ≤ x ∧ x < i
/-- One is on its way to its place j. -/
structure InSt (sz : List Int) (n i j : Nat) (u : List Int) : Prop where
  split : ∃ P S, u = P ++ (i : Int) :: (S ++ restL n (i + 1)) ∧ P.length = j ∧ (P ++ S).length = i ∧ (P ++ S).Pairwise (bef sz) ∧ (∀ x, x ∈ P ++ S ↔ 0 ≤ x ∧ x < i) ∧ ∀ x ∈ S, valZ sz x < valZ sz i
theorem sort_start (sz : List Int) (n : Nat) : SortSt sz n 0 (restL n 0) := ⟨[], rfl, rfl, .nil, fun x => by simp; try omega⟩
theorem sort_enter {sz : List Int} {n i : Nat} {u : List Int} (h : SortSt sz n i u) (hi : i < n) : InSt sz n i i u := by
  obtain ⟨P, h1, h2, h3, h4⟩ := h.split
  exact ⟨P, [], by rw [h1, restL_cons hi]; rfl, h2, by simpa using h2, by simpa using h3, by simpa using h4, by simp⟩
theorem in_length {sz : List Int} {n i j : Nat} {u : List Int} (h : InSt sz n i j u) (hi : i < n) : u.length = n := by
  obtain ⟨P, S, h1, h2, h3, _⟩ := h.split
  rw [List.length_append] at h3
  rw [h1, List.length_append, List.length_cons, List.length_append]
  unfold restL
  rw [List.length_map, List.length_range]
  omega
theorem in_here {sz : List Int} {n i j : Nat} {u : List Int} (h : InSt sz n i j u) : u.getD j 0 = i ∧ j ≤ i := by
  obtain ⟨P, S, h1, h2, h3, _⟩ := h.split
  rw [List.length_append] at h3
  refine ⟨?_, by omega⟩
  rw [h1, List.getD_eq_getElem?_getD, List.getElem?_append_right (by omega), h2, Nat.sub_self]
  rfl
theorem in_last {sz : List Int} {n i j : Nat} {u : List Int} (h : InSt sz n i (j + 1) u) : ∃ P x, ∃ S, u = P ++ x :: (i : Int) :: (S ++ restL n (i + 1)) ∧ P.length = j ∧ u.getD j 0 = x ∧ 0 ≤ x ∧ x < i ∧ (P ++ x :: S).Pairwise (bef sz) ∧ (P ++ x :: S).length = i ∧ (∀ y, y ∈ P ++ x :: S ↔ 0 ≤ y ∧ y < i) ∧ ∀ y ∈ S, valZ sz y < valZ sz i := by
  obtain ⟨P, S, h1, h2, h3, h4, h5, h6⟩ := h.split
  obtain ⟨P', x, rfl⟩ : ∃ P' x, P = P' ++ [x] := by
    rcases List.eq_nil_or_concat P with rfl | ⟨P', x, rfl⟩
    · simp at h2
    · exact ⟨P', x, by simp⟩
  have hP : P'.length = j := by simp at h2; omega
  rw [List.append_assoc] at h1 h3 h4 h5
  simp only [List.singleton_append] at h1 h3 h4 h5
  have hx := (h5 x).1 (by simp)
  refine ⟨P', x, S, h1, hP, ?_, hx.1, hx.2, h4, h3, h5, h6⟩
  rw [h1, List.getD_eq_getElem?_getD, List.getElem?_append_right (by omega), hP, Nat.sub_self]
  rfl
theorem in_swap {sz : List Int} {n i j : Nat} {u : List Int} (h : InSt sz n i (j + 1) u) (hv : valZ sz (u.getD j 0) < valZ sz i) : InSt sz n i j ((u.set (j + 1) (u.getD j 0)).set j i) := by
  obtain ⟨P, x, S, h1, h2, h3, h4, h5, h6, h7, h8, h9⟩ := in_last h
  rw [h3] at hv ⊢
  refine ⟨P, x :: S, ?_, h2, h7, h6, h8, fun y hy => ?_⟩
  · rw [h1, List.set_append_right _ _ (by omega), show j + 1 - P.length = 1 by omega, List.set_append_right _ _ (by omega), show j - P.length = 0 by omega]
    rfl
  · rcases List.mem_cons.1 hy with rfl | hy
    · exact hv
    · exact h9 y hy
theorem in_done {sz : List Int} {n i j : Nat} {u : List Int} (h : InSt sz n i j u) (hv : j = 0 ∨ ∃ k, j = k + 1 ∧ ¬ valZ sz (u.getD k 0) < valZ sz i) : SortSt sz n (i + 1) u := by
  have key : ∀ P S : List Int, (P ++ S).Pairwise (bef sz) → (∀ x ∈ P, bef sz x i) → (∀ x ∈ S, bef sz i x) → (P ++ (i : Int) :: S).Pairwise (bef sz) := by
    intro P S h1 h2 h3
    obtain ⟨a1, a2, a3⟩ := List.pairwise_append.1 h1
    refine List.pairwise_append.2 ⟨a1, List.pairwise_cons.2 ⟨h3, a2⟩, fun x hx y hy => ?_⟩
    rcases List.mem_cons.1 hy with rfl | hy
    · exact h2 x hx
    · exact a3 x hx y hy
  obtain ⟨P, S, h1, h2, h3, h4, h5, h6⟩ := h.split
  have hP : ∀ x ∈ P, bef sz x i := by
    rcases hv with rfl | ⟨k, rfl, hk⟩
    · have : P = [] := List.eq_nil_of_length_eq_zero h2
      rw [this]; simp
    · obtain ⟨P', z, rfl⟩ : ∃ P' z, P = P' ++ [z] := by
        rcases List.eq_nil_or_concat P with rfl | ⟨P', x, rfl⟩
        · simp at h2
        · exact ⟨P', x, by simp⟩
      have hPk : P'.length = k := by simp at h2; omega
      have hz : u.getD k 0 = z := by
        rw [h1, List.getD_eq_getElem?_getD, List.append_assoc, List.getElem?_append_right (by omega), hPk, Nat.sub_self]
        rfl
      rw [hz] at hk
      have hzi := (h5 z).1 (by simp)
      have hbz : bef sz z i := by unfold bef; omega
      intro x hx
      rcases List.mem_append.1 hx with hx | hx
      · have a1 := (List.pairwise_append.1 (List.pairwise_append.1 h4).1).2.2 x hx z (by simp)
        exact bef_trans a1 hbz
      · rw [List.mem_singleton] at hx
        rw [hx]; exact hbz
  refine ⟨P ++ (i : Int) :: S, by rw [h1, List.append_assoc]; rfl, ?_, key P S h4 hP (fun x hx => .inl (h6 x hx)), fun x => ?_⟩
  · rw [List.length_append] at h3 ⊢
    rw [List.length_cons]
    omega
  · have := h5 x
    rw [List.mem_append] at this ⊢
    rw [List.mem_cons]
    constructor
    · rintro (hx | rfl | hx)
      · have := this.1 (.inl hx); omega
      · omega
      · have := this.1 (.inr hx); omega
    · intro hx
      by_cases hxi : x = i
      · exact .inr (.inl hxi)
      · rcases this.2 (by omega) with h | h
        · exact .inl h
        · exact .inr (.inr h)
theorem sort_end {sz : List Int} {n : Nat} {u : List Int} (hn : sz.length = n) (h : SortSt sz n n u) : u = fallsTo sz n ∧ u.Nodup ∧ ∀ x, x ∈ u ↔ 0 ≤ x ∧ x < n := by
  obtain ⟨P, h1, h2, h3, h4⟩ := h.split
  have e : restL n n = [] := by unfold restL; rw [Nat.sub_self]; rfl
  rw [e, List.append_nil] at h1
  subst h1
  have := sorted_falls hn h2 h3 h4 n (Nat.le_refl _)
  rw [List.take_of_length_le (by omega)] at this
  refine ⟨this.symm, h3.imp fun {a b} hab e => ?_, h4⟩
  subst e
  exact bef_asymm hab hab
/-- The list that insertion makes is there, whatever the values. -/
theorem sort_exists (sz : List Int) (n : Nat) : ∀ i, i ≤ n → ∃ u, SortSt sz n i u
  | 0, _ => ⟨_, sort_start sz n⟩
  | i + 1, h => by
    obtain ⟨u, hu⟩ := sort_exists sz n i (by omega)
    have key : ∀ j u, InSt sz n i j u → ∃ u, SortSt sz n (i + 1) u := by
      intro j
      induction j with
      | zero => exact fun u h => ⟨u, in_done h (.inl rfl)⟩
      | succ j ih =>
        intro u h
        by_cases hv : valZ sz (u.getD j 0) < valZ sz i
        · exact ih _ (in_swap h hv)
        · exact ⟨u, in_done h (.inr ⟨j, rfl, hv⟩)⟩
    exact key i u (sort_enter hu (by omega))
theorem falls_all {sz : List Int} {n : Nat} (hn : sz.length = n) : (fallsTo sz n).Nodup ∧ ∀ x, x ∈ fallsTo sz n ↔ 0 ≤ x ∧ x < n := by
  obtain ⟨u, hu⟩ := sort_exists sz n n (Nat.le_refl _)
  obtain ⟨rfl, h⟩ := sort_end hn hu
  exact h
theorem falls_in {sz : List Int} {n : Nat} (hn : sz.length = n) : ∀ k, k < n → 0 ≤ (fallsTo sz n).getD k 0 ∧ (fallsTo sz n).getD k 0 < n := fun k hk => by
  have hl := fallsTo_length sz n
  rw [getD_at _ k (by omega) 0]
  exact ((falls_all hn).2 _).1 (List.getElem_mem _)
end Go.Proofs.Ytjkfogkpacmdlaa
