/- A row in blocks: each block sorted, then blocks merged two by two, in plain Lean. Conditions: none. -/
import Derived.Test.YtjkfogkpacmdlaaStbP
import Derived.Test.YtjkfogkpacmdlaaSortP
namespace Go.Proofs.Ytjkfogkpacmdlaa
open Go.RowKit

/-- A part of a row. -/
def seg (u : List Int) (p l : Nat) : List Int := (u.drop p).take l
theorem seg_len (u : List Int) (p l : Nat) : (seg u p l).length = min l (u.length - p) := by unfold seg; rw [List.length_take, List.length_drop]
theorem seg_parts (u : List Int) (a l : Nat) : u = u.take a ++ (seg u a l ++ u.drop (a + l)) := by
  unfold seg
  rw [← List.drop_drop, List.take_append_drop, List.take_append_drop]
theorem seg_two (u : List Int) (a l k : Nat) : seg u a (l + k) = seg u a l ++ seg u (a + l) k := by
  unfold seg
  rw [← List.drop_drop, List.take_add]
theorem seg_nil {u : List Int} {p : Nat} (l : Nat) (h : u.length ≤ p) : seg u p l = [] := by unfold seg; rw [List.drop_of_length_le h, List.take_nil]
theorem seg_all {u : List Int} {l : Nat} (h : u.length ≤ l) : seg u 0 l = u := by unfold seg; rw [List.drop_zero, List.take_of_length_le h]
theorem seg_long {u : List Int} {p l k : Nat} (h : u.length ≤ p + l) (hk : l ≤ k) : seg u p k = seg u p l := by
  unfold seg
  rw [List.take_of_length_le (by rw [List.length_drop]; omega), List.take_of_length_le (by rw [List.length_drop]; omega)]
theorem put_seg {u S : List Int} {a l : Nat} (ha : a ≤ u.length) (hS : S.length = (seg u a l).length) :
    (u.take a ++ (S ++ u.drop (a + l))).length = u.length ∧ seg (u.take a ++ (S ++ u.drop (a + l))) a l = S ∧ ∀ p q, p + q ≤ a ∨ a + l ≤ p → seg (u.take a ++ (S ++ u.drop (a + l))) p q = seg u p q := by
  rw [seg_len] at hS
  have hta : (u.take a).length = a := by rw [List.length_take]; omega
  have hd : ∀ p, a ≤ p → (u.take a ++ (S ++ u.drop (a + l))).drop p = (S ++ u.drop (a + l)).drop (p - a) := fun p hp => by
    rw [List.drop_append, List.drop_of_length_le (by omega), hta, List.nil_append]
  refine ⟨?_, ?_, fun p q hpq => ?_⟩
  · simp only [List.length_append, List.length_take, List.length_drop]
    omega
  · unfold seg
    rw [hd a (Nat.le_refl _), Nat.sub_self, List.drop_zero]
    by_cases h : a + l ≤ u.length
    · rw [List.take_append_of_le_length (by omega), List.take_of_length_le (by omega)]
    · rw [List.drop_of_length_le (by omega : u.length ≤ a + l), List.append_nil, List.take_of_length_le (by omega)]
  · rcases hpq with h | h
    · unfold seg
      have e : u = u.take a ++ u.drop a := (List.take_append_drop a u).symm
      conv => rhs; rw [e]
      rw [List.drop_append_of_le_length (by omega), List.drop_append_of_le_length (by omega), List.take_append_of_le_length (by rw [List.length_drop]; omega), List.take_append_of_le_length (by rw [List.length_drop]; omega)]
    · have hul : (u.take a ++ (S ++ u.drop (a + l))).length = u.length := by
        simp only [List.length_append, List.length_take, List.length_drop]
        omega
      by_cases hal : a + l ≤ u.length
      · unfold seg
        rw [hd p (by omega), List.drop_append, List.drop_of_length_le (by omega), List.nil_append, List.drop_drop]
        congr 2
        omega
      · rw [seg_nil (u := u) q (by omega), seg_nil q (by omega)]
theorem restL_getD {n i : Nat} (h : i < n) : (restL n 0).getD i 0 = (i : Int) := by
  unfold restL
  rw [getD_at _ _ (by simpa using h)]
  simp
theorem restL_len (n : Nat) : (restL n 0).length = n := by unfold restL; simp
theorem seg_rest {n p l : Nat} {x : Int} (h : x ∈ seg (restL n 0) p l) : (p : Int) ≤ x ∧ x < (p + l : Nat) ∧ x < n ∧ 0 ≤ x := by
  obtain ⟨i, hi, rfl⟩ := List.getElem_of_mem h
  have hi' := hi
  rw [seg_len, restL_len] at hi'
  have e : (seg (restL n 0) p l)[i] = ((p + i : Nat) : Int) := by
    simp only [seg, List.getElem_take, List.getElem_drop]
    rw [← getD_at (restL n 0) (p + i) (by rw [restL_len]; omega) 0, restL_getD (by omega)]
  rw [e]
  omega
theorem seg_up (n p l : Nat) : (seg (restL n 0) p l).Pairwise (· < ·) := by
  have : (restL n 0).Pairwise (· < ·) := by
    refine List.pairwise_iff_getElem.2 fun i j hi hj h => ?_
    have hj' := hj
    rw [restL_len] at hj'
    rw [← getD_at _ i hi 0, ← getD_at _ j hj 0, restL_getD (by omega), restL_getD hj']
    omega
  exact this.sublist ((List.take_sublist _ _).trans (List.drop_sublist _ _))

/-- Blocks ahead of `k` are sorted, the others as they were. -/
structure StI (V : Int → Int) (n bs k : Nat) (u : List Int) : Prop where
  len : u.length = n
  done : ∀ i, i < k → Mrg V (seg u (i * bs) bs) (seg (restL n 0) (i * bs) bs)
  rest : ∀ i, k ≤ i → seg u (i * bs) bs = seg (restL n 0) (i * bs) bs
/-- Each block is sorted. -/
structure StA (V : Int → Int) (n bs : Nat) (u : List Int) : Prop where
  len : u.length = n
  all : ∀ i, Mrg V (seg u (i * bs) bs) (seg (restL n 0) (i * bs) bs)
/-- Blocks ahead of `2 k` are merged two by two. -/
structure StM (V : Int → Int) (n bs k : Nat) (u : List Int) : Prop where
  len : u.length = n
  done : ∀ i, i < k → Mrg V (seg u (i * (2 * bs)) (2 * bs)) (seg (restL n 0) (i * (2 * bs)) (2 * bs))
  rest : ∀ i, 2 * k ≤ i → Mrg V (seg u (i * bs) bs) (seg (restL n 0) (i * bs) bs)
theorem Mrg.nil (V : Int → Int) : Mrg V [] [] := ⟨.nil, List.Perm.refl _⟩
theorem StI.start (V : Int → Int) (n bs : Nat) : StI V n bs 0 (restL n 0) := ⟨restL_len n, fun i h => absurd h (by omega), fun _ _ => rfl⟩
theorem mul_far {i j bs : Nat} (h : i < j) : i * bs + bs ≤ j * bs := by
  have := Nat.mul_le_mul_right bs (show i + 1 ≤ j from h)
  rwa [Nat.succ_mul] at this
theorem StI.step {V : Int → Int} {n bs k : Nat} {u S : List Int} (h : StI V n bs k u) (hk : k * bs ≤ n) (hS : Mrg V S (seg u (k * bs) bs)) : StI V n bs (k + 1) (u.take (k * bs) ++ (S ++ u.drop (k * bs + bs))) := by
  obtain ⟨e1, e2, e3⟩ := put_seg (u := u) (S := S) (a := k * bs) (l := bs) (by rw [h.len]; exact hk) hS.len
  refine ⟨by rw [e1, h.len], fun i hi => ?_, fun i hi => ?_⟩
  · by_cases hik : i = k
    · subst hik
      rw [e2, ← h.rest i (Nat.le_refl _)]
      exact hS
    · rw [e3 _ _ (.inl (mul_far (by omega)))]
      exact h.done i (by omega)
  · rw [e3 _ _ (.inr (mul_far (by omega)))]
    exact h.rest i (by omega)
theorem StI.all {V : Int → Int} {n bs k : Nat} {u : List Int} (h : StI V n bs k u) (hk : n ≤ k * bs) : StA V n bs u := by
  refine ⟨h.len, fun i => ?_⟩
  by_cases hi : i < k
  · exact h.done i hi
  · have := Nat.mul_le_mul_right bs (show k ≤ i by omega)
    rw [seg_nil _ (by rw [h.len]; omega), seg_nil _ (by rw [restL_len]; omega)]
    exact Mrg.nil V
theorem StA.start {V : Int → Int} {n bs : Nat} {u : List Int} (h : StA V n bs u) : StM V n bs 0 u := ⟨h.len, fun i h => absurd h (by omega), fun i _ => h.all i⟩
theorem two_k (k bs : Nat) : 2 * k * bs = k * (2 * bs) := by rw [Nat.mul_comm 2 k, Nat.mul_assoc]
theorem two_k1 (k bs : Nat) : (2 * k + 1) * bs = k * (2 * bs) + bs := by rw [Nat.succ_mul, two_k]
/-- The two blocks that come next: what symMerge wants of them. -/
theorem StM.two {V : Int → Int} {n bs k : Nat} {u : List Int} (h : StM V n bs k u) {a : Nat} (ha : k * (2 * bs) = a) (hlt : a + bs < n) :
    ∃ L R, L = seg u a bs ∧ R = seg u (a + bs) bs ∧ u = u.take a ++ (L ++ (R ++ u.drop (a + 2 * bs))) ∧ (u.take a).length = a ∧ L.length = bs ∧ R.length = min bs (n - a - bs) ∧ SrtV V L ∧ SrtV V R ∧ (∀ x ∈ L, ∀ y ∈ R, x < y) ∧ (∀ x ∈ L, 0 ≤ x ∧ x < n) ∧ (∀ x ∈ R, 0 ≤ x ∧ x < n)
      ∧ ∀ S, Mrg V S (L ++ R) → StM V n bs (k + 1) (u.take a ++ (S ++ u.drop (a + 2 * bs))) := by
  have m1 := h.rest (2 * k) (Nat.le_refl _)
  have m2 := h.rest (2 * k + 1) (by omega)
  rw [two_k, ha] at m1
  rw [two_k1, ha] at m2
  have hlen := h.len
  have eLR : seg u a (2 * bs) = seg u a bs ++ seg u (a + bs) bs := by rw [show 2 * bs = bs + bs by omega, seg_two]
  refine ⟨_, _, rfl, rfl, ?_, ?_, ?_, ?_, m1.srt, m2.srt, ?_, ?_, ?_, ?_⟩
  · have := seg_parts u a (2 * bs)
    rwa [eLR, List.append_assoc] at this
  · rw [List.length_take]; omega
  · rw [seg_len]; omega
  · rw [seg_len]; omega
  · intro x hx y hy
    have h1 := seg_rest (m1.perm.mem_iff.1 hx)
    have h2 := seg_rest (m2.perm.mem_iff.1 hy)
    omega
  · intro x hx
    have h1 := seg_rest (m1.perm.mem_iff.1 hx)
    exact ⟨h1.2.2.2, h1.2.2.1⟩
  · intro x hx
    have h1 := seg_rest (m2.perm.mem_iff.1 hx)
    exact ⟨h1.2.2.2, h1.2.2.1⟩
  · intro S hS
    rw [← eLR] at hS
    obtain ⟨e1, e2, e3⟩ := put_seg (u := u) (S := S) (a := a) (l := 2 * bs) (by omega) hS.len
    refine ⟨by rw [e1, hlen], fun i hi => ?_, fun i hi => ?_⟩
    · by_cases hik : i = k
      · subst hik
        rw [ha, e2]
        refine ⟨hS.srt, hS.perm.trans ?_⟩
        rw [eLR, show 2 * bs = bs + bs by omega, seg_two]
        exact m1.perm.append m2.perm
      · have := mul_far (i := i) (j := k) (bs := 2 * bs) (by omega)
        rw [e3 _ _ (.inl (by omega))]
        exact h.done i (by omega)
    · have := Nat.mul_le_mul_right bs hi
      rw [two_k, Nat.succ_mul] at this
      rw [e3 _ _ (.inr (by omega))]
      exact h.rest i (by omega)
theorem StM.all {V : Int → Int} {n bs k : Nat} {u : List Int} (h : StM V n bs k u) (hk : n ≤ k * (2 * bs) + bs) : StA V n (2 * bs) u := by
  refine ⟨h.len, fun i => ?_⟩
  by_cases hi : i < k
  · exact h.done i hi
  · by_cases hik : i = k
    · subst hik
      have m1 := h.rest (2 * i) (Nat.le_refl _)
      rw [two_k] at m1
      rw [seg_long (u := u) (l := bs) (by rw [h.len]; exact hk) (by omega), seg_long (u := restL n 0) (l := bs) (by rw [restL_len]; exact hk) (by omega)]
      exact m1
    · have := mul_far (i := k) (j := i) (bs := 2 * bs) (by omega)
      rw [seg_nil _ (by rw [h.len]; omega), seg_nil _ (by rw [restL_len]; omega)]
      exact Mrg.nil V
theorem StM.all' {V : Int → Int} {n bs k : Nat} {u : List Int} (h : StM V n bs k u) (hk : n ≤ k * (2 * bs)) : StA V n (2 * bs) u := h.all (by omega)
theorem StA.end {V : Int → Int} {n bs : Nat} {u : List Int} (h : StA V n bs u) (hb : n ≤ bs) : Mrg V u (restL n 0) := by
  have := h.all 0
  rwa [Nat.zero_mul, seg_all (by rw [h.len]; exact hb), seg_all (by rw [restL_len]; exact hb)] at this
end Go.Proofs.Ytjkfogkpacmdlaa
