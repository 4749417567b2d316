/- Rings without a short cut, in plain Lean. Conditions: none. -/
import Derived.Test.YtfaifadfilndmaaDoorRowP
import Derived.Test.YtfaifadfilndmaaDoorNearP
namespace Go.Proofs.YtfaifadfilndmaaDoor

def seenW (l : List Nat) : BitVec 32 := l.foldl (fun w i => wOr w (wShl w1 i)) w0
theorem seenW_snoc (l : List Nat) (i : Nat) : seenW (l ++ [i]) = wOr (seenW l) (wShl w1 i) := by simp [seenW]
theorem seenW_bit (l : List Nat) (j : Nat) : (seenW l).getLsbD j = (decide (j < 32) && l.contains j) := by
  have h : ∀ (q : List Nat) (w : BitVec 32), (q.foldl (fun w i => wOr w (wShl w1 i)) w).getLsbD j = (w.getLsbD j || (decide (j < 32) && q.contains j)) := by
    intro q
    induction q with
    | nil => intro w; simp
    | cons a q ih =>
      intro w
      rw [List.foldl_cons, ih, b_or, b_one, List.contains_cons, Bool.or_assoc]
      congr 1
      rw [← Bool.and_or_distrib_left]
      rfl
  unfold seenW
  rw [h, b_0, Bool.false_or]
def wantW (l : List Nat) (fin : Bool) : BitVec 32 := if fin then wOr (wShl w1 (lastN l)) (wShl w1 (l.getD 0 0)) else wShl w1 (lastN l)
def pickB (t : List (BitVec 32)) (l : List Nat) (i : Nat) (fin : Bool) : Bool := l.isEmpty || (wAnd (lw t i) (seenW l) == wantW l fin)
/-- The search: the first ring, from a path on. -/
def bareF (t : List (BitVec 32)) (n : Nat) : Nat → List Nat → Option (List Nat)
  | 0, l => some l
  | f + 1, l => (List.range n).findSome? fun i => if canGo t l i then (if pickB t l i (f == 0) then bareF t n f (l ++ [i]) else none) else none
theorem bareF_bits {n : Nat} (hn : n < 32) (t : List (BitVec 32)) (f : Nat) (l : List Nat) : bareF t n (f + 1) l = (bitsL (nextW t n l)).findSome? fun i => if pickB t l i (f == 0) then bareF t n f (l ++ [i]) else none := by
  rw [nextW_bits hn, findSome_filter]
  rfl
theorem bareF_length (t : List (BitVec 32)) (n : Nat) : ∀ (f : Nat) (l u : List Nat), bareF t n f l = some u → u.length = l.length + f
  | 0, l, u, h => by injection h with h; rw [h]; rfl
  | f + 1, l, u, h => by
    unfold bareF at h
    obtain ⟨i, _, hi⟩ := findSome_from h
    split at hi
    · split at hi
      · have := bareF_length t n f _ _ hi
        rw [List.length_append, List.length_singleton] at this
        omega
      · cases hi
    · cases hi
def rowB (es : List Ed) (l : List Nat) : Bool := (List.range l.length).all fun i => (List.range i).all fun j => !(decide (j + 1 < i) && adj es (l.getD i 0) (l.getD j 0))
def bareB (es : List Ed) (l : List Nat) : Bool := (List.range l.length).all fun i => (List.range i).all fun j => !(adj es (l.getD i 0) (l.getD j 0) && decide (i - j ≠ 1) && decide (i - j ≠ l.length - 1))
theorem rowB_iff (es : List Ed) (l : List Nat) : rowB es l = true ↔ ∀ i j, i < l.length → j + 1 < i → adj es (l.getD i 0) (l.getD j 0) = false := by
  unfold rowB
  simp only [List.all_eq_true, List.mem_range, Bool.not_eq_true', Bool.and_eq_false_iff, decide_eq_false_iff_not]
  refine ⟨fun h i j hi hj => (h i hi j (by omega)).resolve_left (fun hc => hc hj), fun h i hi j _ => ?_⟩
  by_cases hj : j + 1 < i
  · exact .inr (h i j hi hj)
  · exact .inl hj
theorem bareB_iff (es : List Ed) (l : List Nat) : bareB es l = true ↔ ∀ i j, i < l.length → j < i → i - j ≠ 1 → i - j ≠ l.length - 1 → adj es (l.getD i 0) (l.getD j 0) = false := by
  unfold bareB
  simp only [List.all_eq_true, List.mem_range, Bool.not_eq_true', Bool.and_eq_false_iff, decide_eq_false_iff_not]
  refine ⟨fun h i j hi hj h1 h2 => ?_, fun h i hi j hj => ?_⟩
  · rcases h i hi j hj with (h3 | h3) | h3
    · exact h3
    · exact absurd h1 h3
    · exact absurd h2 h3
  · by_cases h1 : i - j ≠ 1
    · by_cases h2 : i - j ≠ l.length - 1
      · exact .inl (.inl (h i j hi hj h1 h2))
      · exact .inr h2
    · exact .inl (.inr h1)
theorem getD_app {l : List Nat} {i k : Nat} (h : k < l.length) : (l ++ [i]).getD k 0 = l.getD k 0 := by simp [List.getD_eq_getElem?_getD, List.getElem?_append_left h]
theorem getD_end (l : List Nat) (i : Nat) : (l ++ [i]).getD l.length 0 = i := by simp [List.getD_eq_getElem?_getD]
theorem mem_getD {l : List Nat} {j : Nat} : l.contains j = true ↔ ∃ a, a < l.length ∧ l.getD a 0 = j := by
  rw [List.contains_iff_mem]
  refine ⟨fun h => ?_, fun ⟨a, ha, he⟩ => ?_⟩
  · obtain ⟨a, ha, he⟩ := List.mem_iff_getElem.1 h
    exact ⟨a, ha, by rw [getD_at l a ha, he]⟩
  · rw [getD_at l a ha] at he
    exact he ▸ List.getElem_mem ha
theorem nodup_getD {l : List Nat} (h : l.Nodup) {a b : Nat} (ha : a < l.length) (hb : b < l.length) (he : l.getD a 0 = l.getD b 0) : a = b := by
  rw [getD_at l a ha, getD_at l b hb] at he
  have hp := List.pairwise_iff_getElem.1 h
  rcases Nat.lt_trichotomy a b with h1 | h1 | h1
  · exact absurd he (hp a b ha hb h1)
  · exact h1
  · exact absurd he.symm (hp b a hb ha h1)
theorem lastN_getD {l : List Nat} (h : 0 < l.length) : lastN l = l.getD (l.length - 1) 0 := lastN_at (by omega)
theorem word_eq {N : Nat} {es : List Ed} (hg : GoodG N es) {i : Nat} (hi : i < N) (l : List Nat) (x : BitVec 32) : (wAnd (lw (nearL N es) i) (seenW l) == x) = true ↔ ∀ j, j < 32 → (x.getLsbD j = true ↔ (adj es i j = true ∧ l.contains j = true)) := by
  rw [beq_iff_eq]
  constructor
  · intro h j hj
    rw [← h, b_and, near_bit hg hi, seenW_bit, Bool.and_eq_true, Bool.and_eq_true]
    simp [hj]
  · intro h
    refine w_ext fun j hj => ?_
    rw [b_and, near_bit hg hi, seenW_bit, Bool.eq_iff_iff, h j hj, Bool.and_eq_true, Bool.and_eq_true]
    simp [hj]
theorem pick_row {N : Nat} {es : List Ed} (hg : GoodG N es) {l : List Nat} (hok : RowOk N l) (hl : 0 < l.length) (hr : rowB es l = true) {i : Nat} (hi : i < N) (ha : adj es (lastN l) i = true) : pickB (nearL N es) l i false = rowB es (l ++ [i]) := by
  have hN := hg.n10
  have hne : l.isEmpty = false := by cases l <;> simp at hl ⊢
  have hlast : lastN l < 32 := by
    have := hok.2 (lastN l) (by rw [← List.contains_iff_mem]; exact mem_getD.2 ⟨l.length - 1, by omega, (lastN_getD hl).symm⟩)
    omega
  rw [Bool.eq_iff_iff]
  unfold pickB wantW
  rw [hne, Bool.false_or, if_neg (by simp), word_eq hg hi, rowB_iff]
  rw [rowB_iff] at hr
  constructor
  · intro h a b hal hb
    rw [List.length_append, List.length_singleton] at hal
    by_cases haa : a < l.length
    · rw [getD_app haa, getD_app (by omega)]
      exact hr a b haa hb
    · obtain rfl : a = l.length := by omega
      rw [getD_end, getD_app (by omega)]
      refine Classical.byContradiction fun hc => ?_
      have hc' : adj es i (l.getD b 0) = true := by simpa using hc
      have hm : l.contains (l.getD b 0) = true := mem_getD.2 ⟨b, by omega, rfl⟩
      have hb32 : l.getD b 0 < 32 := by
        have := hok.2 (l.getD b 0) (by rw [← List.contains_iff_mem]; exact hm)
        omega
      have h1 := (h (l.getD b 0) hb32).2 ⟨hc', hm⟩
      rw [b_one, Bool.and_eq_true, decide_eq_true_iff, decide_eq_true_iff, lastN_getD hl] at h1
      have := nodup_getD hok.1 (by omega) (by omega) h1.2
      omega
  · intro h j hj
    rw [b_one, Bool.and_eq_true, decide_eq_true_iff, decide_eq_true_iff]
    constructor
    · rintro ⟨_, rfl⟩
      exact ⟨by rw [adj_symm]; exact ha, mem_getD.2 ⟨l.length - 1, by omega, (lastN_getD hl).symm⟩⟩
    · rintro ⟨h1, h2⟩
      obtain ⟨b, hb, rfl⟩ := mem_getD.1 h2
      refine ⟨hj, ?_⟩
      rw [lastN_getD hl]
      by_cases hbl : b = l.length - 1
      · rw [hbl]
      · have h3 := h l.length b (by rw [List.length_append, List.length_singleton]; omega) (by omega)
        rw [getD_end, getD_app hb, h1] at h3
        cases h3
theorem pick_fin {N : Nat} {es : List Ed} (hg : GoodG N es) {l : List Nat} (hok : RowOk N l) (hl : 3 ≤ l.length) (hr : rowB es l = true) {i : Nat} (hi : i < N) (ha : adj es (lastN l) i = true) : pickB (nearL N es) l i true = (adj es i (l.getD 0 0) && bareB es (l ++ [i])) := by
  have hN := hg.n10
  have hne : l.isEmpty = false := by cases l <;> simp at hl ⊢
  have hlow : ∀ b, b < l.length → l.getD b 0 < 32 := fun b hb => by
    have := hok.2 (l.getD b 0) (by rw [← List.contains_iff_mem]; exact mem_getD.2 ⟨b, hb, rfl⟩)
    omega
  rw [Bool.eq_iff_iff]
  unfold pickB wantW
  rw [hne, Bool.false_or, if_pos rfl, word_eq hg hi, Bool.and_eq_true, bareB_iff]
  rw [rowB_iff] at hr
  constructor
  · intro h
    have hfirst : adj es i (l.getD 0 0) = true := by
      have h1 := (h (l.getD 0 0) (hlow 0 (by omega))).1 (by
        rw [b_or, b_one, b_one, Bool.or_eq_true, Bool.and_eq_true, Bool.and_eq_true, decide_eq_true_iff, decide_eq_true_iff, decide_eq_true_iff]
        exact .inr ⟨hlow 0 (by omega), rfl⟩)
      exact h1.1
    refine ⟨hfirst, fun a b hal hb h1 h2 => ?_⟩
    rw [List.length_append, List.length_singleton] at hal h2
    by_cases haa : a < l.length
    · rw [getD_app haa, getD_app (by omega)]
      exact hr a b haa (by omega)
    · obtain rfl : a = l.length := by omega
      rw [getD_end, getD_app (by omega)]
      refine Classical.byContradiction fun hc => ?_
      have hc' : adj es i (l.getD b 0) = true := by simpa using hc
      have h3 := (h (l.getD b 0) (hlow b (by omega))).2 ⟨hc', mem_getD.2 ⟨b, by omega, rfl⟩⟩
      rw [b_or, b_one, b_one, Bool.or_eq_true, Bool.and_eq_true, Bool.and_eq_true, decide_eq_true_iff, decide_eq_true_iff, decide_eq_true_iff, lastN_getD (by omega)] at h3
      rcases h3 with ⟨_, h3⟩ | ⟨_, h3⟩
      · have := nodup_getD hok.1 (by omega) (by omega) h3
        omega
      · have := nodup_getD hok.1 (by omega) (by omega) h3
        omega
  · rintro ⟨hfirst, h⟩ j hj
    rw [b_or, b_one, b_one, Bool.or_eq_true, Bool.and_eq_true, Bool.and_eq_true, decide_eq_true_iff, decide_eq_true_iff, decide_eq_true_iff]
    constructor
    · rintro (⟨_, rfl⟩ | ⟨_, rfl⟩)
      · exact ⟨by rw [adj_symm]; exact ha, mem_getD.2 ⟨l.length - 1, by omega, (lastN_getD (by omega)).symm⟩⟩
      · exact ⟨hfirst, mem_getD.2 ⟨0, by omega, rfl⟩⟩
    · rintro ⟨h1, h2⟩
      obtain ⟨b, hb, rfl⟩ := mem_getD.1 h2
      by_cases hbl : b = l.length - 1
      · exact .inl ⟨hj, by rw [lastN_getD (by omega), hbl]⟩
      · by_cases hb0 : b = 0
        · exact .inr ⟨hj, by rw [hb0]⟩
        · have h3 := h l.length b (by rw [List.length_append, List.length_singleton]; omega) (by omega) (by omega) (by rw [List.length_append, List.length_singleton]; omega)
          rw [getD_end, getD_app hb, h1] at h3
          cases h3
theorem rowB_one (es : List Ed) (i : Nat) : rowB es [i] = true := by
  rw [rowB_iff]
  intro a b ha hb
  simp at ha
  omega
end Go.Proofs.YtfaifadfilndmaaDoor
