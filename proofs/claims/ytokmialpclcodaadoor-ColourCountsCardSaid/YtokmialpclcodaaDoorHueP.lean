/- Colourings in plain Lean: which colours a node may have, the first colouring by so many. Conditions: none. -/
import Derived.Test.YtokmialpclcodaaDoorRowP
import Derived.Test.YtokmialpclcodaaDoorNearP
import Derived.Test.YtokmialpclcodaaDoorIntsOf
namespace Go.Proofs.YtokmialpclcodaaDoor
open Go.RowKit

def hueStep (l : List Int) (w : BitVec 32) (j : Nat) : BitVec 32 := if 0 ≤ l.getD j 0 then wBut w (wShl w1 (l.getD j 0).toNat) else w
/-- Which colours are free beside some nodes. -/
def mayW (l : List Int) (x : BitVec 32) (k : Nat) : BitVec 32 := (bitsL x).foldl (hueStep l) (maskW k)
theorem hueStep_bit (l : List Int) (w : BitVec 32) (j c : Nat) : (hueStep l w j).getLsbD c = (w.getLsbD c && !(l.getD j 0 == (c : Int))) := by
  unfold hueStep
  by_cases hc : c < 32
  · by_cases h : 0 ≤ l.getD j 0
    · rw [if_pos h, b_but, b_one]
      congr 2
      rw [Bool.eq_iff_iff]
      simp only [hc, decide_true, Bool.true_and, decide_eq_true_eq, beq_iff_eq]
      omega
    · rw [if_neg h]
      have : (l.getD j 0 == (c : Int)) = false := by
        rw [Bool.eq_false_iff]
        intro e
        rw [beq_iff_eq] at e
        omega
      rw [this, Bool.not_false, Bool.and_true]
  · rw [b_ge _ (by omega), b_ge w (by omega)]
    rfl
theorem hueFold_bit (l : List Int) (c : Nat) : ∀ (js : List Nat) (w : BitVec 32), (js.foldl (hueStep l) w).getLsbD c = (w.getLsbD c && !js.any fun j => l.getD j 0 == (c : Int))
  | [], w => by simp
  | j :: js, w => by
    rw [List.foldl_cons, hueFold_bit l c js, hueStep_bit, List.any_cons, Bool.not_or, Bool.and_assoc]
theorem mayW_bit {k : Nat} (hk : k < 32) (l : List Int) (x : BitVec 32) (c : Nat) : (mayW l x k).getLsbD c = (decide (c < k) && !(bitsL x).any fun j => l.getD j 0 == (c : Int)) := by
  unfold mayW
  rw [hueFold_bit, b_mask hk]
/-- The painter's row: those that have been coloured, and no more. -/
def hueL (N : Nat) (l : List Nat) : List Int := intsOf l ++ List.replicate (N - l.length) (-1)
theorem hueL_length {N : Nat} {l : List Nat} (h : l.length ≤ N) : (hueL N l).length = N := by simp [hueL, intsOf]; omega
theorem hueL_nil (N : Nat) : hueL N [] = List.replicate N (-1) := by simp [hueL, intsOf]
theorem hueL_full {N : Nat} {l : List Nat} (h : l.length = N) : hueL N l = intsOf l := by simp [hueL, h]
theorem hueL_low {N : Nat} {l : List Nat} {j : Nat} (h : j < l.length) : (hueL N l).getD j 0 = ((l.getD j 0 : Nat) : Int) := by
  simp [hueL, List.getD_eq_getElem?_getD, List.getElem?_append, intsOf, h]
theorem hueL_high {N : Nat} {l : List Nat} {j : Nat} (h : l.length ≤ j) (hj : j < N) : (hueL N l).getD j 0 = -1 := by
  have h1 : ¬ j < l.length := by omega
  have h2 : j - l.length < N - l.length := by omega
  simp [hueL, List.getD_eq_getElem?_getD, List.getElem?_append, intsOf, h1, List.getElem?_replicate, h2]
theorem hueL_set {N : Nat} {l : List Nat} (h : l.length < N) (c : Nat) : (hueL N l).set l.length (c : Int) = hueL N (l ++ [c]) := by
  unfold hueL
  rw [List.set_append_right _ _ (by simp [intsOf])]
  have : N - l.length = (N - (l ++ [c]).length) + 1 := by simp; omega
  rw [this, List.replicate_succ]
  simp [intsOf]
theorem hueL_unset {N : Nat} {l : List Nat} (h : l.length < N) (c : Nat) : (hueL N (l ++ [c])).set l.length (-1) = hueL N l := by
  rw [← hueL_set h, List.set_set]
  unfold hueL
  rw [List.set_append_right _ _ (by simp [intsOf])]
  have : N - l.length = (N - l.length - 1) + 1 := by omega
  rw [this, List.replicate_succ]
  simp [intsOf]
theorem adj_in {N : Nat} {l : List Ed} (hg : GoodG N l) {c j : Nat} (h : adj l c j = true) : j < N := by
  unfold adj at h
  obtain ⟨e, he, hj⟩ := List.any_eq_true.1 h
  unfold joins at hj
  have hj := of_decide_eq_true hj
  obtain ⟨_, _, _, _, _, _, _⟩ := hg.ed e he
  omega
theorem nearL_len (N : Nat) (l : List Ed) : (nearL N l).length = N := by
  unfold nearL
  rw [foldl_near_length]
  simp
def okC (es : List Ed) (l : List Nat) (c : Nat) : Bool := (List.range l.length).all fun j => l.getD j 0 != c || !adj es j l.length
theorem may_ok {N : Nat} {es : List Ed} (hg : GoodG N es) {l : List Nat} (hl : l.length < N) {k : Nat} (hk : k < 32) (c : Nat) : (mayW (hueL N l) (lw (nearL N es) l.length) k).getLsbD c = (decide (c < k) && okC es l c) := by
  rw [mayW_bit hk]
  congr 1
  unfold okC
  rw [Bool.eq_iff_iff]
  simp only [Bool.not_eq_true', List.any_eq_false, List.all_eq_true, List.mem_range, Bool.or_eq_true, bne_iff_ne, ne_eq, Bool.not_eq_true', beq_iff_eq]
  constructor
  · intro h j hj
    by_cases ha : adj es j l.length = true
    · refine .inl fun e => ?_
      refine h j (mem_bitsL.2 (by rw [near_bit hg hl, adj_symm]; exact ha)) ?_
      rw [hueL_low hj, e]
    · exact .inr (by simpa using ha)
  · intro h j hj e
    have ha : adj es l.length j = true := by rw [← near_bit hg hl]; exact mem_bitsL.1 hj
    by_cases hjl : j < l.length
    · rw [hueL_low hjl] at e
      rcases h j hjl with h1 | h1
      · exact h1 (by omega)
      · rw [adj_symm, ha] at h1
        cases h1
    · have hjN : j < N := adj_in hg ha
      rw [hueL_high (by omega) hjN] at e
      omega
theorem bits_range {n : Nat} (hn : n < 32) {x : BitVec 32} {p : Nat → Bool} (h : ∀ j, x.getLsbD j = (decide (j < n) && p j)) : bitsL x = (List.range n).filter p := by
  unfold bitsL
  have h32 : List.range 32 = List.range n ++ (List.range (32 - n)).map fun x => n + x := by
    rw [← List.range_add]
    congr 1
    omega
  rw [h32, List.filter_append]
  have e2 : (List.map (fun x => n + x) (List.range (32 - n))).filter (fun j => x.getLsbD j) = [] := by
    refine List.filter_eq_nil_iff.2 fun j hj => ?_
    obtain ⟨y, _, rfl⟩ := List.mem_map.1 hj
    rw [h, decide_eq_false (by omega)]
    simp
  rw [e2, List.append_nil]
  refine List.filter_congr fun j hj => ?_
  rw [h]
  simp [List.mem_range.1 hj]
/-- The first colouring by k colours that goes on from some. -/
def paintF (es : List Ed) (k : Nat) : Nat → List Nat → Option (List Nat)
  | 0, l => some l
  | f + 1, l => (List.range k).findSome? fun c => if okC es l c then paintF es k f (l ++ [c]) else none
theorem paintF_bits {N : Nat} {es : List Ed} (hg : GoodG N es) {l : List Nat} (hl : l.length < N) {k : Nat} (hk : k < 32) (f : Nat) : paintF es k (f + 1) l = (bitsL (mayW (hueL N l) (lw (nearL N es) l.length) k)).findSome? fun c => paintF es k f (l ++ [c]) := by
  rw [bits_range hk (may_ok hg hl hk), findSome_filter]
  rfl
theorem paintF_length (es : List Ed) (k : Nat) : ∀ (f : Nat) (l u : List Nat), paintF es k f l = some u → u.length = l.length + f
  | 0, l, u, h => by injection h with h; rw [h]; rfl
  | f + 1, l, u, h => by
    unfold paintF at h
    obtain ⟨i, _, hi⟩ := findSome_from h
    split at hi
    · have := paintF_length es k f _ _ hi
      rw [List.length_append, List.length_singleton] at this
      omega
    · cases hi
theorem findSome_some {α β : Type} {g : α → Option β} {x : α} (hx : g x ≠ none) : ∀ {l : List α}, x ∈ l → l.findSome? g ≠ none
  | [], h => by cases h
  | a :: l, h => by
    rw [List.findSome?_cons]
    cases hg : g a with
    | some b => simp
    | none =>
      rcases List.mem_cons.1 h with rfl | h
      · exact absurd hg hx
      · exact findSome_some hx h
theorem paintF_top (es : List Ed) (N : Nat) : ∀ (f : Nat) (l : List Nat), l.length + f = N → (∀ c ∈ l, c < l.length) → paintF es N f l ≠ none
  | 0, l, _, _ => by simp [paintF]
  | f + 1, l, hN, hc => by
    unfold paintF
    refine findSome_some (x := l.length) ?_ (List.mem_range.2 (by omega))
    have hok : okC es l l.length = true := by
      unfold okC
      rw [List.all_eq_true]
      intro j hj
      have hj' := List.mem_range.1 hj
      have : l.getD j 0 ∈ l := by rw [List.getD_eq_getElem?_getD, List.getElem?_eq_getElem hj']; exact List.getElem_mem hj'
      have := hc _ this
      have h2 : (l.getD j 0 != l.length) = true := by rw [bne_iff_ne]; omega
      rw [h2, Bool.true_or]
    rw [if_pos hok]
    refine paintF_top es N f _ (by simp; omega) fun c hcm => ?_
    rcases List.mem_append.1 hcm with h | h
    · have := hc c h; simp; omega
    · rw [List.mem_singleton] at h; rw [h]; simp
/-- The least number of colours, and the first colouring by it. -/
def HueIs (es : List Ed) (N k : Nat) (u : List Nat) : Prop := (∀ j, j < k → paintF es j N [] = none) ∧ paintF es k N [] = some u
theorem HueIs.same {es : List Ed} {N k k' : Nat} {u u' : List Nat} (h : HueIs es N k u) (h' : HueIs es N k' u') : k = k' ∧ u = u' := by
  obtain ⟨h1, h2⟩ := h
  obtain ⟨h1', h2'⟩ := h'
  rcases Nat.lt_trichotomy k k' with hk | hk | hk
  · have := h1' k hk; rw [this] at h2; cases h2
  · subst hk
    rw [h2] at h2'
    injection h2' with h2'
    exact ⟨rfl, h2'⟩
  · have := h1 k' hk; rw [this] at h2'; cases h2'
theorem hue_none {es : List Ed} {N k : Nat} (h : ∀ j, j < k → paintF es j N [] = none) : k ≤ N := by
  rcases Nat.lt_or_ge N k with hk | hk
  · exact absurd (h N hk) (paintF_top es N N [] (by simp) (fun c h => by cases h))
  · exact hk
end Go.Proofs.YtokmialpclcodaaDoor
