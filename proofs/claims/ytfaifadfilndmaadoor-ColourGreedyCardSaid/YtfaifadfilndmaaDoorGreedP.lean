/- Colouring in an order, in plain Lean: the program's row and the reference's; an order that has each node once. Conditions: none. -/
import Derived.Test.YtfaifadfilndmaaDoorHueP
namespace Go.Proofs.YtfaifadfilndmaaDoor
open Go.RowKit

theorem sub_len {α : Type} [DecidableEq α] : ∀ {K M : List α}, K.Nodup → (∀ x ∈ K, x ∈ M) → K.length ≤ M.length
  | [], _, _, _ => by simp
  | a :: K, M, hn, h => by
    have hn' := List.nodup_cons.1 hn
    have h1 : K.length ≤ (M.erase a).length := sub_len hn'.2 fun x hx => by
      have hxa : x ≠ a := fun e => hn'.1 (e ▸ hx)
      exact (List.mem_erase_of_ne hxa).2 (h x (List.mem_cons_of_mem _ hx))
    have h2 := List.length_erase_of_mem (h a List.mem_cons_self)
    have h3 : 0 < M.length := List.length_pos_of_mem (h a List.mem_cons_self)
    rw [List.length_cons]
    omega
def EachP (N : Nat) (o : List Int) : Prop := o.Nodup ∧ ∀ i ∈ o, 0 ≤ i ∧ i < N
theorem nodup_of_sub {α : Type} [DecidableEq α] {K M : List α} (hn : K.Nodup) (h : ∀ x ∈ K, x ∈ M) (hl : M.length ≤ K.length) : M.Nodup ∧ ∀ x ∈ M, x ∈ K := by
  induction M generalizing K with
  | nil =>
    exact ⟨List.nodup_nil, fun x hx => by cases hx⟩
  | cons a M ih =>
    by_cases hm : a ∈ M
    · have : K.length ≤ M.length := sub_len hn fun x hx => by
        rcases List.mem_cons.1 (h x hx) with rfl | h1
        · exact hm
        · exact h1
      rw [List.length_cons] at hl
      omega
    · by_cases hk : a ∈ K
      · have h2 := List.length_erase_of_mem hk
        rw [List.length_cons] at hl
        obtain ⟨h3, h4⟩ := ih (K := K.erase a) (hn.erase a) (fun x hx => by
          have h5 := (List.Nodup.mem_erase_iff hn).1 hx
          rcases List.mem_cons.1 (h x h5.2) with rfl | h1
          · exact absurd rfl h5.1
          · exact h1) (by omega)
        exact ⟨List.nodup_cons.2 ⟨hm, h3⟩, fun x hx => by
          rcases List.mem_cons.1 hx with rfl | h1
          · exact hk
          · exact List.mem_of_mem_erase (h4 x h1)⟩
      · have : K.length ≤ M.length := sub_len hn fun x hx => by
          rcases List.mem_cons.1 (h x hx) with rfl | h1
          · exact absurd hx hk
          · exact h1
        rw [List.length_cons] at hl
        omega
theorem ints_len {N : Nat} {K : List Int} (hn : K.Nodup) (h : ∀ i ∈ K, 0 ≤ i ∧ i < N) : K.length ≤ N := by
  have := sub_len (M := intsOf (List.range N)) hn fun i hi => by
    obtain ⟨h0, h1⟩ := h i hi
    unfold intsOf
    exact List.mem_map.2 ⟨i.toNat, List.mem_range.2 (by omega), by omega⟩
  simpa [intsOf] using this
theorem each_count {N : Nat} {o K : List Int} (hK : K.Nodup) (hm : ∀ i, i ∈ K ↔ i ∈ o ∧ 0 ≤ i ∧ i < N) : (o.length = N ∧ K.length = N) ↔ (EachP N o ∧ o.length = N) := by
  constructor
  · rintro ⟨h1, h2⟩
    obtain ⟨h3, h4⟩ := nodup_of_sub hK (fun x hx => ((hm x).1 hx).1) (by omega)
    exact ⟨⟨h3, fun i hi => ((hm i).1 (h4 i hi)).2⟩, h1⟩
  · rintro ⟨⟨h3, h4⟩, h1⟩
    refine ⟨h1, ?_⟩
    have h5 : o.length ≤ K.length := sub_len h3 fun x hx => (hm x).2 ⟨hx, h4 x hx⟩
    have h6 := ints_len hK fun i hi => ((hm i).1 hi).2
    omega

/-- May a node have a colour, by those that have been coloured? -/
def freeB (es : List Ed) (R : List Int) (pre : List Nat) (i c : Nat) : Bool := pre.all fun j => !(adj es i j && R.getD j 0 == (c : Int))
theorem blocked_le {es : List Ed} {R : List Int} {pre : List Nat} {i c : Nat} (h : ∀ c', c' < c → freeB es R pre i c' = false) : c ≤ pre.length := by
  have := sub_len (K := intsOf (List.range c)) (M := pre.map fun j => R.getD j 0) (by
    unfold intsOf
    exact List.Pairwise.map _ (fun a b hab => by omega) (List.nodup_range (n := c))) fun x hx => by
    obtain ⟨c', hc', rfl⟩ := List.mem_map.1 hx
    have h1 := h c' (List.mem_range.1 hc')
    unfold freeB at h1
    obtain ⟨j, hj, h2⟩ := List.all_eq_false.1 h1
    refine List.mem_map.2 ⟨j, hj, ?_⟩
    have h3 : (adj es i j && R.getD j 0 == (c' : Int)) = true := by simpa using h2
    rw [Bool.and_eq_true, beq_iff_eq] at h3
    exact h3.2
  simpa [intsOf] using this
/-- The least one. -/
def IsLeast (es : List Ed) (R : List Int) (pre : List Nat) (i c : Nat) : Prop := freeB es R pre i c = true ∧ ∀ c', c' < c → freeB es R pre i c' = false
theorem IsLeast.same {es : List Ed} {R : List Int} {pre : List Nat} {i c c' : Nat} (h : IsLeast es R pre i c) (h' : IsLeast es R pre i c') : c = c' := by
  rcases Nat.lt_trichotomy c c' with h1 | h1 | h1
  · have := h'.2 c h1; rw [h.1] at this; cases this
  · exact h1
  · have := h.2 c' h1; rw [h'.1] at this; cases this
theorem least_ex (es : List Ed) (R : List Int) (pre : List Nat) (i : Nat) : ∃ c, IsLeast es R pre i c := by
  have hb : ∃ c, c ≤ pre.length ∧ freeB es R pre i c = true := by
    refine Classical.byContradiction fun hno => ?_
    have := blocked_le (es := es) (R := R) (pre := pre) (i := i) (c := pre.length + 1) fun c' hc' => by
      cases hf : freeB es R pre i c' with
      | false => rfl
      | true => exact absurd ⟨c', by omega, hf⟩ hno
    omega
  obtain ⟨c, hcl, hc⟩ := hb
  clear hcl
  induction c using Nat.strongRecOn with
  | _ c ih =>
    by_cases h : ∀ c', c' < c → freeB es R pre i c' = false
    · exact ⟨c, hc, h⟩
    · have : ∃ c', c' < c ∧ freeB es R pre i c' = true := by
        refine Classical.byContradiction fun hno => h fun c' hc' => ?_
        cases hf : freeB es R pre i c' with
        | false => rfl
        | true => exact absurd ⟨c', hc', hf⟩ hno
      obtain ⟨c', h1, h2⟩ := this
      exact ih c' h1 h2
noncomputable def leastC (es : List Ed) (R : List Int) (pre : List Nat) (i : Nat) : Nat := (least_ex es R pre i).choose
theorem leastC_is (es : List Ed) (R : List Int) (pre : List Nat) (i : Nat) : IsLeast es R pre i (leastC es R pre i) := (least_ex es R pre i).choose_spec
theorem leastC_le (es : List Ed) (R : List Int) (pre : List Nat) (i : Nat) : leastC es R pre i ≤ pre.length := blocked_le (leastC_is es R pre i).2
/-- The reference's row after some nodes of the order. -/
noncomputable def refG (es : List Ed) (N : Nat) (o : List Nat) : Nat → List Int
  | 0 => List.replicate N 0
  | k + 1 => (refG es N o k).set (o.getD k 0) ((leastC es (refG es N o k) (o.take k) (o.getD k 0) : Nat) : Int)
/-- The program's. -/
noncomputable def prgG (es : List Ed) (N : Nat) (o : List Nat) : Nat → List Int
  | 0 => List.replicate N (-1)
  | k + 1 => (prgG es N o k).set (o.getD k 0) ((leastC es (refG es N o k) (o.take k) (o.getD k 0) : Nat) : Int)
theorem refG_length (es : List Ed) (N : Nat) (o : List Nat) : ∀ k, (refG es N o k).length = N
  | 0 => by simp [refG]
  | k + 1 => by rw [refG, List.length_set, refG_length]
theorem prgG_length (es : List Ed) (N : Nat) (o : List Nat) : ∀ k, (prgG es N o k).length = N
  | 0 => by simp [prgG]
  | k + 1 => by rw [prgG, List.length_set, prgG_length]
theorem getD_set {l : List Int} {i j : Nat} (v : Int) (hi : i < l.length) : (l.set i v).getD j 0 = if i = j then v else l.getD j 0 := by
  rw [List.getD_eq_getElem?_getD, List.getElem?_set]
  split
  · rename_i h; subst h; simp [hi]
  · rw [List.getD_eq_getElem?_getD]
theorem take_succ_getD {o : List Nat} {k : Nat} (hk : k < o.length) : o.take (k + 1) = o.take k ++ [o.getD k 0] := by
  rw [List.take_succ_eq_append_getElem hk, getD_at o k hk]
theorem prg_ref (es : List Ed) (N : Nat) (o : List Nat) (ho : ∀ i ∈ o, i < N) : ∀ k, k ≤ o.length → (∀ j, j ∈ o.take k → (prgG es N o k).getD j 0 = (refG es N o k).getD j 0 ∧ 0 ≤ (prgG es N o k).getD j 0) ∧ (∀ j, j < N → j ∉ o.take k → (prgG es N o k).getD j 0 = -1)
  | 0, _ => ⟨fun j hj => by simp at hj, fun j hj _ => by simp [prgG, List.getD_eq_getElem?_getD, List.getElem?_replicate, hj]⟩
  | k + 1, hk => by
    obtain ⟨h1, h2⟩ := prg_ref es N o ho k (by omega)
    have hoN : o.getD k 0 < N := ho _ (by rw [getD_at o k (by omega)]; exact List.getElem_mem _)
    refine ⟨fun j hj => ?_, fun j hj hno => ?_⟩
    · rw [prgG, refG, getD_set _ (by rw [prgG_length]; exact hoN), getD_set _ (by rw [refG_length]; exact hoN)]
      split
      · exact ⟨rfl, by omega⟩
      · rename_i hne
        rw [take_succ_getD (by omega), List.mem_append, List.mem_singleton] at hj
        rcases hj with h | h
        · exact h1 j h
        · exact absurd h.symm hne
    · rw [take_succ_getD (by omega), List.mem_append, List.mem_singleton] at hno
      rw [prgG, getD_set _ (by rw [prgG_length]; exact hoN)]
      rw [if_neg (fun e => hno (.inr e.symm))]
      exact h2 j hj fun h => hno (.inl h)
/-- The lowest free colour is the least one. -/
theorem tz_least {N : Nat} {es : List Ed} (hg : GoodG N es) (o : List Nat) (ho : ∀ i ∈ o, i < N) {k : Nat} (hk : k < o.length) (hkN : k < N) : mayW (prgG es N o k) (lw (nearL N es) (o.getD k 0)) N ≠ w0 ∧ tz (mayW (prgG es N o k) (lw (nearL N es) (o.getD k 0)) N) = leastC es (refG es N o k) (o.take k) (o.getD k 0) := by
  obtain ⟨h1, h2⟩ := prg_ref es N o ho k (by omega)
  have hoN : o.getD k 0 < N := ho _ (by rw [getD_at o k (by omega)]; exact List.getElem_mem _)
  have hN := hg.n10
  have hbit : ∀ c, (mayW (prgG es N o k) (lw (nearL N es) (o.getD k 0)) N).getLsbD c = (decide (c < N) && freeB es (refG es N o k) (o.take k) (o.getD k 0) c) := fun c => by
    rw [mayW_bit (by omega)]
    congr 1
    unfold freeB
    rw [Bool.eq_iff_iff]
    simp only [Bool.not_eq_true', List.any_eq_false, List.all_eq_true, beq_iff_eq, Bool.and_eq_false_iff, beq_eq_false_iff_ne, ne_eq]
    constructor
    · intro h j hj
      by_cases ha : adj es (o.getD k 0) j = true
      · right
        rw [← (h1 j hj).1]
        exact h j (mem_bitsL.2 (by rw [near_bit hg hoN]; exact ha))
      · left; simpa using ha
    · intro h j hj e
      have ha : adj es (o.getD k 0) j = true := by rw [← near_bit hg hoN]; exact mem_bitsL.1 hj
      by_cases hjt : j ∈ o.take k
      · rcases h j hjt with h3 | h3
        · rw [ha] at h3; cases h3
        · rw [← (h1 j hjt).1] at h3
          exact h3 e
      · rw [h2 j (adj_in hg ha) hjt] at e
        omega
  obtain ⟨hl1, hl2⟩ := leastC_is es (refG es N o k) (o.take k) (o.getD k 0)
  have hle := leastC_le es (refG es N o k) (o.take k) (o.getD k 0)
  have hlt : (o.take k).length ≤ k := by simp; omega
  generalize leastC es (refG es N o k) (o.take k) (o.getD k 0) = c at *
  have hc : (mayW (prgG es N o k) (lw (nearL N es) (o.getD k 0)) N).getLsbD c = true := by
    rw [hbit, hl1, decide_eq_true (by omega)]
    rfl
  have hne : mayW (prgG es N o k) (lw (nearL N es) (o.getD k 0)) N ≠ w0 := fun e => by
    rw [e, b_0] at hc
    cases hc
  refine ⟨hne, ?_⟩
  rcases Nat.lt_trichotomy (tz (mayW (prgG es N o k) (lw (nearL N es) (o.getD k 0)) N)) c with h | h | h
  · have h3 := tz_bit hne
    rw [hbit, hl2 _ h, Bool.and_false] at h3
    cases h3
  · exact h
  · have h3 := tz_low hne h
    rw [hc] at h3
    cases h3
theorem prg_end {N : Nat} (es : List Ed) {o : List Nat} (ho : ∀ i ∈ o, i < N) (hn : o.Nodup) (hl : o.length = N) : prgG es N o N = refG es N o N := by
  obtain ⟨h1, _⟩ := prg_ref es N o ho N (by omega)
  refine List.ext_getElem (by rw [prgG_length, refG_length]) fun j hj hj' => ?_
  have hjN : j < N := by rwa [prgG_length] at hj
  obtain ⟨_, hall⟩ := nodup_of_sub (K := o) (M := List.range N) hn (fun x hx => List.mem_range.2 (ho x hx)) (by simp [hl])
  have hm : j ∈ o.take N := by rw [List.take_of_length_le (by omega)]; exact hall j (List.mem_range.2 hjN)
  have := (h1 j hm).1
  rwa [getD_at _ j hj, getD_at _ j hj'] at this
end Go.Proofs.YtfaifadfilndmaaDoor
