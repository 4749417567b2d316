/- The order in which the nodes of a graph go, in plain Lean. Conditions: none. -/
import Derived.Test.YtnpcbbdfpbnakaaDoorBfsP
import Derived.Test.YtnpcbbdfpbnakaaDoorSidesP
namespace Go.Proofs.YtnpcbbdfpbnakaaDoor
open Go.RowKit

/-! Lists in which each element is told by what lies ahead. -/
inductive Chn (R : List Int → Int → Prop) : List Int → Prop where
  | nil : Chn R []
  | snoc {L : List Int} {x : Int} : Chn R L → R L x → Chn R (L ++ [x])
theorem Chn.back {R : List Int → Int → Prop} {L : List Int} (h : Chn R L) : L = [] ∨ ∃ L0 x, L = L0 ++ [x] ∧ Chn R L0 ∧ R L0 x := by
  cases h with
  | nil => exact .inl rfl
  | snoc h1 h2 => exact .inr ⟨_, _, rfl, h1, h2⟩
theorem Chn.same {R : List Int → Int → Prop} (hu : ∀ p x y, R p x → R p y → x = y) {L : List Int} (h : Chn R L) : ∀ {L' : List Int}, Chn R L' → L.length = L'.length → L = L' := by
  induction h with
  | nil =>
    intro L' _ hl
    exact (List.eq_nil_of_length_eq_zero hl.symm).symm
  | @snoc L x h1 h2 ih =>
    intro L' h' hl
    rcases h'.back with rfl | ⟨L0, y, rfl, k1, k2⟩
    · simp at hl
    · have e := ih k1 (by simpa using hl)
      subst e
      rw [hu _ _ _ h2 k2]
theorem Chn.on {R : List Int → Int → Prop} (hu : ∀ p x y, R p x → R p y → x = y) {L : List Int} (h : Chn R L) {L' : List Int} (h' : Chn R L') (hl : L.length < L'.length) : ∃ y, R L y := by
  induction h' with
  | nil => simp at hl
  | @snoc L0 y k1 k2 ih =>
    rw [List.length_append, List.length_singleton] at hl
    by_cases he : L.length = L0.length
    · have e := h.same hu k1 he
      subst e
      exact ⟨y, k2⟩
    · exact ih (by omega)

/-- The nodes that are left. -/
def leftW (N : Nat) (L : List Int) : BitVec 32 := L.foldl (fun x i => wBut x (wShl w1 i.toNat)) (maskW N)
theorem leftW_snoc (N : Nat) (L : List Int) (i : Int) : leftW N (L ++ [i]) = wBut (leftW N L) (wShl w1 i.toNat) := by simp [leftW, List.foldl_append]
theorem leftW_bit {N : Nat} (hN : N < 32) (L : List Int) (hL : ∀ x ∈ L, 0 ≤ x ∧ x < N) (j : Nat) : (leftW N L).getLsbD j = true ↔ j < N ∧ (j : Int) ∉ L := by
  have key : ∀ (L : List Int) (x : BitVec 32), (∀ y ∈ L, 0 ≤ y ∧ y < N) → ((L.foldl (fun x i => wBut x (wShl w1 i.toNat)) x).getLsbD j = true ↔ x.getLsbD j = true ∧ (j : Int) ∉ L) := by
    intro L
    induction L with
    | nil => intro x _; simp
    | cons i L ih =>
      intro x h
      have hi := h i (by simp)
      rw [List.foldl_cons, ih _ (fun y hy => h y (List.mem_cons_of_mem _ hy)), b_but, b_one, Bool.and_eq_true, Bool.not_eq_true', Bool.and_eq_false_iff, decide_eq_false_iff_not, decide_eq_false_iff_not, List.mem_cons]
      constructor
      · rintro ⟨⟨h1, h2⟩, h3⟩
        refine ⟨h1, fun h4 => ?_⟩
        rcases h4 with h4 | h4
        · rcases h2 with h2 | h2
          · omega
          · omega
        · exact h3 h4
      · rintro ⟨h1, h2⟩
        refine ⟨⟨h1, .inr fun h4 => h2 (.inl (by omega))⟩, fun h4 => h2 (.inr h4)⟩
  unfold leftW
  rw [key L _ hL, b_mask hN]
  simp
/-- Have each two neighbours of a node that are left an edge? -/
def SimpC (l : List Ed) (left : BitVec 32) (i : Nat) : Prop := ∀ a b, left.getLsbD a = true → left.getLsbD b = true → adj l i a = true → adj l i b = true → a ≠ b → adj l a b = true
def NextC (l : List Ed) (N : Nat) (L : List Int) (v : Int) : Prop :=
  (v = -1 ∧ ∀ i, (leftW N L).getLsbD i = true → ¬ SimpC l (leftW N L) i) ∨ ∃ i : Nat, v = i ∧ (leftW N L).getLsbD i = true ∧ SimpC l (leftW N L) i ∧ ∀ j, j < i → (leftW N L).getLsbD j = true → ¬ SimpC l (leftW N L) j
theorem NextC.same {l : List Ed} {N : Nat} {L : List Int} {v v' : Int} (h : NextC l N L v) (h' : NextC l N L v') : v = v' := by
  rcases h with ⟨rfl, h1⟩ | ⟨i, rfl, h1, h2, h3⟩
  · rcases h' with ⟨rfl, _⟩ | ⟨i', rfl, k1, k2, _⟩
    · rfl
    · exact (h1 i' k1 k2).elim
  · rcases h' with ⟨rfl, k1⟩ | ⟨i', rfl, k1, k2, k3⟩
    · exact (k1 i h1 h2).elim
    · rcases Nat.lt_trichotomy i i' with e | e | e
      · exact (k3 i e h1 h2).elim
      · rw [e]
      · exact (h3 i' e k1 k2).elim
def StepC (l : List Ed) (N : Nat) (L : List Int) (v : Int) : Prop := NextC l N L v ∧ 0 ≤ v
theorem stepC_same {l : List Ed} {N : Nat} (p : List Int) (x y : Int) (h : StepC l N p x) (h' : StepC l N p y) : x = y := h.1.same h'.1
theorem chord_in {l : List Ed} {N : Nat} (hN : N < 32) {L : List Int} (h : Chn (StepC l N) L) : (∀ x ∈ L, 0 ≤ x ∧ x < N) ∧ L.Nodup := by
  induction h with
  | nil => exact ⟨(by simp), List.nodup_nil⟩
  | @snoc L x h1 h2 ih =>
    obtain ⟨ih1, ih2⟩ := ih
    rcases h2.1 with ⟨e, _⟩ | ⟨i, e, k1, _⟩
    · have := h2.2; omega
    · rw [leftW_bit hN L ih1] at k1
      refine ⟨fun y hy => ?_, ?_⟩
      · rcases List.mem_append.1 hy with hy | hy
        · exact ih1 y hy
        · rw [List.mem_singleton] at hy
          omega
      · rw [List.nodup_append]
        refine ⟨ih2, by simp, fun a ha b hb hab => ?_⟩
        rw [List.mem_singleton] at hb
        rw [hab, hb, e] at ha
        exact k1.2 ha
theorem chord_len {l : List Ed} {N : Nat} (hN : N < 32) {L : List Int} (h : Chn (StepC l N) L) : L.length + pop (leftW N L) = N := by
  induction h with
  | nil =>
    show 0 + pop (maskW N) = N
    have : pop (maskW N) = (List.range 32).countP fun j => decide (j < N) := List.countP_congr fun j _ => by rw [b_mask hN]
    rw [this, Nat.zero_add]
    have key : ∀ n, (List.range n).countP (fun j => decide (j < N)) = min n N := by
      intro n
      induction n with
      | zero => simp
      | succ n ih =>
        rw [List.range_succ, List.countP_append, ih]
        simp only [List.countP_cons, List.countP_nil]
        by_cases hn : n < N
        · simp [hn]; omega
        · simp [hn]; omega
    rw [key]
    omega
  | @snoc L x h1 h2 ih =>
    rcases h2.1 with ⟨e, _⟩ | ⟨i, e, k1, _⟩
    · have := h2.2; omega
    · rw [leftW_snoc, List.length_append, List.length_singleton, e]
      have hpop : pop (leftW N L) = pop (wBut (leftW N L) (wShl w1 i)) + 1 := by
        have hi : i < 32 := by have := (leftW_bit hN L (chord_in hN h1).1 i).1 k1; omega
        have h3 : (fun j => (leftW N L).getLsbD j) = fun j => decide (j = i) || (wBut (leftW N L) (wShl w1 i)).getLsbD j := by
          funext j
          rw [b_but, b_one]
          by_cases hj : j = i
          · subst hj; simp [k1]
          · simp [hj]
        unfold pop popTo
        rw [h3, countP_range_or _ i (by rw [b_but, b_one]; simp [hi]), if_pos hi]
      simp only [Int.toNat_natCast]
      omega
theorem pop_zero {x : BitVec 32} : pop x = 0 ↔ x = w0 := by
  constructor
  · intro h
    refine w_ext fun j hj => ?_
    rw [b_0]
    have := List.countP_eq_zero.1 h j (List.mem_range.2 hj)
    simpa using this
  · intro h
    subst h
    unfold pop popTo
    rw [List.countP_eq_zero]
    intro j _
    rw [b_0]
    simp
/-- What both come to. -/
def ChordRes (l : List Ed) (N : Nat) (b : Bool) (L : List Int) : Prop := Chn (StepC l N) L ∧ (b = true → L.length = N) ∧ (b = false → L.length < N ∧ NextC l N L (-1))
theorem ChordRes.same {l : List Ed} {N : Nat} {b b' : Bool} {L L' : List Int} (h : ChordRes l N b L) (h' : ChordRes l N b' L') : b = b' ∧ L = L' := by
  obtain ⟨h1, h2, h3⟩ := h
  obtain ⟨k1, k2, k3⟩ := h'
  have hno : ∀ {L L' : List Int}, Chn (StepC l N) L → Chn (StepC l N) L' → NextC l N L (-1) → L.length < L'.length → False := fun a b c d => by
    obtain ⟨y, hy⟩ := a.on stepC_same b d
    have := hy.1.same c
    have := hy.2
    omega
  cases b with
  | true =>
    cases b' with
    | true => exact ⟨rfl, h1.same stepC_same k1 (by rw [h2 rfl, k2 rfl])⟩
    | false => exact (hno k1 h1 (k3 rfl).2 (by rw [h2 rfl]; exact (k3 rfl).1)).elim
  | false =>
    cases b' with
    | true => exact (hno h1 k1 (h3 rfl).2 (by rw [k2 rfl]; exact (h3 rfl).1)).elim
    | false =>
      refine ⟨rfl, ?_⟩
      rcases Nat.lt_trichotomy L.length L'.length with e | e | e
      · exact (hno h1 k1 (h3 rfl).2 e).elim
      · exact h1.same stepC_same k1 e
      · exact (hno k1 h1 (k3 rfl).2 e).elim

/-- The program's test. -/
def allB (t : List (BitVec 32)) (x : BitVec 32) : Bool := (bitsL x).all fun j => wBut x (lw t j) == wShl w1 j
theorem adj_irr {N : Nat} {l : List Ed} (hg : GoodG N l) (i : Nat) : adj l i i = false := by
  rcases h : adj l i i with _ | _
  · rfl
  · obtain ⟨e, he, hj⟩ := List.any_eq_true.1 h
    unfold joins at hj
    have hj := of_decide_eq_true hj
    have := (hg.ed e he).ne
    omega
theorem all_simp {N : Nat} {l : List Ed} (hg : GoodG N l) (left : BitVec 32) (i : Nat) : allB (nearL N l) (wAnd (lw (nearL N l) i) left) = true ↔ SimpC l left i := by
  have hw : ∀ j, (wAnd (lw (nearL N l) i) left).getLsbD j = true ↔ adj l i j = true ∧ left.getLsbD j = true := fun j => by
    rw [b_and, Bool.and_eq_true, near_adj hg]; rfl
  unfold allB
  rw [List.all_eq_true]
  constructor
  · intro h a b ha hb hia hib hab
    have h1 := h b (mem_bitsL.2 ((hw b).2 ⟨hib, hb⟩))
    rw [beq_iff_eq] at h1
    have h2 := congrArg (fun z : BitVec 32 => z.getLsbD a) h1
    simp only [b_but, b_one, (hw a).2 ⟨hia, ha⟩, Bool.true_and] at h2
    have h3 : (lw (nearL N l) b).getLsbD a = true := by
      rcases hx : (lw (nearL N l) b).getLsbD a with _ | _
      · rw [hx] at h2; simp [hab] at h2
      · rfl
    rw [near_adj hg] at h3
    exact adj_sym h3
  · intro h j hj
    obtain ⟨hij, hlj⟩ := (hw j).1 (mem_bitsL.1 hj)
    rw [beq_iff_eq]
    refine w_ext fun m hm => ?_
    rw [b_but, b_one]
    by_cases hmj : m = j
    · subst hmj
      have h1 : (lw (nearL N l) m).getLsbD m = false := by
        rcases hx : (lw (nearL N l) m).getLsbD m with _ | _
        · rfl
        · rw [near_adj hg] at hx
          have := adj_irr hg m
          unfold Adj at hx
          rw [this] at hx
          cases hx
      rw [(hw m).2 ⟨hij, hlj⟩, h1]
      simp [hm]
    · rcases hx : (wAnd (lw (nearL N l) i) left).getLsbD m with _ | _
      · simp [hmj]
      · obtain ⟨him, hlm⟩ := (hw m).1 hx
        have h1 : (lw (nearL N l) j).getLsbD m = true := (near_adj hg j m).2 (h j m hlj hlm hij him (fun e => hmj e.symm))
        rw [h1]
        simp [hmj]
/-- The reference's test. -/
def simB (l : List Ed) (L : List Int) (i a b : Nat) : Bool := adj l i a && adj l i b && !hasB L a && !hasB L b && !adj l a b
def simTo (l : List Ed) (L : List Int) (i a b : Nat) : Prop := (∀ a', a' < a → ∀ b', b' < a' → simB l L i a' b' = false) ∧ ∀ b', b' < b → simB l L i a b' = false
theorem hasB_iff (L : List Int) (x : Int) : hasB L x = true ↔ x ∈ L := by
  unfold hasB
  rw [List.any_eq_true]
  constructor
  · rintro ⟨y, hy, h⟩; rw [beq_iff_eq] at h; rw [h]; exact hy
  · intro h; exact ⟨x, h, by simp⟩
theorem sim_bad {N : Nat} {l : List Ed} (hN : N < 32) {L : List Int} (hL : ∀ x ∈ L, 0 ≤ x ∧ x < N) {i a b : Nat} (ha : a < N) (hb : b < a) (h : simB l L i a b = true) : ¬ SimpC l (leftW N L) i := by
  unfold simB at h
  simp only [Bool.and_eq_true, Bool.not_eq_true'] at h
  obtain ⟨⟨⟨⟨h1, h2⟩, h3⟩, h4⟩, h5⟩ := h
  intro hs
  have := hs a b ((leftW_bit hN L hL a).2 ⟨ha, fun hm => by rw [(hasB_iff L a).2 hm] at h3; cases h3⟩) ((leftW_bit hN L hL b).2 ⟨by omega, fun hm => by rw [(hasB_iff L b).2 hm] at h4; cases h4⟩) h1 h2 (by omega)
  rw [h5] at this
  cases this
theorem sim_good {N : Nat} {l : List Ed} (hN : N < 32) {L : List Int} (hL : ∀ x ∈ L, 0 ≤ x ∧ x < N) {i : Nat} (h : simTo l L i N 0) : SimpC l (leftW N L) i := by
  have key : ∀ a b, b < a → (leftW N L).getLsbD a = true → (leftW N L).getLsbD b = true → adj l i a = true → adj l i b = true → adj l a b = true := by
    intro a b hab ha hb h1 h2
    rw [leftW_bit hN L hL] at ha hb
    have hs := h.1 a ha.1 b hab
    unfold simB at hs
    rw [h1, h2, show hasB L a = false from by rw [← Bool.not_eq_true, hasB_iff]; exact ha.2, show hasB L b = false from by rw [← Bool.not_eq_true, hasB_iff]; exact hb.2] at hs
    simpa using hs
  intro a b ha hb h1 h2 hab
  rcases Nat.lt_or_gt_of_ne hab with e | e
  · exact adj_sym (key b a e hb ha h2 h1)
  · exact key a b e ha hb h1 h2
end Go.Proofs.YtnpcbbdfpbnakaaDoor
