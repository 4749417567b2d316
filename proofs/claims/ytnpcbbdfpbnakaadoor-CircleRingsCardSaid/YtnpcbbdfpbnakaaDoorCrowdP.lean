/- The largest set of which each two are together, in plain Lean: what a search over words finds; the first one by number. Conditions: none. -/
import Derived.Test.YtnpcbbdfpbnakaaDoorNearP
import Derived.Test.YtnpcbbdfpbnakaaDoorCount
namespace Go.Proofs.YtnpcbbdfpbnakaaDoor
open Go.RowKit

theorem all_take_succ {α : Type} (p : α → Bool) (l : List α) (k : Nat) (hk : k < l.length) : (l.take (k + 1)).all p = ((l.take k).all p && p l[k]) := by
  rw [List.take_succ_eq_append_getElem hk, List.all_append]
  simp
theorem all_of_get {α : Type} {p : α → Bool} {l : List α} {k : Nat} (hk : k < l.length) (h : p l[k] = false) : l.all p = false := by
  rw [List.all_eq_false]
  exact ⟨_, List.getElem_mem hk, by rw [h]; simp⟩
theorem mask_lim {N : Nat} (hN : N ≤ 10) : wN (wAdd (wSub (wShl w1 N) w1) w1) = (2 ^ N : Nat) := by
  have e : wAdd (wSub (wShl w1 N) w1) w1 = wShl w1 N := by
    unfold wAdd wSub
    exact BitVec.sub_add_cancel _ _
  rw [e, wN_pow (by omega)]
theorem pow_le_1024 {N : Nat} (hN : N ≤ 10) : 2 ^ N ≤ 1024 := by
  have := Nat.pow_le_pow_right (show 0 < 2 by omega) hN
  simpa using this

/-- The length of a number in bits. -/
def bl (n : Nat) : Nat := if n = 0 then 0 else n.log2 + 1
theorem bl_lt (n : Nat) : n < 2 ^ bl n := by
  unfold bl
  split
  · omega
  · exact Nat.lt_log2_self
theorem bl_ge {n : Nat} (h : n ≠ 0) : 2 ^ (bl n - 1) ≤ n := by
  unfold bl
  rw [if_neg h]
  exact Nat.log2_self_le h
theorem bl_pos {n : Nat} (h : n ≠ 0) : 0 < bl n := by
  unfold bl
  rw [if_neg h]
  omega
theorem bl_unique {n m : Nat} (h0 : 2 ^ m ≤ n) (h1 : n < 2 ^ (m + 1)) : bl n = m + 1 := by
  have hp := Nat.two_pow_pos m
  have hn : n ≠ 0 := by omega
  have h2 := bl_lt n
  have h3 := bl_ge hn
  have h4 := bl_pos hn
  have a1 : m < bl n := (Nat.pow_lt_pow_iff_right (by omega : 1 < 2)).1 (Nat.lt_of_le_of_lt h0 h2)
  have a2 : bl n - 1 < m + 1 := (Nat.pow_lt_pow_iff_right (by omega : 1 < 2)).1 (Nat.lt_of_le_of_lt h3 h1)
  omega
theorem bl_shift {n k : Nat} (h : 2 ^ k ≤ n) : bl n = bl (n / 2 ^ k) + k := by
  have hp := Nat.two_pow_pos k
  have hq : n / 2 ^ k ≠ 0 := by
    have := Nat.div_pos h hp
    omega
  obtain ⟨m, hm⟩ : ∃ m, bl (n / 2 ^ k) = m + 1 := ⟨bl (n / 2 ^ k) - 1, by have := bl_pos hq; omega⟩
  have h2 := bl_lt (n / 2 ^ k)
  have h3 := bl_ge hq
  rw [hm] at h2 h3 ⊢
  rw [Nat.add_sub_cancel] at h3
  rw [bl_unique (m := m + k) ?_ ?_]
  · omega
  · rw [Nat.pow_add]
    exact (Nat.le_div_iff_mul_le hp).1 h3
  · rw [show m + k + 1 = (m + 1) + k by omega, Nat.pow_add]
    exact (Nat.div_lt_iff_lt_mul hp).1 h2
theorem bl_top {x : BitVec 32} (h : x ≠ w0) : ∃ i, bl x.toNat = i + 1 ∧ i < 32 ∧ x.getLsbD i = true ∧ ∀ j, x.getLsbD j = true → j ≤ i := by
  have hn : x.toNat ≠ 0 := fun h0 => h (BitVec.eq_of_toNat_eq (by rw [h0]; rfl))
  obtain ⟨i, hi⟩ : ∃ m, bl x.toNat = m + 1 := ⟨bl x.toNat - 1, by have := bl_pos hn; omega⟩
  have h2 := bl_lt x.toNat
  have h3 := bl_ge hn
  rw [hi] at h2 h3
  rw [Nat.add_sub_cancel] at h3
  have hbit : x.getLsbD i = true := by
    cases hb : x.getLsbD i with
    | true => rfl
    | false =>
      exfalso
      have : x.toNat < 2 ^ i := Nat.lt_pow_two_of_testBit _ fun j hj => by
        rcases Nat.eq_or_lt_of_le hj with rfl | hj
        · exact hb
        · exact Nat.testBit_lt_two_pow (Nat.lt_of_lt_of_le h2 (Nat.pow_le_pow_right (by omega) hj))
      omega
  refine ⟨i, hi, ?_, hbit, fun j hj => ?_⟩
  · rcases Nat.lt_or_ge i 32 with h | h
    · exact h
    · rw [b_ge x h] at hbit; cases hbit
  · rcases Nat.lt_or_ge i j with h | h
    · rw [bit_lt h2 h] at hj; cases hj
    · exact h
theorem pop_mono {x y : BitVec 32} (h : ∀ j, x.getLsbD j = true → y.getLsbD j = true) : pop x ≤ pop y := List.countP_mono_left fun j _ hj => h j hj

/-- Each two of a set are together, by the words. -/
def Clq (t : List (BitVec 32)) (s : BitVec 32) : Prop := ∀ i j : Nat, j < i → s.getLsbD i = true → s.getLsbD j = true → (lw t i).getLsbD j = true
/-- Larger, or as large and the lesser number. -/
def Better (a b : BitVec 32) : Prop := pop b < pop a ∨ (pop b = pop a ∧ wN a < wN b)
theorem Better.trans {a b c : BitVec 32} (h : Better a b) (k : Better b c) : Better a c := by unfold Better at *; omega
theorem Better.irrefl (a : BitVec 32) : ¬ Better a a := by unfold Better; omega
theorem better_eq {a b : BitVec 32} (h : ¬ Better a b) (k : ¬ Better b a) : a = b := wN_inj (by unfold Better at *; omega)
structure Cand (t : List (BitVec 32)) (now may s : BitVec 32) : Prop where
  lo : ∀ j, now.getLsbD j = true → s.getLsbD j = true
  hi : ∀ j, s.getLsbD j = true → now.getLsbD j = true ∨ may.getLsbD j = true
  cl : Clq t s
/-- What a search over those candidates makes of a best one. -/
structure Found (t : List (BitVec 32)) (now may b0 b : BitVec 32) : Prop where
  src : b = b0 ∨ Cand t now may b
  up : b = b0 ∨ Better b b0
  top : ∀ s, Cand t now may s → ¬ Better s b
/-- What the search keeps: who is in is with all who may come, and behind them. -/
structure Open (t : List (BitVec 32)) (now may : BitVec 32) : Prop where
  cl : Clq t now
  ok : ∀ a b, now.getLsbD a = true → may.getLsbD b = true → b < a ∧ (lw t a).getLsbD b = true
def without (may : BitVec 32) (i : Nat) : BitVec 32 := wBut may (wShl w1 i)
theorem without_bit (may : BitVec 32) {i : Nat} (hi : i < 32) (j : Nat) : (without may i).getLsbD j = (may.getLsbD j && !decide (j = i)) := by
  unfold without
  rw [b_but, b_one]
  by_cases hj : j < 32
  · simp [hj]
  · rw [b_ge may (by omega)]; simp
theorem with_bit (now : BitVec 32) {i : Nat} (hi : i < 32) (j : Nat) : (wOr now (wShl w1 i)).getLsbD j = (now.getLsbD j || decide (j = i)) := by
  rw [b_or, b_one]
  by_cases hj : j = i
  · subst hj; simp [hi]
  · simp [hj]
theorem open_skip {t : List (BitVec 32)} {now may : BitVec 32} {i : Nat} (hi : i < 32) (h : Open t now may) : Open t now (without may i) :=
  ⟨h.cl, fun a b ha hb => h.ok a b ha (by rw [without_bit may hi] at hb; simp at hb; exact hb.1)⟩
theorem open_take {t : List (BitVec 32)} {now may : BitVec 32} {i : Nat} (hi : i < 32) (hm : may.getLsbD i = true) (htop : ∀ j, may.getLsbD j = true → j ≤ i) (h : Open t now may) : Open t (wOr now (wShl w1 i)) (wAnd (without may i) (lw t i)) := by
  refine ⟨fun a b hba ha hb => ?_, fun a b ha hb => ?_⟩
  · rw [with_bit now hi] at ha hb
    simp only [Bool.or_eq_true, decide_eq_true_eq] at ha hb
    rcases ha with ha | rfl
    · rcases hb with hb | rfl
      · exact h.cl a b hba ha hb
      · exact (h.ok a b ha hm).2
    · rcases hb with hb | rfl
      · have := (h.ok b a hb hm).1
        omega
      · omega
  · rw [with_bit now hi] at ha
    rw [b_and, without_bit may hi] at hb
    simp only [Bool.or_eq_true, Bool.and_eq_true, decide_eq_true_eq, Bool.not_eq_true', decide_eq_false_iff_not] at ha hb
    rcases ha with ha | rfl
    · exact h.ok a b ha hb.1.1
    · have := htop b hb.1.1
      exact ⟨by omega, hb.2⟩
theorem cand_split {t : List (BitVec 32)} {now may s : BitVec 32} {i : Nat} (hi : i < 32) (hm : may.getLsbD i = true) (htop : ∀ j, may.getLsbD j = true → j ≤ i) (h : Cand t now may s) :
    Cand t now (without may i) s ∨ Cand t (wOr now (wShl w1 i)) (wAnd (without may i) (lw t i)) s := by
  cases hs : s.getLsbD i with
  | false =>
    refine .inl ⟨h.lo, fun j hj => ?_, h.cl⟩
    rcases h.hi j hj with h1 | h1
    · exact .inl h1
    · have : j ≠ i := fun e => by rw [e, hs] at hj; cases hj
      exact .inr (by rw [without_bit may hi, h1]; simp [this])
  | true =>
    refine .inr ⟨fun j hj => ?_, fun j hj => ?_, h.cl⟩
    · rw [with_bit now hi] at hj
      simp only [Bool.or_eq_true, decide_eq_true_eq] at hj
      rcases hj with hj | rfl
      · exact h.lo j hj
      · exact hs
    · rw [with_bit now hi, b_and, without_bit may hi]
      simp only [Bool.or_eq_true, Bool.and_eq_true, decide_eq_true_eq, Bool.not_eq_true', decide_eq_false_iff_not]
      by_cases hji : j = i
      · exact .inl (.inr hji)
      · rcases h.hi j hj with h1 | h1
        · exact .inl (.inl h1)
        · have := htop j h1
          exact .inr ⟨⟨h1, hji⟩, h.cl i j (by omega) hs hj⟩
theorem cand_skip {t : List (BitVec 32)} {now may s : BitVec 32} {i : Nat} (hi : i < 32) (h : Cand t now (without may i) s) : Cand t now may s :=
  ⟨h.lo, fun j hj => (h.hi j hj).imp_right fun h1 => by rw [without_bit may hi] at h1; simp at h1; exact h1.1, h.cl⟩
theorem cand_take {t : List (BitVec 32)} {now may s : BitVec 32} {i : Nat} (hi : i < 32) (hm : may.getLsbD i = true) (h : Cand t (wOr now (wShl w1 i)) (wAnd (without may i) (lw t i)) s) : Cand t now may s := by
  refine ⟨fun j hj => h.lo j (by rw [with_bit now hi, hj]; rfl), fun j hj => ?_, h.cl⟩
  rcases h.hi j hj with h1 | h1
  · rw [with_bit now hi] at h1
    simp only [Bool.or_eq_true, decide_eq_true_eq] at h1
    rcases h1 with h1 | rfl
    · exact .inl h1
    · exact .inr hm
  · rw [b_and, without_bit may hi] at h1
    simp only [Bool.and_eq_true] at h1
    exact .inr h1.1.1
theorem found_join {t : List (BitVec 32)} {now may b0 b1 b2 : BitVec 32} {i : Nat} (hi : i < 32) (hm : may.getLsbD i = true) (htop : ∀ j, may.getLsbD j = true → j ≤ i)
    (h1 : Found t now (without may i) b0 b1) (h2 : Found t (wOr now (wShl w1 i)) (wAnd (without may i) (lw t i)) b1 b2) : Found t now may b0 b2 := by
  refine ⟨?_, ?_, fun s hs hb => ?_⟩
  · rcases h2.src with e | h
    · rw [e]
      exact h1.src.imp_right (cand_skip hi)
    · exact .inr (cand_take hi hm h)
  · rcases h2.up with e | h
    · rw [e]; exact h1.up
    · rcases h1.up with e1 | h'
      · rw [e1] at h; exact .inr h
      · exact .inr (h.trans h')
  · rcases cand_split hi hm htop hs with h | h
    · refine h1.top s h ?_
      rcases h2.up with e | h'
      · rwa [e] at hb
      · exact hb.trans h'
    · exact h2.top s h hb
theorem found_leaf {t : List (BitVec 32)} {now b0 : BitVec 32} (h : Open t now w0) (hb : Better now b0) : Found t now w0 b0 now := by
  refine ⟨.inr ⟨fun _ h => h, fun _ h => .inl h, h.cl⟩, .inr hb, fun s hs hbs => ?_⟩
  have : s = now := w_ext fun m _ => by
    rw [Bool.eq_iff_iff]
    refine ⟨fun h1 => ?_, hs.lo m⟩
    rcases hs.hi m h1 with h2 | h2
    · exact h2
    · rw [b_0] at h2; cases h2
  rw [this] at hbs
  exact Better.irrefl _ hbs
theorem found_same {t : List (BitVec 32)} {now b0 : BitVec 32} (hb : ¬ Better now b0) : Found t now w0 b0 b0 := by
  refine ⟨.inl rfl, .inl rfl, fun s hs hbs => ?_⟩
  have : s = now := w_ext fun m _ => by
    rw [Bool.eq_iff_iff]
    refine ⟨fun h1 => ?_, hs.lo m⟩
    rcases hs.hi m h1 with h2 | h2
    · exact h2
    · rw [b_0] at h2; cases h2
  rw [this] at hbs
  exact hb hbs
theorem found_cut {t : List (BitVec 32)} {now may b0 : BitVec 32} (h : pop (wOr now may) < pop b0) : Found t now may b0 b0 := by
  refine ⟨.inl rfl, .inl rfl, fun s hs hbs => ?_⟩
  have : pop s ≤ pop (wOr now may) := pop_mono fun j hj => by
    rw [b_or]
    rcases hs.hi j hj with h1 | h1 <;> simp [h1]
  unfold Better at hbs
  omega

/-- The first largest set by number: two of it must be as rel tells. -/
def together (rel : Nat → Nat → Bool) (N : Nat) (s : BitVec 32) : Bool := (List.range N).all fun i => (List.range i).all fun j => !(bitB s i && bitB s j && !rel i j)
def largestTo (rel : Nat → Nat → Bool) (N : Nat) : Nat → BitVec 32
  | 0 => w0
  | k + 1 => if pop (largestTo rel N k) < pop (nw k) ∧ together rel N (nw k) = true then nw k else largestTo rel N k
theorem largest_take {rel : Nat → Nat → Bool} {N k : Nat} (h1 : pop (largestTo rel N k) < pop (nw k)) (h2 : together rel N (nw k) = true) : largestTo rel N (k + 1) = nw k := by rw [largestTo, if_pos ⟨h1, h2⟩]
theorem largest_skip1 {rel : Nat → Nat → Bool} {N k : Nat} (h1 : ¬ pop (largestTo rel N k) < pop (nw k)) : largestTo rel N (k + 1) = largestTo rel N k := by rw [largestTo, if_neg (fun h => h1 h.1)]
theorem largest_skip2 {rel : Nat → Nat → Bool} {N k : Nat} (h2 : together rel N (nw k) = false) : largestTo rel N (k + 1) = largestTo rel N k := by rw [largestTo, if_neg (fun h => by rw [h2] at h; cases h.2)]
theorem together_clq {t : List (BitVec 32)} {rel : Nat → Nat → Bool} {N : Nat} (ht : ∀ i j, j < i → i < N → (lw t i).getLsbD j = rel i j) {s : BitVec 32} (hs : ∀ j, s.getLsbD j = true → j < N) : together rel N s = true ↔ Clq t s := by
  unfold together Clq
  rw [List.all_eq_true]
  constructor
  · intro h i j hji hi hj
    have h1 := List.all_eq_true.1 (h i (List.mem_range.2 (hs i hi))) j (List.mem_range.2 hji)
    rw [bitB_nat, bitB_nat, hi, hj] at h1
    rw [ht i j hji (hs i hi)]
    simpa using h1
  · intro h i hi
    rw [List.all_eq_true]
    intro j hj
    rw [bitB_nat, bitB_nat]
    cases h1 : s.getLsbD i with
    | false => rfl
    | true =>
      cases h2 : s.getLsbD j with
      | false => rfl
      | true =>
        have := h i j (List.mem_range.1 hj) h1 h2
        rw [ht i j (List.mem_range.1 hj) (List.mem_range.1 hi)] at this
        rw [this]; rfl
theorem nw_bits {N k : Nat} (hN : N < 32) (hk : k < 2 ^ N) : ∀ j, (nw k).getLsbD j = true → j < N := by
  intro j hj
  rcases Nat.lt_or_ge j N with h | h
  · exact h
  · have hlt : (nw k).toNat < 2 ^ N := by
      unfold nw
      rw [BitVec.toNat_ofNat]
      exact Nat.lt_of_le_of_lt (Nat.mod_le _ _) hk
    rw [bit_lt hlt h] at hj
    cases hj
theorem largest_inv {t : List (BitVec 32)} {rel : Nat → Nat → Bool} {N : Nat} (hN : N < 32) (ht : ∀ i j, j < i → i < N → (lw t i).getLsbD j = rel i j) : ∀ k, k ≤ 2 ^ N →
    (Clq t (largestTo rel N k) ∧ (∀ j, (largestTo rel N k).getLsbD j = true → j < N) ∧ (largestTo rel N k = w0 ∨ wN (largestTo rel N k) < k)) ∧ ∀ m, m < k → Clq t (nw m) → ¬ Better (nw m) (largestTo rel N k)
  | 0, _ => ⟨⟨fun i j _ hi => by (rw [largestTo, b_0] at hi; cases hi), fun j hj => by (rw [largestTo, b_0] at hj; cases hj), .inl rfl⟩, fun m hm => by omega⟩
  | k + 1, hk => by
    obtain ⟨⟨h1, h2, h3⟩, h4⟩ := largest_inv hN ht k (by omega)
    have hp : 2 ^ N < 2 ^ 32 := Nat.pow_lt_pow_right (by omega) hN
    have hkw : wN (nw k) = k := wN_nw (by omega)
    have hb := nw_bits hN (show k < 2 ^ N by omega)
    have hc := together_clq (rel := rel) ht hb
    rw [largestTo]
    split
    · rename_i h
      refine ⟨⟨hc.1 h.2, hb, .inr (by omega)⟩, fun m hm hcm hbet => ?_⟩
      by_cases hmk : m = k
      · rw [hmk] at hbet
        exact Better.irrefl _ hbet
      · refine h4 m (by omega) hcm (hbet.trans ?_)
        exact .inl h.1
    · rename_i h
      refine ⟨⟨h1, h2, h3.imp_right fun h3 => by omega⟩, fun m hm hcm => ?_⟩
      by_cases hmk : m = k
      · intro hbet
        subst hmk
        have hno : ¬ pop (largestTo rel N m) < pop (nw m) := fun hlt => h ⟨hlt, hc.2 hcm⟩
        have hmw : wN (nw m) = m := hkw
        unfold Better at hbet
        rcases h3 with h3 | h3
        · rw [h3] at hbet hno
          have : wN w0 = 0 := rfl
          omega
        · omega
      · exact h4 m (by omega) hcm
theorem found_largest {t : List (BitVec 32)} {rel : Nat → Nat → Bool} {N : Nat} (hN : N < 32) (ht : ∀ i j, j < i → i < N → (lw t i).getLsbD j = rel i j) {b : BitVec 32} (h : Found t w0 (maskW N) w0 b) : b = largestTo rel N (2 ^ N) := by
  obtain ⟨⟨h1, h2, h3⟩, h4⟩ := largest_inv hN ht (2 ^ N) (Nat.le_refl _)
  have hc0 : Cand t w0 (maskW N) w0 := ⟨fun _ h => h, fun _ h => .inl h, fun i j _ hi => by rw [b_0] at hi; cases hi⟩
  have hcb : Cand t w0 (maskW N) b := by
    rcases h.src with e | hs
    · rw [e]; exact hc0
    · exact hs
  refine better_eq ?_ (h.top _ ⟨fun j hj => by (rw [b_0] at hj; cases hj), fun j hj => .inr (by rw [b_mask hN]; simpa using h2 j hj), h1⟩)
  have hlt : b.toNat < 2 ^ N := Nat.lt_pow_two_of_testBit _ fun j hj => by
    cases hb : b.toNat.testBit j with
    | false => rfl
    | true =>
      rcases hcb.hi j hb with h5 | h5
      · rw [b_0] at h5; cases h5
      · rw [b_mask hN] at h5
        simp at h5
        omega
  have := h4 b.toNat hlt
  rw [nw_toNat] at this
  exact this hcb.cl
end Go.Proofs.YtnpcbbdfpbnakaaDoor
