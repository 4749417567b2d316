/- The largest set of which each two are together, in plain Lean: what a search over words finds; the first one by number. Conditions: none. -/
import Derived.Test.YtdinknpagklkjaaLotsBests3
import Derived.Test.YtdinknpagklkjaaLotsBests1
import Derived.Test.YtdinknpagklkjaaLotsBests2
import Derived.Test.YtdinknpagklkjaaProg
import Derived.Laws.Bits64b
import Derived.Lib.TrailingZeros
import Derived.RangeFuncNested
import Derived.RangeFuncBound
import Derived.RangeFuncCalls
import Derived.RangeFuncLeaves
import Derived.Shelf.Abstract
import Derived.Shelf.RegionOpen
import Derived.OwnWalkIn
import Derived.TacticsInMore
import Derived.LoopNIn
import Derived.LoopIn
namespace Go.Proofs.Ytdinknpagklkjaa
open Go.RowKit

theorem all_take_succ {α : Type} (p : α → Bool) (l : List α) (k : Nat) (hk : k < l.length) : (l.take (k + 1)).all p = ((l.take k).all p && p l[k]) := by
  rw [List.take_succ_eq_append_getElem hk, List.all_append]
  simp
theorem all_of_get {α : Type} {p : α → Bool} {l : List α} {k : Nat} (hk : k < l.length) (h : p l[k] = false) : l.all p = false := by
  rw [List.all_eq_false]
  exact ⟨_, List.getElem_mem hk, by rw [h]; simp⟩
theorem mask_lim {N : Nat} (hN : N ≤ 10) : wN (wAdd (wSub (wShl w1 N) w1) w1) = (2 ^ N : Nat) := by
  have e : wAdd (wSub (wShl w1 N) w1) w1 = wShl w1 N := by
    unfold wAdd wSub
    exact BitVec.sub_add_cancel _ _
  rw [e, wN_pow (by omega)]
theorem pow_le_1024 {N : Nat} (hN : N ≤ 10) : 2 ^ N ≤ 1024 := by
  have := Nat.pow_le_pow_right (show 0 < 2 by omega) hN
  simpa using this

/-- The length of a number in bits. -/
def bl (n : Nat) : Nat := if n = 0 then 0 else n.log2 + 1
theorem bl_lt (n : Nat) : n < 2 ^ bl n := by
  unfold bl
  split
  · omega
  · exact Nat.lt_log2_self
theorem bl_ge {n : Nat} (h : n ≠ 0) : 2 ^ (bl n - 1) ≤ n := by
  unfold bl
  rw [if_neg h]
  exact Nat.log2_self_le h
theorem bl_pos {n : Nat} (h : n ≠ 0) : 0 < bl n := by
  unfold bl
  rw [if_neg h]
  omega
theorem bl_unique {n m : Nat} (h0 : 2 ^ m ≤ n) (h1 : n < 2 ^ (m + 1)) : bl n = m + 1 := by
  have hp := Nat.two_pow_pos m
  have hn : n ≠ 0 := by omega
  have h2 := bl_lt n
  have h3 := bl_ge hn
  have h4 := bl_pos hn
  have a1 : m < bl n := (Nat.pow_lt_pow_iff_right (by omega : 1 < 2)).1 (Nat.lt_of_le_of_lt h0 h2)
  have a2 : bl n - 1 < m + 1 := (Nat.pow_lt_pow_iff_right (by omega : 1 < 2)).1 (Nat.lt_of_le_of_lt h3 h1)
  omega
theorem bl_shift {n k : Nat} (h : 2 ^ k ≤ n) : bl n = bl (n / 2 ^ k) + k := by
  have hp := Nat.two_pow_pos k
  have hq : n / 2 ^ k ≠ 0 := by
    have := Nat.div_pos h hp
    omega
  obtain ⟨m, hm⟩ : ∃ m, bl (n / 2 ^ k) = m + 1 := ⟨bl (n / 2 ^ k) - 1, by have := bl_pos hq; omega⟩
  have h2 := bl_lt (n / 2 ^ k)
  have h3 := bl_ge hq
  rw [hm] at h2 h3 ⊢
  rw [Nat.add_sub_cancel] at h3
  rw [bl_unique (m := m + k) ?_ ?_]
  · omega
  · rw [Nat.pow_add]
    exact (Nat.le_div_iff_mul_le hp).1 h3
  · rw [show m + k + 1 = (m + 1) + k by omega, Nat.pow_add]
    exact (Nat.div_lt_iff_lt_mul hp).1 h2
theorem bl_top {x : BitVec 32} (h : x ≠ w0) : ∃ i, bl x.toNat = i + 1 ∧ i < 32 ∧ x.getLsbD i = true ∧ ∀ j, x.getLsbD j = true → j ≤ i := by
  have hn : x.toNat ≠ 0 := fun h0 => h (BitVec.eq_of_toNat_eq (by rw [h0]; rfl))
  obtain ⟨i, hi⟩ : ∃ m, bl x.toNat = m + 1 := ⟨bl x.toNat - 1, by have := bl_pos hn; omega⟩
  have h2 := bl_lt x.toNat
  have h3 := bl_ge hn
  rw [hi] at h2 h3
  rw [Nat.add_sub_cancel] at h3
  have hbit : x.getLsbD i = true := by
    cases hb : x.getLsbD i with
    | true => rfl
    | false =>
      exfalso
      have : x.toNat < 2 ^ i := Nat.lt_pow_two_of_testBit _ fun j hj => by
        rcases Nat.eq_or_lt_of_le hj with rfl | hj
        · exact hb
        · exact Nat.testBit_lt_two_pow (Nat.lt_of_lt_of_le h2 (Nat.pow_le_pow_right (by omega) hj))
      omega
  refine ⟨i, hi, ?_, hbit, fun j hj => ?_⟩
  · rcases Nat.lt_or_ge i 32 with h | h
    · exact h
    · rw [b_ge x h] at hbit; cases hbit
  · rcases Nat.lt_or_ge i j with h | h
    · rw [bit_lt h2 h] at hj; cases hj
    · exact h
theorem pop_mono {x y : BitVec 32} (h : ∀ j, x.getLsbD j = true → y.getLsbD j = true) : pop x ≤ pop y := List.countP_mono_left fun j _ hj => h j hj

/-- Each two of a set are together, by the words. -/
def Clq (t : List (BitVec 32)) (s : BitVec 32) : Prop := ∀ i j : Nat, j < i → s.getLsbD i = true → s.getLsbD j = true → (lw t i).getLsbD j = true
/-- Larger, or as large and the lesser number. -/
def Better (a b : BitVec 32) : Prop := pop b < pop a ∨ (pop b = pop a ∧ wN a < wN b)
theorem Better.trans {a b c : BitVec 32} (h : Better a b) (k : Better b c) : Better a c := by unfold Better at *; omega
theorem Better.irrefl (a : BitVec 32) : ¬ Better a a := by unfold Better; omega
theorem better_eq {a b : BitVec 32} (h : ¬ Better a b) (k : ¬ Better b a) : a = b := wN_inj (by unfold Better at *; omega)
structure Cand (t : List (BitVec 32)) (now may s : BitVec 32) : Prop where
  lo : ∀ j, now.getLsbD j = true → s.getLsbD j = true
  hi : ∀ j, s.getLsbD j = true → now.getLsbD j = true ∨ may.getLsbD j = true
  cl : Clq t s
/-- What a search over those candidates makes of a best one. -/
structure Found (t : List (BitVec 32)) (now may b0 b : BitVec 32) : Prop where
  src : b = b0 ∨ Cand t now may b
  up : b = b0 ∨ Better b b0
  top : ∀ s, Cand t now may s → ¬ Better s b
/-- What the search keeps: who is in is with all who may come, and behind them. -/
structure Open (t : List (BitVec 32)) (now may : BitVec 32) : Prop where
  cl : Clq t now
  ok : ∀ a b, now.getLsbD a = true → may.getLsbD b = true → b < a ∧ (lw t a).getLsbD b = true
def without (may : BitVec 32) (i : Nat) : BitVec 32 := wBut may (wShl w1 i)
theorem without_bit (may : BitVec 32) {i : Nat} (hi : i < 32) (j : Nat) : (without may i).getLsbD j = (may.getLsbD j && !decide (j = i)) := by
  unfold without
  rw [b_but, b_one]
  by_cases hj : j < 32
  · simp [hj]
  · rw [b_ge may (by omega)]; simp
theorem with_bit (now : BitVec 32) {i : Nat} (hi : i < 32) (j : Nat) : (wOr now (wShl w1 i)).getLsbD j = (now.getLsbD j || decide (j = i)) := by
  rw [b_or, b_one]
  by_cases hj : j = i
  · subst hj; simp [hi]
  · simp [hj]
theorem open_skip {t : List (BitVec 32)} {now may : BitVec 32} {i : Nat} (hi : i < 32) (h : Open t now may) : Open t now (without may i) :=
  ⟨h.cl, fun a b ha hb => h.ok a b ha (by rw [without_bit may hi] at hb; simp at hb; exact hb.1)⟩
theorem open_take {t : List (BitVec 32)} {now may : BitVec 32} {i : Nat} (hi : i < 32) (hm : may.getLsbD i = true) (htop : ∀ j, may.getLsbD j = true → j ≤ i) (h : Open t now may) : Open t (wOr now (wShl w1 i)) (wAnd (without may i) (lw t i)) := by
  refine ⟨fun a b hba ha hb => ?_, fun a b ha hb => ?_⟩
  · rw [with_bit now hi] at ha hb
    simp only [Bool.or_eq_true, decide_eq_true_eq] at ha hb
    rcases ha with ha | rfl
    · rcases hb with hb | rfl
      · exact h.cl a b hba ha hb
      · exact (h.ok a b ha hm).2
    · rcases hb with hb | rfl
      · have := (h.ok b a hb hm).1
        omega
      · omega
  · rw [with_bit now hi] at ha
    rw [b_and, without_bit may hi] at hb
    simp only [Bool.or_eq_true, Bool.and_eq_true, decide_eq_true_eq, Bool.not_eq_true', decide_eq_false_iff_not] at ha hb
    rcases ha with ha | rfl
    · exact h.ok a b ha hb.1.1
    · have := htop b hb.1.1
      exact ⟨by omega, hb.2⟩
theorem cand_split {t : List (BitVec 32)} {now may s : BitVec 32} {i : Nat} (hi : i < 32) (hm : may.getLsbD i = true) (htop : ∀ j, may.getLsbD j = true → j ≤ i) (h : Cand t now may s) :
    Cand t now (without may i) s ∨ Cand t (wOr now (wShl w1 i)) (wAnd (without may i) (lw t i)) s := by
  cases hs : s.getLsbD i with
  | false =>
    refine .inl ⟨h.lo, fun j hj => ?_, h.cl⟩
    rcases h.hi j hj with h1 | h1
    · exact .inl h1
    · have : j ≠ i := fun e => by rw [e, hs] at hj; cases hj
      exact .inr (by rw [without_bit may hi, h1]; simp [this])
  | true =>
    refine .inr ⟨fun j hj => ?_, fun j hj => ?_, h.cl⟩
    · rw [with_bit now hi] at hj
      simp only [Bool.or_eq_true, decide_eq_true_eq] at hj
      rcases hj with hj | rfl
      · exact h.lo j hj
      · exact hs
    · rw [with_bit now hi, b_and, without_bit may hi]
      simp only [Bool.or_eq_true, Bool.and_eq_true, decide_eq_true_eq, Bool.not_eq_true', decide_eq_false_iff_not]
      by_cases hji : j = i
      · exact .inl (.inr hji)
      · rcases h.hi j hj with h1 | h1
        · exact .inl (.inl h1)
        · have := htop j h1
          exact .inr ⟨⟨h1, hji⟩, h.cl i j (by omega) hs hj⟩
theorem cand_skip {t : List (BitVec 32)} {now may s : BitVec 32} {i : Nat} (hi : i < 32) (h : Cand t now (without may i) s) : Cand t now may s :=
  ⟨h.lo, fun j hj => (h.hi j hj).imp_right fun h1 => by rw [without_bit may hi] at h1; simp at h1; exact h1.1, h.cl⟩
theorem cand_take {t : List (BitVec 32)} {now may s : BitVec 32} {i : Nat} (hi : i < 32) (hm : may.getLsbD i = true) (h : Cand t (wOr now (wShl w1 i)) (wAnd (without may i) (lw t i)) s) : Cand t now may s := by
  refine ⟨fun j hj => h.lo j (by rw [with_bit now hi, hj]; rfl), fun j hj => ?_, h.cl⟩
  rcases h.hi j hj with h1 | h1
  · rw [with_bit now hi] at h1
    simp only [Bool.or_eq_true, decide_eq_true_eq] at h1
    rcases h1 with h1 | rfl
    · exact .inl h1
    · exact .inr hm
  · rw [b_and, without_bit may hi] at h1
    simp only [Bool.and_eq_true] at h1
    exact .inr h1.1.1
theorem found_join {t : List (BitVec 32)} {now may b0 b1 b2 : BitVec 32} {i : Nat} (hi : i < 32) (hm : may.getLsbD i = true) (htop : ∀ j, may.getLsbD j = true → j ≤ i)
    (h1 : Found t now (without may i) b0 b1) (h2 : Found t (wOr now (wShl w1 i)) (wAnd (without may i) (lw t i)) b1 b2) : Found t now may b0 b2 := by
  refine ⟨?_, ?_, fun s hs hb => ?_⟩
  · rcases h2.src with e | h
    · rw [e]
      exact h1.src.imp_right (cand_skip hi)
    · exact .inr (cand_take hi hm h)
  · rcases h2.up with e | h
    · rw [e]; exact h1.up
    · rcases h1.up with e1 | h'
      · rw [e1] at h; exact .inr h
      · exact .inr (h.trans h')
  · rcases cand_split hi hm htop hs with h | h
    · refine h1.top s h ?_
      rcases h2.up with e | h'
      · rwa [e] at hb
      · exact hb.trans h'
    · exact h2.top s h hb
theorem found_leaf {t : List (BitVec 32)} {now b0 : BitVec 32} (h : Open t now w0) (hb : Better now b0) : Found t now w0 b0 now := by
  refine ⟨.inr ⟨fun _ h => h, fun _ h => .inl h, h.cl⟩, .inr hb, fun s hs hbs => ?_⟩
  have : s = now := w_ext fun m _ => by
    rw [Bool.eq_iff_iff]
    refine ⟨fun h1 => ?_, hs.lo m⟩
    rcases hs.hi m h1 with h2 | h2
    · exact h2
    · rw [b_0] at h2; cases h2
  rw [this] at hbs
  exact Better.irrefl _ hbs
theorem found_same {t : List (BitVec 32)} {now b0 : BitVec 32} (hb : ¬ Better now b0) : Found t now w0 b0 b0 := by
  refine ⟨.inl rfl, .inl rfl, fun s hs hbs => ?_⟩
  have : s = now := w_ext fun m _ => by
    rw [Bool.eq_iff_iff]
    refine ⟨fun h1 => ?_, hs.lo m⟩
    rcases hs.hi m h1 with h2 | h2
    · exact h2
    · rw [b_0] at h2; cases h2
  rw [this] at hbs
  exact hb hbs
theorem found_cut {t : List (BitVec 32)} {now may b0 : BitVec 32} (h : pop (wOr now may) < pop b0) : Found t now may b0 b0 := by
  refine ⟨.inl rfl, .inl rfl, fun s hs hbs => ?_⟩
  have : pop s ≤ pop (wOr now may) := pop_mono fun j hj => by
    rw [b_or]
    rcases hs.hi j hj with h1 | h1 <;> simp [h1]
  unfold Better at hbs
  omega

/-- The first largest set by number: two of it must be as rel tells. -/
def together (rel : Nat → Nat → Bool) (N : Nat) (s : BitVec 32) : Bool := (List.range N).all fun i => (List.range i).all fun j => !(bitB s i && bitB s j && !rel i j)
def largestTo (rel : Nat → Nat → Bool) (N : Nat) : Nat → BitVec 32
  | 0 => w0
  | k + 1 => if pop (largestTo rel N k) < pop (nw k) ∧ together rel N (nw k) = true then nw k else largestTo rel N k
theorem largest_take {rel : Nat → Nat → Bool} {N k : Nat} (h1 : pop (largestTo rel N k) < pop (nw k)) (h2 : together rel N (nw k) = true) : largestTo rel N (k + 1) = nw k := by rw [largestTo, if_pos ⟨h1, h2⟩]
theorem largest_skip1 {rel : Nat → Nat → Bool} {N k : Nat} (h1 : ¬ pop (largestTo rel N k) < pop (nw k)) : largestTo rel N (k + 1) = largestTo rel N k := by rw [largestTo, if_neg (fun h => h1 h.1)]
theorem largest_skip2 {rel : Nat → Nat → Bool} {N k : Nat} (h2 : together rel N (nw k) = false) : largestTo rel N (k + 1) = largestTo rel N k := by rw [largestTo, if_neg (fun h => by rw [h2] at h; cases h.2)]
theorem together_clq {t : List (BitVec 32)} {rel : Nat → Nat → Bool} {N : Nat} (ht : ∀ i j, j < i → i < N → (lw t i).getLsbD j = rel i j) {s : BitVec 32} (hs : ∀ j, s.getLsbD j = true → j < N) : together rel N s = true ↔ Clq t s := by
  unfold together Clq
  rw [List.all_eq_true]
  constructor
  · intro h i j hji hi hj
    have h1 := List.all_eq_true.1 (h i (List.mem_range.2 (hs i hi))) j (List.mem_range.2 hji)
    rw [bitB_nat, bitB_nat, hi, hj] at h1
    rw [ht i j hji (hs i hi)]
    simpa using h1
  · intro h i hi
    rw [List.all_eq_true]
    intro j hj
    rw [bitB_nat, bitB_nat]
    cases h1 : s.getLsbD i with
    | false => rfl
    | true =>
      cases h2 : s.getLsbD j with
      | false => rfl
      | true =>
        have := h i j (List.mem_range.1 hj) h1 h2
        rw [ht i j (List.mem_range.1 hj) (List.mem_range.1 hi)] at this
        rw [this]; rfl
theorem nw_bits {N k : Nat} (hN : N < 32) (hk : k < 2 ^ N) : ∀ j, (nw k).getLsbD j = true → j < N := by
  intro j hj
  rcases Nat.lt_or_ge j N with h | h
  · exact h
  · have hlt : (nw k).toNat < 2 ^ N := by
      unfold nw
      rw [BitVec.toNat_ofNat]
      exact Nat.lt_of_le_of_lt (Nat.mod_le _ _) hk
    rw [bit_lt hlt h] at hj
    cases hj
theorem largest_inv {t : List (BitVec 32)} {rel : Nat → Nat → Bool} {N : Nat} (hN : N < 32) (ht : ∀ i j, j < i → i < N → (lw t i).getLsbD j = rel i j) : ∀ k, k ≤ 2 ^ N →
    (Clq t (largestTo rel N k) ∧ (∀ j, (largestTo rel N k).getLsbD j = true → j < N) ∧ (largestTo rel N k = w0 ∨ wN (largestTo rel N k) < k)) ∧ ∀ m, m < k → Clq t (nw m) → ¬ Better (nw m) (largestTo rel N k)
  | 0, _ => ⟨⟨fun i j _ hi => by (rw [largestTo, b_0] at hi; cases hi), fun j hj => by (rw [largestTo, b_0] at hj; cases hj), .inl rfl⟩, fun m hm => by omega⟩
  | k + 1, hk => by
    obtain ⟨⟨h1, h2, h3⟩, h4⟩ := largest_inv hN ht k (by omega)
    have hp : 2 ^ N < 2 ^ 32 := Nat.pow_lt_pow_right (by omega) hN
    have hkw : wN (nw k) = k := wN_nw (by omega)
    have hb := nw_bits hN (show k < 2 ^ N by omega)
    have hc := together_clq (rel := rel) ht hb
    rw [largestTo]
    split
    · rename_i h
      refine ⟨⟨hc.1 h.2, hb, .inr (by omega)⟩, fun m hm hcm hbet => ?_⟩
      by_cases hmk : m = k
      · rw [hmk] at hbet
        exact Better.irrefl _ hbet
      · refine h4 m (by omega) hcm (hbet.trans ?_)
        exact .inl h.1
    · rename_i h
      refine ⟨⟨h1, h2, h3.imp_right fun h3 => by omega⟩, fun m hm hcm => ?_⟩
      by_cases hmk : m = k
      · intro hbet
        subst hmk
        have hno : ¬ pop (largestTo rel N m) < pop (nw m) := fun hlt => h ⟨hlt, hc.2 hcm⟩
        have hmw : wN (nw m) = m := hkw
        unfold Better at hbet
        rcases h3 with h3 | h3
        · rw [h3] at hbet hno
          have : wN w0 = 0 := rfl
          omega
        · omega
      · exact h4 m (by omega) hcm
theorem found_largest {t : List (BitVec 32)} {rel : Nat → Nat → Bool} {N : Nat} (hN : N < 32) (ht : ∀ i j, j < i → i < N → (lw t i).getLsbD j = rel i j) {b : BitVec 32} (h : Found t w0 (maskW N) w0 b) : b = largestTo rel N (2 ^ N) := by
  obtain ⟨⟨h1, h2, h3⟩, h4⟩ := largest_inv hN ht (2 ^ N) (Nat.le_refl _)
  have hc0 : Cand t w0 (maskW N) w0 := ⟨fun _ h => h, fun _ h => .inl h, fun i j _ hi => by rw [b_0] at hi; cases hi⟩
  have hcb : Cand t w0 (maskW N) b := by
    rcases h.src with e | hs
    · rw [e]; exact hc0
    · exact hs
  refine better_eq ?_ (h.top _ ⟨fun j hj => by (rw [b_0] at hj; cases hj), fun j hj => .inr (by rw [b_mask hN]; simpa using h2 j hj), h1⟩)
  have hlt : b.toNat < 2 ^ N := Nat.lt_pow_two_of_testBit _ fun j hj => by
    cases hb : b.toNat.testBit j with
    | false => rfl
    | true =>
      rcases hcb.hi j hb with h5 | h5
      · rw [b_0] at h5; cases h5
      · rw [b_mask hN] at h5
        simp at h5
        omega
  have := h4 b.toNat hlt
  rw [nw_toNat] at this
  exact this hcb.cl
end Go.Proofs.Ytdinknpagklkjaa

/- What Len32 computes of a word. Conditions: none. -/
namespace Go.Proofs.Ytdinknpagklkjaa
open Go.RowKit
attribute [local go_sem ↓] w_and w_or w_xor w_andNot w_and1 w_and255 w_xor1 w_or0 w_shl w_shl1 w_shr w_sub w_add w_sub1 w_add1
attribute [local go_sem] w_eq0 w_ne0 w_eq1 w_eq w_ne

abbrev blTab : ByteArray := ⟨#[0, 1, 2, 2, 3, 3, 3, 3, 4, 4, 4, 4, 4, 4, 4, 4, 5, 5, 5, 5, 5, 5, 5, 5, 5, 5, 5, 5, 5, 5, 5, 5, 6, 6, 6, 6, 6, 6, 6, 6, 6, 6, 6, 6, 6, 6, 6, 6, 6, 6, 6, 6, 6, 6, 6, 6, 6, 6, 6, 6, 6, 6, 6, 6, 7, 7, 7, 7, 7, 7, 7, 7, 7, 7, 7, 7, 7, 7, 7, 7, 7, 7, 7, 7, 7, 7, 7, 7, 7, 7, 7, 7, 7, 7, 7, 7, 7, 7, 7, 7, 7, 7, 7, 7, 7, 7, 7, 7, 7, 7, 7, 7, 7, 7, 7, 7, 7, 7, 7, 7, 7, 7, 7, 7, 7, 7, 7, 7, 8, 8, 8, 8, 8, 8, 8, 8, 8, 8, 8, 8, 8, 8, 8, 8, 8, 8, 8, 8, 8, 8, 8, 8, 8, 8, 8, 8, 8, 8, 8, 8, 8, 8, 8, 8, 8, 8, 8, 8, 8, 8, 8, 8, 8, 8, 8, 8, 8, 8, 8, 8, 8, 8, 8, 8, 8, 8, 8, 8, 8, 8, 8, 8, 8, 8, 8, 8, 8, 8, 8, 8, 8, 8, 8, 8, 8, 8, 8, 8, 8, 8, 8, 8, 8, 8, 8, 8, 8, 8, 8, 8, 8, 8, 8, 8, 8, 8, 8, 8, 8, 8, 8, 8, 8, 8, 8, 8, 8, 8, 8, 8, 8, 8, 8, 8, 8, 8, 8, 8, 8, 8, 8, 8, 8, 8, 8, 8]⟩
theorem blTab_size : blTab.size = 256 := by decide +kernel
theorem blTab_fin : ∀ i : Fin 256, (blTab[i.val]'(by rw [blTab_size]; exact i.isLt)).toNat = bl i.val := by decide +kernel
theorem blTab_at {i : Nat} (h : i < blTab.size) : (blTab[i]'h).toNat = bl i := blTab_fin ⟨i, by rw [blTab_size] at h; exact h⟩
theorem bl_le {n k : Nat} (h : n < 2 ^ k) : bl n ≤ k := by
  rcases Nat.eq_zero_or_pos n with rfl | hp
  · simp [bl]
  · have h2 := bl_ge (n := n) (by omega)
    have h4 := bl_pos (n := n) (by omega)
    have := (Nat.pow_lt_pow_iff_right (by omega : 1 < 2)).1 (Nat.lt_of_le_of_lt h2 h)
    omega
theorem shr_nat (x : BitVec 32) (k : Nat) : (wShr x k).toNat = x.toNat / 2 ^ k := by
  unfold wShr
  rw [BitVec.toNat_ushiftRight, Nat.shiftRight_eq_div_pow]
theorem byte_at (y : BitVec 32) (h : y.toNat < 256) : (wN y % 256).toNat = y.toNat := by
  unfold wN
  omega
theorem wrap_small (n : Nat) (h : n ≤ 64) : wrap64 (n : Int) = n := by
  unfold wrap64
  omega
set_option maxRecDepth 100000 in
theorem Len32_any (x : BitVec 32) (w : World) :
    Calls Try.prog 111 #[.int .u32 (wN x)] w fun e w' => e = .returned (.int .i64 (bl x.toNat)) ∧ w = w' := by
  have hx := x.isLt
  have e0 : wN x = (x.toNat : Int) := rfl
  have s1 := shr_nat x 16
  have s2 := shr_nat x 8
  have s3 := shr_nat (wShr x 16) 8
  have e1 : wN (wShr x 16) = ((wShr x 16).toNat : Int) := rfl
  have b1 := @bl_shift x.toNat 16
  have b2 := @bl_shift x.toNat 8
  have b3 := @bl_shift (wShr x 16).toNat 8
  rw [← s1] at b1
  rw [← s2] at b2
  rw [← s3] at b3
  by_cases h1 : 65536 ≤ wN x
  · by_cases h2 : 256 ≤ wN (wShr x 16)
    · have h3 : (wShr (wShr x 16) 8).toNat < 256 := by omega
      have h4 := bl_le (n := (wShr (wShr x 16) 8).toNat) (k := 8) (by omega)
      have hb : bl x.toNat = 24 + bl (wShr (wShr x 16) 8).toNat := by rw [b1 (by omega), b3 (by omega)]; omega
      have HB := Lib.hid hb
      have H3 := Lib.hid h3
      clear hb b1 b2 b3 e0 e1 s1 s2 s3 hx h3
      go_enter Try.func111, Try.ntmps111
      go_wp2_with fail
      go_ret
      refine ⟨ret_i64 ?_, rfl⟩
      rw [blTab_at, byte_at _ H3.out, wrap_small _ (by omega), HB.out]
      unfold wrap64
      omega
    · have h3 : (wShr x 16).toNat < 256 := by omega
      have h4 := bl_le (n := (wShr x 16).toNat) (k := 8) (by omega)
      have hb : bl x.toNat = 16 + bl (wShr x 16).toNat := by rw [b1 (by omega)]; omega
      have HB := Lib.hid hb
      have H3 := Lib.hid h3
      clear hb b1 b2 b3 e0 e1 s1 s2 s3 hx h3
      go_enter Try.func111, Try.ntmps111
      go_wp2_with fail
      go_ret
      refine ⟨ret_i64 ?_, rfl⟩
      rw [blTab_at, byte_at _ H3.out, wrap_small _ (by omega), HB.out]
      unfold wrap64
      omega
  · by_cases h2 : 256 ≤ wN x
    · have h3 : (wShr x 8).toNat < 256 := by omega
      have h4 := bl_le (n := (wShr x 8).toNat) (k := 8) (by omega)
      have hb : bl x.toNat = 8 + bl (wShr x 8).toNat := by rw [b2 (by omega)]; omega
      have HB := Lib.hid hb
      have H3 := Lib.hid h3
      clear hb b1 b2 b3 e0 e1 s1 s2 s3 hx h3
      have hd : decide (65536 ≤ wN x) = false := decide_eq_false h1
      clear h1
      go_enter Try.func111, Try.ntmps111
      go_wp2_with fail
      go_ret
      refine ⟨ret_i64 ?_, rfl⟩
      rw [blTab_at, byte_at _ H3.out, wrap_small _ (by omega), HB.out]
      unfold wrap64
      omega
    · have h3 : x.toNat < 256 := by omega
      have h4 := bl_le (n := x.toNat) (k := 8) (by omega)
      have H3 := Lib.hid h3
      clear b1 b2 b3 e0 e1 s1 s2 s3 hx h3
      have hd : decide (65536 ≤ wN x) = false := decide_eq_false h1
      clear h1
      go_enter Try.func111, Try.ntmps111
      go_wp2_with fail
      go_ret
      refine ⟨ret_i64 ?_, rfl⟩
      rw [blTab_at, byte_at _ H3.out, wrap_small _ (by omega)]
      unfold wrap64
      omega
end Go.Proofs.Ytdinknpagklkjaa

/- All sets within a set, by s = (s - 1) & w, in plain Lean. Conditions: none. -/
namespace Go.Proofs.Ytdinknpagklkjaa

theorem bool_or (b : Bool) : b = false ∨ b = true := by cases b <;> simp
theorem and_parts (a b : Nat) : a &&& b = 2 * ((a / 2) &&& (b / 2)) + (if a % 2 = 1 ∧ b % 2 = 1 then 1 else 0) := by
  have h1 : (a &&& b) / 2 = (a / 2) &&& (b / 2) := by simpa using (Nat.and_div_two_pow (a := a) (b := b) (n := 1))
  have h2 := Nat.and_mod_two_pow (a := a) (b := b) (n := 1)
  rw [Nat.pow_one] at h2
  have h3 : (a % 2 &&& b % 2) = if a % 2 = 1 ∧ b % 2 = 1 then 1 else 0 := by
    rcases Nat.mod_two_eq_zero_or_one a with e | e <;> rcases Nat.mod_two_eq_zero_or_one b with f | f <;> rw [e, f] <;> rfl
  rw [h3] at h2
  rw [← h1, ← h2]
  omega
/-- Within w the one that comes next below s. -/
theorem sub_next : ∀ (w s t : Nat), s &&& w = s → t &&& w = t → t < s → t ≤ (s - 1) &&& w := by
  intro w
  induction w using Nat.strongRecOn with
  | ind w ih =>
    intro s t hs ht hlt
    by_cases hw : w = 0
    · subst hw
      rw [Nat.and_zero] at hs
      omega
    · have hs' := and_parts s w
      have ht' := and_parts t w
      rw [hs] at hs'
      rw [ht] at ht'
      have hsd : (s / 2) &&& (w / 2) = s / 2 := by
        split at hs' <;> omega
      have htd : (t / 2) &&& (w / 2) = t / 2 := by
        split at ht' <;> omega
      have hp := and_parts (s - 1) w
      rcases Nat.mod_two_eq_zero_or_one s with e | e
      · have hs2 : (s - 1) / 2 = s / 2 - 1 := by omega
        have hs3 : (s - 1) % 2 = 1 := by omega
        have := ih (w / 2) (by omega) (s / 2) (t / 2) hsd htd (by omega)
        rw [hs2, hs3] at hp
        rw [hp]
        by_cases hw1 : w % 2 = 1
        · rw [if_pos ⟨rfl, hw1⟩]; omega
        · rw [if_neg (fun h => hw1 h.2)]
          have : t % 2 = 0 := by
            rcases Nat.mod_two_eq_zero_or_one t with f | f
            · exact f
            · exfalso; rw [if_neg (fun h => hw1 h.2)] at ht'; omega
          omega
      · have hs2 : (s - 1) / 2 = s / 2 := by omega
        rw [hs2, hsd, if_neg (by omega)] at hp
        rw [hp]
        omega
theorem sub_sub (w s : Nat) : ((s - 1) &&& w) &&& w = (s - 1) &&& w := by rw [Nat.and_assoc, Nat.and_self]
theorem sub_lt {w s : Nat} (hs : 0 < s) : (s - 1) &&& w < s := by
  have := @Nat.and_le_left (s - 1) w
  omega
/-- From s on downwards the least of x and of all f. -/
def dnM (f : Nat → Int) (w : Nat) : Nat → Nat → Int → Int
  | 0, _, x => x
  | n + 1, s, x => if s = 0 then x else dnM f w n ((s - 1) &&& w) (min x (f s))
theorem dnM_enough (f : Nat → Int) (w : Nat) : ∀ (n m s : Nat) (x : Int), s ≤ n → s ≤ m → dnM f w n s x = dnM f w m s x
  | 0, m, s, x, h, _ => by
    obtain rfl : s = 0 := by omega
    cases m with
    | zero => rfl
    | succ m => rw [dnM, dnM, if_pos rfl]
  | n + 1, 0, s, x, _, h => by
    obtain rfl : s = 0 := by omega
    rw [dnM, dnM, if_pos rfl]
  | n + 1, m + 1, s, x, h1, h2 => by
    rw [dnM, dnM]
    by_cases hs : s = 0
    · rw [if_pos hs, if_pos hs]
    · rw [if_neg hs, if_neg hs]
      have := sub_lt (w := w) (s := s) (by omega)
      exact dnM_enough f w n m _ _ (by omega) (by omega)
def dn (f : Nat → Int) (w s : Nat) (x : Int) : Int := dnM f w s s x
theorem dn_0 (f : Nat → Int) (w : Nat) (x : Int) : dn f w 0 x = x := rfl
theorem dn_s (f : Nat → Int) (w s : Nat) (x : Int) (hs : 0 < s) : dn f w s x = dn f w ((s - 1) &&& w) (min x (f s)) := by
  obtain ⟨n, rfl⟩ : ∃ n, s = n + 1 := ⟨s - 1, by omega⟩
  have hlt := sub_lt (w := w) (s := n + 1) hs
  unfold dn
  rw [dnM, if_neg (by omega)]
  exact dnM_enough f w _ _ _ _ (by omega) (Nat.le_refl _)
theorem dn_le (f : Nat → Int) (w : Nat) : ∀ (s : Nat) (x : Int), s &&& w = s → dn f w s x ≤ x ∧ ∀ t, t &&& w = t → 0 < t → t ≤ s → dn f w s x ≤ f t := by
  intro s
  induction s using Nat.strongRecOn with
  | ind s ih =>
    intro x hs
    rcases Nat.eq_zero_or_pos s with rfl | hp
    · exact ⟨Int.le_refl _, fun t _ h1 h2 => by omega⟩
    · obtain ⟨h1, h2⟩ := ih _ (sub_lt (w := w) hp) (min x (f s)) (sub_sub w s)
      rw [dn_s f w s x hp]
      refine ⟨by omega, fun t ht h0 hts => ?_⟩
      by_cases hlt : t < s
      · exact h2 t ht h0 (sub_next w s t hs ht hlt)
      · obtain rfl : t = s := by omega
        omega
theorem dn_mem (f : Nat → Int) (w : Nat) : ∀ (s : Nat) (x : Int), s &&& w = s → dn f w s x = x ∨ ∃ t, t &&& w = t ∧ 0 < t ∧ t ≤ s ∧ dn f w s x = f t := by
  intro s
  induction s using Nat.strongRecOn with
  | ind s ih =>
    intro x hs
    rcases Nat.eq_zero_or_pos s with rfl | hp
    · exact .inl rfl
    · have hlt := sub_lt (w := w) hp
      rw [dn_s f w s x hp]
      rcases ih _ hlt (min x (f s)) (sub_sub w s) with h | ⟨t, h1, h2, h3, h4⟩
      · rcases Int.le_total x (f s) with hle | hle
        · exact .inl (by rw [h]; omega)
        · exact .inr ⟨s, hs, hp, Nat.le_refl _, by rw [h]; omega⟩
      · exact .inr ⟨t, h1, h2, by omega, h4⟩
/-- The set of those below n for which p says yes. -/
def mkS (p : Nat → Bool) : Nat → Nat
  | 0 => 0
  | i + 1 => mkS p i + if p i then 2 ^ i else 0
theorem mkS_lt (p : Nat → Bool) : ∀ n, mkS p n < 2 ^ n
  | 0 => by simp [mkS]
  | n + 1 => by
    have := mkS_lt p n
    rw [mkS, Nat.pow_succ]
    split <;> omega
theorem mkS_bit (p : Nat → Bool) : ∀ n i, (mkS p n).testBit i = (decide (i < n) && p i)
  | 0, i => by simp [mkS]
  | n + 1, i => by
    have hlt := mkS_lt p n
    rw [mkS]
    by_cases hp : p n = true
    · rw [if_pos hp, Nat.add_comm]
      rcases Nat.lt_trichotomy i n with h | h | h
      · rw [Nat.testBit_two_pow_add_gt h, mkS_bit p n i, decide_eq_true h, decide_eq_true (show i < n + 1 by omega)]
      · subst h
        rw [Nat.testBit_two_pow_add_eq, mkS_bit p i i, decide_eq_false (Nat.lt_irrefl i), decide_eq_true (Nat.lt_succ_self i), hp]
        rfl
      · have h2 : 2 ^ n + mkS p n < 2 ^ i := by
          have : 2 ^ (n + 1) ≤ 2 ^ i := Nat.pow_le_pow_right (by omega) h
          rw [Nat.pow_succ] at this
          omega
        rw [Nat.testBit_lt_two_pow h2, decide_eq_false (show ¬ i < n + 1 by omega)]
        rfl
    · rw [if_neg hp, Nat.add_zero, mkS_bit p n i]
      by_cases hin : i = n
      · subst hin; simp [hp]
      · have : (decide (i < n + 1)) = decide (i < n) := by
          rw [Bool.eq_iff_iff]; simp; omega
        rw [this]
theorem bit_sub {w s : Nat} (h : s &&& w = s) {i : Nat} (hi : s.testBit i = true) : w.testBit i = true := by
  rw [← h, Nat.testBit_and, Bool.and_eq_true] at hi
  exact hi.2
theorem sub_of_bits {w s : Nat} (h : ∀ i, s.testBit i = true → w.testBit i = true) : s &&& w = s := by
  apply Nat.eq_of_testBit_eq
  intro i
  rw [Nat.testBit_and]
  cases hs : s.testBit i
  · rfl
  · rw [h i hs]; rfl
theorem sub_le {w s : Nat} (h : s &&& w = s) : s ≤ w := by
  rw [← h]
  exact Nat.and_le_right
end Go.Proofs.Ytdinknpagklkjaa

/- The lowest bit of a word: math/bits.TrailingZeros32. Conditions: its table lies in block 0 as its initialiser lays it. -/
namespace Go.Proofs.Ytdinknpagklkjaa
open Go.RowKit

/-- The table lies where it was laid. -/
def TabOk (w : World) : Prop := 0 < w.heap.size ∧ ∀ j, j < 32 → w.cell? ⟨0, j, none⟩ = some (.int .u8 (Lib.deBruijn32tab.getD j 0))
theorem TabOk.below {w w' : World} {B : Nat} (h : TabOk w) (hb : Below B w w') (hB : 0 < B) : TabOk w' :=
  ⟨Nat.lt_of_lt_of_le h.1 hb.size, fun j hj => (hb.cell (p := ⟨0, j, none⟩) hB).trans (h.2 j hj)⟩
theorem TabOk.drewN {w : World} (h : TabOk w) (n : Nat) : TabOk (w.drewN n) := h
def tz (x : BitVec 32) : Nat := Lib.ctz 32 x.toNat
theorem toNat_ne {x : BitVec 32} (h : x ≠ w0) : x.toNat ≠ 0 := fun he => h (BitVec.eq_of_toNat_eq (by rw [he]; rfl))
theorem tz_lt {x : BitVec 32} (h : x ≠ w0) : tz x < 32 := (Lib.lowest_bit 32 x.toNat (toNat_ne h) x.isLt).2
theorem low_eq {x : BitVec 32} (h : x ≠ w0) : x.toNat &&& (4294967296 - x.toNat) = 2 ^ tz x := (Lib.lowest_bit 32 x.toNat (toNat_ne h) x.isLt).1
theorem tz_odd {x : BitVec 32} (h : x ≠ w0) : ∃ m, x.toNat = 2 ^ tz x * (2 * m + 1) := by
  have h0 := toNat_ne h
  obtain ⟨m, hm, _⟩ := Lib.ctzFrom_spec 32 x.toNat (by omega) x.isLt
  refine ⟨m, ?_⟩
  have e : tz x = Lib.ctzFrom 32 x.toNat := by unfold tz Lib.ctz; rw [if_neg h0]
  rw [e]
  exact hm
theorem tz_bit {x : BitVec 32} (h : x ≠ w0) : x.getLsbD (tz x) = true := by
  obtain ⟨m, hm⟩ := tz_odd h
  rw [BitVec.getLsbD, hm, Nat.mul_comm, Nat.testBit_mul_two_pow]
  simp [Nat.testBit_zero]
theorem tz_low {x : BitVec 32} (h : x ≠ w0) {j : Nat} (hj : j < tz x) : x.getLsbD j = false := by
  obtain ⟨m, hm⟩ := tz_odd h
  rw [BitVec.getLsbD, hm, Nat.mul_comm, Nat.testBit_mul_two_pow]
  have : ¬ tz x ≤ j := by omega
  simp [this]
/-- 'x & (x - 1)': the lowest bit is gone. -/
theorem drop_low {x : BitVec 32} (h : x ≠ w0) (j : Nat) : (wAnd x (wSub x w1)).getLsbD j = (x.getLsbD j && !decide (j = tz x)) := by
  obtain ⟨m, hm⟩ := tz_odd h
  have hlt := x.isLt
  have h0 := toNat_ne h
  have hs : (wSub x w1).toNat = x.toNat - 1 := by
    unfold wSub w1
    rw [BitVec.toNat_sub]
    have : (1#32).toNat = 1 := rfl
    rw [this]
    omega
  have hp : 0 < 2 ^ tz x := Nat.two_pow_pos _
  have e2 : x.toNat - 1 = 2 ^ tz x * (2 * m) + (2 ^ tz x - 1) := by
    rw [hm, Nat.mul_add, Nat.mul_one]
    omega
  rw [b_and]
  have hb : ∀ j, (wSub x w1).getLsbD j = if j < tz x then true else if j = tz x then false else x.getLsbD j := by
    intro j
    rw [BitVec.getLsbD, hs, e2, Nat.testBit_two_pow_mul_add _ (by omega)]
    by_cases h1 : j < tz x
    · rw [if_pos h1, if_pos h1, Nat.testBit_two_pow_sub_one]
      simp [h1]
    · rw [if_neg h1, if_neg h1]
      by_cases h2 : j = tz x
      · subst h2
        simp [Nat.testBit_zero]
      · rw [if_neg h2, BitVec.getLsbD, hm, Nat.mul_comm (2 ^ tz x), Nat.testBit_mul_two_pow]
        obtain ⟨d, hd⟩ : ∃ d, j - tz x = d + 1 := ⟨j - tz x - 1, by omega⟩
        rw [hd, Nat.testBit_succ, Nat.testBit_succ]
        have e3 : 2 * m / 2 = m := by omega
        have e4 : (2 * m + 1) / 2 = m := by omega
        have : tz x ≤ j := by omega
        simp [e3, e4, this]
  rw [hb]
  by_cases h1 : j < tz x
  · rw [if_pos h1, tz_low h h1]
    simp
  · rw [if_neg h1]
    by_cases h2 : j = tz x
    · simp [h2]
    · simp [h2]
theorem bits_and_nat (a b : Nat) (ha : a < 4294967296) (hb : b < 4294967296) : bits .and .u32 (a : Int) (b : Int) = ((a &&& b : Nat) : Int) := by
  have hx : a &&& b < 2 ^ 32 := Nat.and_lt_two_pow _ (by omega)
  have h1 : (BitVec.ofInt 32 (a : Int)).toNat = a := by
    rw [BitVec.ofInt_natCast, BitVec.toNat_ofNat]; exact Nat.mod_eq_of_lt (by omega)
  have h2 : (BitVec.ofInt 32 (b : Int)).toNat = b := by
    rw [BitVec.ofInt_natCast, BitVec.toNat_ofNat]; exact Nat.mod_eq_of_lt (by omega)
  show IntKind.u32.wrap ((BitVec.ofInt 32 (a : Int) &&& BitVec.ofInt 32 (b : Int)).toNat : Int) = _
  rw [BitVec.toNat_and, h1, h2, IntKind.wrap_u32']
  omega
theorem tz_key {x : BitVec 32} (h : x ≠ w0) :
    bits BinOp.and IntKind.u32 (x.toNat : Int) (-(x.toNat : Int) % 4294967296) * 125613361 % 4294967296 / 134217728 = ((2 ^ tz x * 125613361 % 4294967296 / 134217728 : Nat) : Int) := by
  have h0 := toNat_ne h
  have hlt := x.isLt
  have e1 : -(x.toNat : Int) % 4294967296 = ((4294967296 - x.toNat : Nat) : Int) := by omega
  rw [e1, bits_and_nat x.toNat _ hlt (by omega), low_eq h]
  omega

end Go.Proofs.Ytdinknpagklkjaa

/- A range over the bits of a word ('for i := range graph.Each(w)'): what a caller owes. Conditions: the iterator keeps its word in a box of its own. -/
namespace Go.Proofs.Ytdinknpagklkjaa
open Go.RowKit Go.Shelf

/-- What a round that goes on keeps: the iterator's box, the table. -/
def KpE (bx : Nat) (t : TypeId) (W W' : World) : Prop := (∀ v, Boxed W bx t v → Boxed W' bx t v) ∧ (TabOk W → TabOk W')
theorem KpE.refl (bx : Nat) (t : TypeId) (W : World) : KpE bx t W W := ⟨fun _ h => h, fun h => h⟩
theorem KpE.trans {bx : Nat} {t : TypeId} {A B C : World} (h : KpE bx t A B) (k : KpE bx t B C) : KpE bx t A C := ⟨fun v hv => k.1 v (h.1 v hv), fun hv => k.2 (h.2 hv)⟩
theorem TabOk.block {w w' : World} (h : TabOk w) (hs : w.heap.size ≤ w'.heap.size) (hb : w'.heap[0]? = w.heap[0]?) : TabOk w' :=
  ⟨Nat.lt_of_lt_of_le h.1 hs, fun j hj => by
    have := h.2 j hj
    unfold World.cell? at this ⊢
    rw [hb]
    exact this⟩
theorem KpE.putObj {bx : Nat} {t : TypeId} (W : World) {l : Nat} (o : Obj) (h1 : bx < l) (h0 : 0 < l) : KpE bx t W (W.putObj l o) :=
  ⟨fun v hv => (World.putObj_heap_other (show bx ≠ l by omega)).trans hv, fun h => h.block (by simp) (World.putObj_heap_other (show 0 ≠ l by omega))⟩
theorem KpE.below {bx : Nat} {t : TypeId} {B : Nat} {W W' : World} (h : Below B W W') (h1 : bx < B) (h0 : 0 < B) : KpE bx t W W' :=
  ⟨fun v hv => (h.block bx h1).trans hv, fun ht => ht.below h h0⟩
theorem KpE.setCell {bx : Nat} {t : TypeId} (W : World) (p : Addr) (u : Value) (h1 : bx ≠ p.block) (h0 : 0 ≠ p.block) : KpE bx t W (W.setCell p u) :=
  ⟨fun v hv => (Below.heap_setCell W p u bx h1).trans hv, fun ht => ht.block (by simp) (Below.heap_setCell W p u 0 h0)⟩

/-- The iterator's word: whatever its caller keeps from round to round, and whatever it keeps as the iterator stores into its own box. -/
def SeqE (n : Nat) (P : Program) (gf : FuncId) (bx : Nat) (t : TypeId) (x0 : Value) (xs : List Nat) : Prop :=
  ∀ (l : Nat) (J Jx : List Nat → World → Prop) (W : World), Boxed W bx t x0 → TabOk W → (∀ s A v, J s A → J s (A.setCell ⟨bx, 0, none⟩ v)) →
    (∀ pre x W1, J pre W1 → pre ++ [x] <+: xs → YieldAt Fence.wide (n - 1) P l #[.int .i64 (x : Nat)] W1 fun e W' =>
      (e = .returned (.bool true) ∧ J (pre ++ [x]) W' ∧ KpE bx t W1 W') ∨ (e = .returned (.bool false) ∧ Jx (pre ++ [x]) W')) →
    J [] W →
    CallsIn Fence.wide n P gf (#[.func (.yield l) #[] #[]] ++ #[.pointer (some ⟨bx, 0, none⟩)]) W fun e W' => (∃ v, e = .returned v) ∧ (J xs W' ∨ ∃ pre, pre <+: xs ∧ Jx pre W')

theorem wpIn_each {P : Program} {g : Operand} {ps : Array Tmp} {assign body : Code} {Q : Exit → Act → World → Prop} {a : Act} {w : World} (n : Nat) (gf : FuncId) (bx : Nat) (t : TypeId) (x0 : Value) (xs : List Nat)
    (hg : a.eval g = .func (.func gf) #[] #[.pointer (some ⟨bx, 0, none⟩)]) (eg : ∀ args w, (callFunc gf args).run P w = .ok (.enter gf args) w)
    (hseq : SeqE (n - 1) P gf bx t x0 xs) (hps : ps.size = 1) (hbx : bx < w.heap.size) (hbox : Boxed w bx t x0) (htab : TabOk w)
    (I : List Nat → World → Prop) (Ix : Code → List Nat → World → Prop) (hI : OwnFrom w.heap.size I) (hIx : ∀ c, OwnFrom w.heap.size (Ix c)) (hst : ∀ s A v, I s A → I s (A.setCell ⟨bx, 0, none⟩ v)) (h0 : I [] w) (a₁ : Nat → Act)
    (hassign : ∀ (l : Nat) (x : Nat) (W : World) (K : Act → World → Prop), K (a₁ x) W →
      assign.wpIn (Fence.wide.inRound l) (n - 1 - 1) P (Exit.then K (fun _ _ _ => False)) { tmps := (ps.zip #[Value.int .i64 (x : Nat)]).foldl (fun t (p, v) => t.setIfInBounds p v) a.tmps, defers := [] } W)
    (hbody : ∀ (l : Nat) (pre : List Nat) (x : Nat) (W : World), I pre W → pre ++ [x] <+: xs → body.wpIn (Fence.wide.inRound l) (n - 1 - 1) P (ownPostG w.heap.size (KpE bx t) I Ix (pre ++ [x]) W) (a₁ x) W)
    (hdone : ∀ (D : Nat) (W : World), w.heap.size ≤ D → I xs W → W.heap[D]? = some (.deferred (some [])) → Q .normal { a with defers := { target := .collected D, args := #[] } :: a.defers } W)
    (hstop : ∀ (D : Nat) (c : Code) (pre : List Nat) (W : World), w.heap.size ≤ D → pre <+: xs → Ix c pre W → W.heap[D]? = some (.deferred (some [])) → c.wpIn Fence.wide n P Q { a with defers := { target := .collected D, args := #[] } :: a.defers } W) :
    (Code.rangeFunc g ps assign body).wpIn Fence.wide n P Q a w := by
  refine wpIn_rangeFunc fun fn hfn => ?_
  -- the two blocks that the statement lays: the deferred calls at D, the record at D + 1
  obtain ⟨D, hD⟩ : ∃ D, w.heap.size = D := ⟨_, rfl⟩
  let R : LoopState → Option Code → Loop := fun st pe => { state := st, pending := pe, fn := fn, tmps := a.tmps, params := ps, assign := assign, body := body, defers := D }
  obtain ⟨V, hV⟩ : ∃ V, V = (w.alloc (.deferred (some []))).alloc (.loop (R .ready none)) := ⟨_, rfl⟩
  have hrec : V.heap[D + 1]? = some (.loop (R .ready none)) := by
    have := World.alloc_heap_new (w.alloc (.deferred (some []))) (.loop (R .ready none))
    rw [World.size_alloc, hD] at this
    rw [hV]; exact this
  have hdef : V.heap[D]? = some (.deferred (some [])) := by
    rw [hV, ← hD]
    exact (Below.heap_alloc _ _ _ (by simp)).trans (World.alloc_heap_new w _)
  have hVI : I [] V := by rw [hV]; exact hI.alloc _ (hI.alloc _ h0)
  have hVb : Below w.heap.size w V := by rw [hV]; exact ((Below.refl _ w).alloc (Nat.le_refl _) _).alloc (by simp) _
  have hVbox : Boxed V bx t x0 := (hVb.block bx hbx).trans hbox
  have hVtab : TabOk V := htab.below hVb htab.1
  refine ⟨D + 1, [{ target := .collected D, args := #[] }], V, { target := .fn (.func gf) #[.pointer (some ⟨bx, 0, none⟩)], args := #[.func (.yield (D + 1)) #[] #[]] }, V, gf,
    #[.func (.yield (D + 1)) #[] #[]] ++ #[.pointer (some ⟨bx, 0, none⟩)], V, ?_, ?_, ?_, ?_, ?_, ?_⟩
  · have := run_enterLoop_outer (P := P) (w := w) fn a.tmps ps assign body
    rw [hD] at this
    rw [hV]; exact this
  · simp only [resolve, hg]
    simp [go_sem]
  · intro f' hf'
    trivial
  · simp [invoke, go_sem, eg]
  · intro h
    cases h
  · rw [hD] at hI hIx hbody hdone hstop hVb
    have hbD : bx < D := by omega
    have hfar : ∀ (A : World) (v : Value) (k : Nat), D ≤ k → (A.setCell ⟨bx, 0, none⟩ v).heap[k]? = A.heap[k]? := fun A v k hk => Below.heap_setCell A ⟨bx, 0, none⟩ v k (show k ≠ bx by omega)
    refine (hseq (D + 1) (fun pre W => I pre W ∧ W.heap[D + 1]? = some (.loop (R .ready none)) ∧ W.heap[D]? = some (.deferred (some [])))
      (fun pre W => ∃ c, Ix c pre W ∧ W.heap[D + 1]? = some (.loop (R .done (some c))) ∧ W.heap[D]? = some (.deferred (some []))) V hVbox hVtab ?_ ?_ ⟨hVI, hrec, hdef⟩).mono ?_
    · rintro s A v ⟨h1, h2, h3⟩
      exact ⟨hst s A v h1, (hfar A v _ (by omega)).trans h2, (hfar A v _ (Nat.le_refl _)).trans h3⟩
    · -- one round
      rintro pre x W ⟨hi, hl, hk⟩ hpx
      have hlt : D + 1 < W.heap.size := (Array.getElem?_eq_some_iff.1 hl).1
      have hy : (Instr.yield (D + 1) #[.int .i64 (x : Nat)]).run P W = .ok (.round (D + 1) fn ((ps.zip #[Value.int .i64 (x : Nat)]).foldl (fun t (p, v) => t.setIfInBounds p v) a.tmps) assign body) W :=
        run_yield hl (by show (1 : Nat) = ps.size; exact hps.symm)
      refine ⟨fn, _, assign, body, hy, roundIn_of_wpIn hfn (hassign _ x W _ ⟨_, run_beginRound hl rfl, ?_⟩)⟩
      obtain ⟨W2, hW2⟩ : ∃ W2, W2 = W.putObj (D + 1) (.loop { R .ready none with state := .busy }) := ⟨_, rfl⟩
      rw [← hW2]
      have hl2 : W2.heap[D + 1]? = some (.loop { R .ready none with state := .busy }) := by rw [hW2]; exact World.putObj_heap_same hlt
      have hk2 : W2.heap[D]? = some (.deferred (some [])) := by rw [hW2]; exact (World.putObj_heap_other (by omega)).trans hk
      have hi2 : I pre W2 := by rw [hW2]; exact hI.putObj _ hi (by omega) hl rfl
      have hp2 : KpE bx t W W2 := by rw [hW2]; exact KpE.putObj W _ (by omega) (by omega)
      refine wpIn_mono (hbody _ pre x W2 hi2 hpx) ?_
      have leave : ∀ (c : Code) (W3 : World), KeepsFrom D W2 W3 → Ix c (pre ++ [x]) W3 →
          ∃ v W4, (Instr.endRound (D + 1) (some c)).run P W3 = .ok v W4 ∧ ((Ending.returned v = .returned (.bool true) ∧ (I (pre ++ [x]) W4 ∧ W4.heap[D + 1]? = some (.loop (R .ready none)) ∧ W4.heap[D]? = some (.deferred (some []))) ∧ KpE bx t W W4) ∨
            (Ending.returned v = .returned (.bool false) ∧ ∃ c, Ix c (pre ++ [x]) W4 ∧ W4.heap[D + 1]? = some (.loop (R .done (some c))) ∧ W4.heap[D]? = some (.deferred (some [])))) := by
        intro c W3 hk3 hi3
        have hl3 := hk3.same _ _ (by omega) hl2 rfl
        exact ⟨_, _, run_endRound (some c) hl3, .inr ⟨rfl, c, (hIx c).putObj _ hi3 (by omega) hl3 rfl, World.putObj_heap_same (Array.getElem?_eq_some_iff.1 hl3).1, (World.putObj_heap_other (by omega)).trans (hk3.same _ _ (Nat.le_refl _) hk2 rfl)⟩⟩
      rintro e a3 W3 hp
      cases e with
      | normal =>
        obtain ⟨hk3, hkp, hi3⟩ := hp
        have hl3 := hk3.same _ _ (by omega) hl2 rfl
        exact ⟨_, _, run_endRound none hl3, .inl ⟨rfl, ⟨hI.putObj _ hi3 (by omega) hl3 rfl, World.putObj_heap_same (Array.getElem?_eq_some_iff.1 hl3).1, (World.putObj_heap_other (by omega)).trans (hk3.same _ _ (Nat.le_refl _) hk2 rfl)⟩, (hp2.trans hkp).trans (KpE.putObj W3 _ (by omega) (by omega))⟩⟩
      | ret => exact leave .ret W3 hp.1 hp.2
      | exit id => exact leave (.exit id) W3 hp.1 hp.2
      | goto t => exact leave (.goto t) W3 hp.1 hp.2
      | panic ch => exact hp.elim
      | outgrown => exact hp.elim
    · -- the iterator has returned
      rintro e W2 ⟨⟨v, rfl⟩, ⟨hi, hl, hk⟩ | ⟨pre, hpre, c, hi, hl, hk⟩⟩
      · exact ⟨none, _, run_endLoop hl (by intro h; cases h), hdone D _ (Nat.le_refl _) (hI.putObj _ hi (by omega) hl rfl) ((World.putObj_heap_other (by omega)).trans hk)⟩
      · exact ⟨some c, _, run_endLoop hl (by intro h; cases h), hstop D c pre _ (Nat.le_refl _) hpre ((hIx c).putObj _ hi (by omega) hl rfl) ((World.putObj_heap_other (by omega)).trans hk)⟩
/-- A call in a walk at the wide fence, by the callee's plain contract; the same in a round. -/
theorem wide_call {n m : Nat} {P : Program} {f : FuncId} {args : Array Value} {w : World} {R : Ending → World → Prop} (h : Calls P f args w R) : Fence.wide.fn f ∧ (Fence.wide.depth.isSome = true → 1 ≤ n) ∧ CallsIn Fence.wide m P f args w R :=
  ⟨trivial, (fun h => by cases h), callsIn_wide.2 h⟩
theorem round_call {n m l : Nat} {P : Program} {f : FuncId} {args : Array Value} {w : World} {R : Ending → World → Prop} (h : Calls P f args w R) : (Fence.wide.inRound l).fn f ∧ ((Fence.wide.inRound l).depth.isSome = true → 1 ≤ n) ∧ CallsIn (Fence.wide.inRound l) m P f args w R :=
  ⟨trivial, (fun h => by cases h), CallsIn.inRound l (callsIn_wide.2 h)⟩
theorem wide_call2 {m : Nat} {P : Program} {f : FuncId} {args : Array Value} {w : World} {R : Ending → World → Prop} (h : Calls P f args w R) : Fence.wide.fn f ∧ CallsIn Fence.wide m P f args w R :=
  ⟨trivial, callsIn_wide.2 h⟩
theorem round_call2 {m l : Nat} {P : Program} {f : FuncId} {args : Array Value} {w : World} {R : Ending → World → Prop} (h : Calls P f args w R) : (Fence.wide.inRound l).fn f ∧ CallsIn (Fence.wide.inRound l) m P f args w R :=
  ⟨trivial, CallsIn.inRound l (callsIn_wide.2 h)⟩
end Go.Proofs.Ytdinknpagklkjaa
