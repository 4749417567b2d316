/- The smallest cover: the two searches find the same. Conditions: words below 256, at most eight. -/
import Derived.Test.YthopiaggnbkjbaaDoorOrAll
import Derived.Test.YthopiaggnbkjbaaDoorBit
import Derived.Test.YthopiaggnbkjbaaDoorCount
namespace Go.Proofs.YthopiaggnbkjbaaDoor
open Go.RowKit

/-- All bits of x are y's. -/
def within (x y : BitVec 32) : Prop := ∀ b, x.getLsbD b = true → y.getLsbD b = true
theorem within_pop {x y : BitVec 32} (h : within x y) : pop x ≤ pop y := by
  unfold pop popTo
  exact List.countP_mono_left fun i _ hi => h i hi
theorem within_le {x y : BitVec 32} (h : within x y) : x.toNat ≤ y.toNat := by
  have e : y &&& x = x := by
    apply w_ext
    intro m _
    have := b_and y x m
    unfold wAnd at this
    rw [this]
    cases hx : x.getLsbD m with
    | false => simp
    | true => simp [h m hx]
  rw [← e, BitVec.toNat_and]
  exact Nat.and_le_left
theorem toNat_nw {k : Nat} (h : k < 4294967296) : (nw k).toNat = k := by
  have := wN_nw h
  unfold wN at this
  omega

/-- What the others' friends are. -/
def rest (l : List (BitVec 32)) (n : Nat) (s : BitVec 32) : BitVec 32 := orTo l (wBut (maskW n) s) n
def covsTo (l : List (BitVec 32)) (s y : BitVec 32) (k : Nat) : Bool := (List.range k).all fun i => bitB s i || (wBut (lw l i) y == w0)
theorem but_zero' (y x : BitVec 32) : (wBut y x == w0) = true ↔ within y x := by
  rw [beq_iff_eq]
  constructor
  · intro h j hj
    have := congrArg (fun v => v.getLsbD j) h
    simp only [b_but, b_0, hj, Bool.true_and] at this
    simpa using this
  · intro h
    apply w_ext
    intro m _
    rw [b_but, b_0]
    cases hy : y.getLsbD m
    · simp
    · simp [h m hy]
theorem covs_iff (l : List (BitVec 32)) {n : Nat} (hn : n ≤ 8) (s y : BitVec 32) : covsTo l s y n = true ↔ within (rest l n s) y := by
  unfold covsTo rest
  rw [List.all_eq_true]
  constructor
  · intro h b hb
    obtain ⟨j, hj, hs, hl⟩ := (orTo_bit l _ b n).1 hb
    have h1 := h j (List.mem_range.2 hj)
    rw [b_but, b_mask (by omega)] at hs
    rw [bitB_nat] at h1
    cases hsj : s.getLsbD j with
    | true => rw [hsj] at hs; simp at hs
    | false =>
      rw [hsj, Bool.false_or, but_zero'] at h1
      exact h1 b hl
  · intro h i hi
    have hin := List.mem_range.1 hi
    rw [bitB_nat]
    cases hsi : s.getLsbD i with
    | true => rfl
    | false =>
      rw [Bool.false_or, but_zero']
      exact fun b hb => h b ((orTo_bit l _ b n).2 ⟨i, hin, by rw [b_but, b_mask (by omega), hsi]; simp [hin], hb⟩)

/-- The reference's search: the inner loop; the outer one. -/
def innC (l : List (BitVec 32)) (n : Nat) (s : BitVec 32) (ab : BitVec 32 × BitVec 32) : Nat → BitVec 32 × BitVec 32
  | 0 => ab
  | j + 1 => if pop s + pop (nw j) < pop (innC l n s ab j).1 + pop (innC l n s ab j).2 ∧ covsTo l s (nw j) n = true then (s, nw j) else innC l n s ab j
def outC (l : List (BitVec 32)) (n : Nat) : Nat → BitVec 32 × BitVec 32
  | 0 => (maskW n, maskW 8)
  | i + 1 => innC l n (nw i) (outC l n i) 256
/-- The program's search: the set; its size. -/
def bstC (l : List (BitVec 32)) (n : Nat) : Nat → BitVec 32 × Int
  | 0 => (w0, n + 8 + 1)
  | k + 1 => if (pop (nw k) : Int) + pop (rest l n (nw k)) < (bstC l n k).2 then (nw k, (pop (nw k) : Int) + pop (rest l n (nw k))) else bstC l n k

theorem inn_eq (l : List (BitVec 32)) {n : Nat} (hn : n ≤ 8) (s : BitVec 32) (ab : BitVec 32 × BitVec 32) : ∀ j, j ≤ 256 →
    innC l n s ab j = if j ≤ (rest l n s).toNat then ab else if pop s + pop (rest l n s) < pop ab.1 + pop ab.2 then (s, rest l n s) else ab
  | 0, _ => by simp [innC]
  | j + 1, hj => by
    have ih := inn_eq l hn s ab j (by omega)
    have hjn := toNat_nw (k := j) (by omega)
    obtain ⟨F, hF⟩ : ∃ F, F = rest l n s := ⟨_, rfl⟩
    have hc := covs_iff l hn s (nw j)
    rw [← hF] at ih hc ⊢
    rw [innC, ih]
    by_cases h1 : j < F.toNat
    · have hno : ¬ covsTo l s (nw j) n = true := fun h => by
        have := within_le (hc.1 h)
        omega
      rw [if_pos (show j ≤ F.toNat by omega), if_neg (fun h => hno h.2), if_pos (by omega)]
    · by_cases h2 : j = F.toNat
      · have hjF : nw j = F := by rw [h2, nw_toNat]
        have hyes : covsTo l s (nw j) n = true := hc.2 (by rw [hjF]; exact fun b h => h)
        rw [if_pos (show j ≤ F.toNat by omega), if_neg (show ¬ j + 1 ≤ F.toNat by omega), hjF]
        by_cases h3 : pop s + pop F < pop ab.1 + pop ab.2
        · rw [if_pos ⟨h3, by rw [← hjF]; exact hyes⟩, if_pos h3]
        · rw [if_neg (fun h => h3 h.1), if_neg h3]
      · rw [if_neg (show ¬ j ≤ F.toNat by omega), if_neg (show ¬ j + 1 ≤ F.toNat by omega)]
        refine if_neg fun h => ?_
        have hp := within_pop (hc.1 h.2)
        have h4 := h.1
        by_cases h3 : pop s + pop F < pop ab.1 + pop ab.2
        · rw [if_pos h3] at h4
          simp only at h4
          omega
        · rw [if_neg h3] at h4
          omega
theorem rest_lt (l : List (BitVec 32)) (n : Nat) (s : BitVec 32) (hw : ∀ i b, 8 ≤ b → (lw l i).getLsbD b = false) : within (rest l n s) (maskW 8) := fun b hb => by
  obtain ⟨j, _, _, hl⟩ := (orTo_bit l _ b n).1 hb
  rw [b_mask (by omega)]
  rcases Nat.lt_or_ge b 8 with h | h
  · simp [h]
  · rw [hw j b h] at hl; cases hl
theorem pop_mask8 : ∀ n, n ≤ 8 → pop (maskW n) = n := by
  intro n hn
  have : n = 0 ∨ n = 1 ∨ n = 2 ∨ n = 3 ∨ n = 4 ∨ n = 5 ∨ n = 6 ∨ n = 7 ∨ n = 8 := by omega
  rcases this with rfl | rfl | rfl | rfl | rfl | rfl | rfl | rfl | rfl <;> decide +kernel
theorem out_eq (l : List (BitVec 32)) {n : Nat} (hn : n ≤ 8) (hw : ∀ i b, 8 ≤ b → (lw l i).getLsbD b = false) :
    ∀ i, outC l n (i + 1) = ((bstC l n (i + 1)).1, rest l n (bstC l n (i + 1)).1) ∧ (bstC l n (i + 1)).2 = (pop (bstC l n (i + 1)).1 : Int) + pop (rest l n (bstC l n (i + 1)).1) := by
  have hstep : ∀ i, outC l n (i + 1) = if pop (nw i) + pop (rest l n (nw i)) < pop (outC l n i).1 + pop (outC l n i).2 then (nw i, rest l n (nw i)) else outC l n i := fun i => by
    have h8 := within_le (rest_lt l n (nw i) hw)
    rw [toNat_mask (by omega)] at h8
    show innC l n (nw i) (outC l n i) 256 = _
    rw [inn_eq l hn (nw i) _ 256 (by omega), if_neg (by omega)]
  intro i
  induction i with
  | zero =>
    have hp := within_pop (rest_lt l n (nw 0) hw)
    rw [pop_mask8 8 (by omega)] at hp
    have h0 : pop (nw 0) = 0 := by decide +kernel
    have hlt : pop (nw 0) + pop (rest l n (nw 0)) < pop (maskW n) + pop (maskW 8) := by
      rw [pop_mask8 n hn, pop_mask8 8 (by omega), h0]
      rcases Nat.eq_zero_or_pos n with rfl | hpos
      · have : rest l 0 (nw 0) = w0 := rfl
        rw [this]
        decide +kernel
      · omega
    have hb : bstC l n 1 = (nw 0, (pop (nw 0) : Int) + pop (rest l n (nw 0))) := by
      show (if (pop (nw 0) : Int) + pop (rest l n (nw 0)) < (n : Int) + 8 + 1 then _ else _) = _
      rw [if_pos (by omega)]
    have ho : outC l n 1 = (nw 0, rest l n (nw 0)) := by
      rw [hstep 0]
      exact if_pos hlt
    rw [hb, ho]
    exact ⟨rfl, rfl⟩
  | succ i ih =>
    obtain ⟨h1, h2⟩ := ih
    rw [hstep (i + 1), h1]
    show _ = ((bstC l n (i + 1 + 1)).1, _) ∧ _
    by_cases hlt : (pop (nw (i + 1)) : Int) + pop (rest l n (nw (i + 1))) < (bstC l n (i + 1)).2
    · have hb : bstC l n (i + 1 + 1) = (nw (i + 1), (pop (nw (i + 1)) : Int) + pop (rest l n (nw (i + 1)))) := by rw [bstC, if_pos hlt]
      rw [hb, if_pos (by rw [h2] at hlt; simp only; omega)]
      exact ⟨rfl, rfl⟩
    · have hb : bstC l n (i + 1 + 1) = bstC l n (i + 1) := by rw [bstC, if_neg hlt]
      rw [hb, if_neg (by rw [h2] at hlt; simp only; omega)]
      exact ⟨rfl, h2⟩
/-- At the end both have the same. -/
theorem cover_same (l : List (BitVec 32)) {n : Nat} (hn : n ≤ 8) (hw : ∀ i b, 8 ≤ b → (lw l i).getLsbD b = false) : outC l n (2 ^ n) = ((bstC l n (2 ^ n)).1, rest l n (bstC l n (2 ^ n)).1) := by
  have hpos := Nat.two_pow_pos n
  obtain ⟨i, hi⟩ : ∃ i, 2 ^ n = i + 1 := ⟨2 ^ n - 1, by omega⟩
  rw [hi]
  exact (out_eq l hn hw i).1
end Go.Proofs.YthopiaggnbkjbaaDoor
