/- Sums over the parts of a set, a word; in plain Lean. Conditions: none. -/
import Derived.Test.YtokmialpclcodaaDoorSum
import Derived.Test.YtokmialpclcodaaDoorBit
import Derived.Test.YtokmialpclcodaaDoorCount
import Derived.Test.YtokmialpclcodaaDoorSubP
namespace Go.Proofs.YtokmialpclcodaaDoor
open Go.RowKit

/-- Over all parts of w, by its bits below m. -/
def SW : Nat → BitVec 32 → (BitVec 32 → Int) → Int
  | 0, _, f => f w0
  | m + 1, w, f => if w.getLsbD m = true then SW m w f + SW m w (fun t => f (wOr t (wShl w1 m))) else SW m w f
/-- A part of w, below m. -/
def Prt (m : Nat) (w t : BitVec 32) : Prop := ∀ j, t.getLsbD j = true → j < m ∧ w.getLsbD j = true
theorem prt_0 (m : Nat) (w : BitVec 32) : Prt m w w0 := fun j h => by rw [b_0] at h; cases h
theorem or_bit {m : Nat} (hm : m < 32) (t : BitVec 32) (j : Nat) : (wOr t (wShl w1 m)).getLsbD j = (t.getLsbD j || decide (j = m)) := by
  rw [b_or, b_one]
  by_cases h : j = m
  · subst h; simp [hm]
  · simp [h]
theorem one_bit {m : Nat} (hm : m < 32) (j : Nat) : (wShl w1 m).getLsbD j = decide (j = m) := by
  rw [b_one]
  by_cases h : j = m
  · subst h; simp [hm]
  · simp [h]
theorem SW_congr {f g : BitVec 32 → Int} : ∀ {m : Nat} {w : BitVec 32}, m ≤ 32 → (∀ t, Prt m w t → f t = g t) → SW m w f = SW m w g
  | 0, w, _, h => h w0 (prt_0 _ _)
  | m + 1, w, hm, h => by
    rw [SW, SW]
    have h1 : SW m w f = SW m w g := SW_congr (by omega) fun t ht => h t fun j hj => ⟨by have := (ht j hj).1; omega, (ht j hj).2⟩
    split
    · rename_i hb
      rw [h1]
      congr 1
      refine SW_congr (by omega) fun t ht => h _ fun j hj => ?_
      rw [or_bit (by omega), Bool.or_eq_true, decide_eq_true_iff] at hj
      rcases hj with h2 | h2
      · exact ⟨by have := (ht j h2).1; omega, (ht j h2).2⟩
      · rw [h2]; exact ⟨by omega, hb⟩
    · exact h1
theorem SW_same {f : BitVec 32 → Int} : ∀ {m : Nat} {w v : BitVec 32}, (∀ j, j < m → w.getLsbD j = v.getLsbD j) → SW m w f = SW m v f
  | 0, _, _, _ => rfl
  | m + 1, w, v, h => by
    have h1 := fun f : BitVec 32 → Int => SW_same (f := f) (m := m) (w := w) (v := v) fun j hj => h j (by omega)
    rw [SW, SW, h m (by omega), h1, h1]
theorem SW_add (f g : BitVec 32 → Int) : ∀ (m : Nat) (w : BitVec 32), SW m w (fun t => f t + g t) = SW m w f + SW m w g
  | 0, _ => rfl
  | m + 1, w => by
    rw [SW, SW, SW, SW_add f g m w, SW_add (fun t => f (wOr t (wShl w1 m))) (fun t => g (wOr t (wShl w1 m))) m w]
    split <;> omega
theorem SW_mul (c : Int) (f : BitVec 32 → Int) : ∀ (m : Nat) (w : BitVec 32), SW m w (fun t => c * f t) = c * SW m w f
  | 0, _ => rfl
  | m + 1, w => by
    rw [SW, SW, SW_mul c f m w, SW_mul c (fun t => f (wOr t (wShl w1 m))) m w]
    split
    · rw [Int.mul_add]
    · rfl
theorem SW_zero (m : Nat) (w : BitVec 32) : SW m w (fun _ => 0) = 0 := by
  have := SW_mul 0 (fun _ => 0) m w
  simpa using this
theorem SW_le {f g : BitVec 32 → Int} {m : Nat} {w : BitVec 32} (hm : m ≤ 32) (h : ∀ t, Prt m w t → f t ≤ g t) : SW m w f ≤ SW m w g := by
  induction m generalizing f g with
  | zero => exact h w0 (prt_0 _ _)
  | succ m ih =>
    rw [SW, SW]
    have h1 : SW m w f ≤ SW m w g := ih (by omega) fun t ht => h t fun j hj => ⟨by have := (ht j hj).1; omega, (ht j hj).2⟩
    split
    · rename_i hb
      have h2 : SW m w (fun t => f (wOr t (wShl w1 m))) ≤ SW m w (fun t => g (wOr t (wShl w1 m))) := ih (by omega) fun t ht => h _ fun j hj => by
        rw [or_bit (by omega), Bool.or_eq_true, decide_eq_true_iff] at hj
        rcases hj with h2 | h2
        · exact ⟨by have := (ht j h2).1; omega, (ht j h2).2⟩
        · rw [h2]; exact ⟨by omega, hb⟩
      omega
    · exact h1
theorem SW_nn {f : BitVec 32 → Int} {m : Nat} {w : BitVec 32} (hm : m ≤ 32) (h : ∀ t, Prt m w t → 0 ≤ f t) : 0 ≤ SW m w f := by
  have := SW_le (f := fun _ => 0) hm h
  rwa [SW_zero] at this
theorem SW_word0 (f : BitVec 32 → Int) : ∀ m, SW m w0 f = f w0
  | 0 => rfl
  | m + 1 => by rw [SW, if_neg (by rw [b_0]; simp)]; exact SW_word0 f m
theorem or_comm3 (t a b : BitVec 32) : wOr (wOr t a) b = wOr (wOr t b) a := w_ext fun j _ => by rw [b_or, b_or, b_or, b_or]; cases t.getLsbD j <;> cases a.getLsbD j <;> cases b.getLsbD j <;> rfl
/-- By one of them: without it, and with it. -/
theorem SW_ins {f : BitVec 32 → Int} {x : Nat} : ∀ {m : Nat} {w : BitVec 32}, m ≤ 32 → x < m → w.getLsbD x = true → SW m w f = SW m (wBut w (wShl w1 x)) f + SW m (wBut w (wShl w1 x)) (fun t => f (wOr t (wShl w1 x)))
  | 0, _, _, h, _ => by omega
  | m + 1, w, hm, hx, hb => by
    have hbit : ∀ j, (wBut w (wShl w1 x)).getLsbD j = (w.getLsbD j && !decide (j = x)) := fun j => by rw [b_but, one_bit (by omega)]
    by_cases hxm : x = m
    · subst hxm
      have hsame : ∀ f : BitVec 32 → Int, SW x w f = SW x (wBut w (wShl w1 x)) f := fun f => SW_same fun j hj => by
        rw [hbit]
        have : j ≠ x := by omega
        simp [this]
      rw [SW, SW, SW, if_pos hb, if_neg (by rw [hbit]; simp), if_neg (by rw [hbit]; simp), hsame, hsame]
    · have ih := fun f : BitVec 32 → Int => SW_ins (f := f) (x := x) (m := m) (w := w) (by omega) (by omega) hb
      have hbm : (wBut w (wShl w1 x)).getLsbD m = w.getLsbD m := by
        rw [hbit]
        have : m ≠ x := fun h => hxm h.symm
        simp [this]
      rw [SW, SW, SW, hbm]
      split
      · rw [ih f, ih fun t => f (wOr t (wShl w1 m))]
        have e : SW m (wBut w (wShl w1 x)) (fun t => f (wOr (wOr t (wShl w1 x)) (wShl w1 m))) = SW m (wBut w (wShl w1 x)) (fun t => f (wOr (wOr t (wShl w1 m)) (wShl w1 x))) := SW_congr (by omega) fun t _ => by rw [or_comm3]
        rw [e]
        omega
      · exact ih f
/-- Two parts that have nothing in common: in either order. -/
theorem SW_swap : ∀ {m : Nat} {w : BitVec 32} (h : BitVec 32 → BitVec 32 → Int), m ≤ 32 → SW m w (fun s => SW m (wBut w s) (fun t => h s t)) = SW m w (fun t => SW m (wBut w t) (fun s => h s t))
  | 0, _, _, _ => rfl
  | m + 1, w, h, hm => by
    have ih := fun h : BitVec 32 → BitVec 32 → Int => SW_swap (m := m) (w := w) h (by omega)
    by_cases hb : w.getLsbD m = true
    · have key : ∀ k : BitVec 32 → BitVec 32 → Int, SW (m + 1) w (fun s => SW (m + 1) (wBut w s) (fun t => k s t)) = SW m w (fun s => SW m (wBut w s) (fun t => k s t)) + SW m w (fun s => SW m (wBut w s) (fun t => k s (wOr t (wShl w1 m)))) + SW m w (fun s => SW m (wBut w s) (fun t => k (wOr s (wShl w1 m)) t)) := fun k => by
        rw [SW, if_pos hb]
        congr 1
        · rw [← SW_add]
          refine SW_congr (by omega) fun s hs => ?_
          have : (wBut w s).getLsbD m = true := by
            rw [b_but, hb]
            cases hsm : s.getLsbD m with
            | false => rfl
            | true => have := (hs m hsm).1; omega
          rw [SW, if_pos this]
        · refine SW_congr (by omega) fun s hs => ?_
          have : (wBut w (wOr s (wShl w1 m))).getLsbD m = false := by rw [b_but, or_bit (by omega)]; simp
          rw [SW, if_neg (by rw [this]; simp)]
          refine SW_same fun j hj => ?_
          rw [b_but, b_but, or_bit (by omega)]
          have : j ≠ m := by omega
          simp [this]
      rw [key h, key fun t s => h s t, ih h, ih fun s t => h s (wOr t (wShl w1 m)), ih fun s t => h (wOr s (wShl w1 m)) t]
      omega
    · have hb' : w.getLsbD m = false := by simpa using hb
      have hno : ∀ s, (wBut w s).getLsbD m = false := fun s => by rw [b_but, hb']; rfl
      have e : ∀ k : BitVec 32 → BitVec 32 → Int, SW (m + 1) w (fun s => SW (m + 1) (wBut w s) (fun t => k s t)) = SW m w (fun s => SW m (wBut w s) (fun t => k s t)) := fun k => by
        rw [SW, if_neg hb]
        refine SW_congr (by omega) fun s _ => ?_
        rw [SW, if_neg (by rw [hno]; simp)]
      rw [e h, e fun t s => h s t, ih h]
/-- Of those that have nothing in common with y. -/
theorem SW_free {f : BitVec 32 → Int} : ∀ {m : Nat} {w y : BitVec 32}, m ≤ 32 → SW m w (fun t => if wAnd t y = w0 then f t else 0) = SW m (wBut w y) f
  | 0, w, y, _ => by
    show (if wAnd w0 y = w0 then f w0 else 0) = f w0
    rw [if_pos (w_ext fun j _ => by rw [b_and, b_0]; rfl)]
  | m + 1, w, y, hm => by
    rw [SW, SW, b_but]
    by_cases hb : w.getLsbD m = true
    · rw [if_pos hb, SW_free (by omega)]
      cases hy : y.getLsbD m with
      | true =>
        rw [hb, if_neg (by simp)]
        have : SW m w (fun t => if wAnd (wOr t (wShl w1 m)) y = w0 then f (wOr t (wShl w1 m)) else 0) = SW m w (fun _ => 0) := SW_congr (by omega) fun t _ => by
          rw [if_neg]
          intro e
          have := congrArg (fun z : BitVec 32 => z.getLsbD m) e
          simp only [b_and, or_bit (show m < 32 by omega), hy, b_0] at this
          simp at this
        rw [this, SW_zero]
        omega
      | false =>
        rw [hb, if_pos (by simp), ← SW_free (m := m) (w := w) (y := y) (f := fun t => f (wOr t (wShl w1 m))) (by omega)]
        congr 1
        refine SW_congr (by omega) fun t _ => ?_
        have e : wAnd (wOr t (wShl w1 m)) y = wAnd t y := w_ext fun j _ => by
          rw [b_and, b_and, or_bit (by omega)]
          by_cases hj : j = m
          · subst hj; simp [hy]
          · simp [hj]
        rw [e]
    · rw [if_neg hb, if_neg (by have : w.getLsbD m = false := by simpa using hb
                                rw [this]; simp), SW_free (by omega)]
theorem SW_sm (g : BitVec 32 → Nat → Int) (m : Nat) (w : BitVec 32) : ∀ M, SW m w (fun s => sm (g s) M) = sm (fun k => SW m w fun s => g s k) M
  | 0 => SW_zero m w
  | M + 1 => by
    rw [sm_succ, ← SW_sm g m w M, ← SW_add]
    rfl
/-! How many bits. -/
theorem pop_but (w s : BitVec 32) : ∀ m, popTo (wBut w s) m + popTo (wAnd w s) m = popTo w m
  | 0 => rfl
  | m + 1 => by
    have := pop_but w s m
    rw [popTo_succ, popTo_succ, popTo_succ, bitB_nat, bitB_nat, bitB_nat, b_but, b_and]
    cases w.getLsbD m <;> cases s.getLsbD m <;> simp <;> omega
theorem pop_pos {w : BitVec 32} {x : Nat} (h : w.getLsbD x = true) : ∀ {m : Nat}, x < m → 1 ≤ popTo w m
  | 0, hx => by omega
  | m + 1, hx => by
    rw [popTo_succ, bitB_nat]
    by_cases e : x = m
    · subst e; rw [if_pos h]; omega
    · have := pop_pos h (m := m) (by omega)
      omega
theorem pop_lt {w s : BitVec 32} {x m : Nat} (hw : w.getLsbD x = true) (hs : s.getLsbD x = true) (hx : x < m) : popTo (wBut w s) m < popTo w m := by
  have h1 := pop_but w s m
  have h2 := pop_pos (w := wAnd w s) (x := x) (by rw [b_and, hw, hs]; rfl) hx
  omega
theorem and_prt {m : Nat} {w t : BitVec 32} (h : Prt m w t) : wAnd w t = t := w_ext fun j _ => by
  rw [b_and]
  cases ht : t.getLsbD j with
  | false => rw [Bool.and_false]
  | true => rw [(h j ht).2]; rfl
theorem pop_prt {m : Nat} {w t : BitVec 32} (h : Prt m w t) (M : Nat) : popTo (wBut w t) M + popTo t M = popTo w M := by
  have := pop_but w t M
  rwa [and_prt h] at this
theorem pop_zero {w : BitVec 32} : ∀ {m : Nat}, popTo w m = 0 → ∀ j, j < m → w.getLsbD j = false
  | m, h, j, hj => by
    cases hb : w.getLsbD j with
    | false => rfl
    | true => have := pop_pos hb hj; omega
/-- So many ways by c and one more. -/
theorem SW_pow (c : Int) : ∀ {m : Nat} (w : BitVec 32), m ≤ 32 → SW m w (fun s => c ^ popTo (wBut w s) m) = (c + 1) ^ popTo w m
  | 0, w, _ => by simp [SW, popTo]
  | m + 1, w, hm => by
    have ih := SW_pow c (m := m) w (by omega)
    rw [SW, popTo_succ, bitB_nat]
    by_cases hb : w.getLsbD m = true
    · rw [if_pos hb, if_pos hb]
      have e1 : SW m w (fun s => c ^ popTo (wBut w s) (m + 1)) = c * (c + 1) ^ popTo w m := by
        rw [← ih, ← SW_mul]
        refine SW_congr (by omega) fun s hs => ?_
        have : (wBut w s).getLsbD m = true := by
          rw [b_but, hb]
          cases hsm : s.getLsbD m with
          | false => rfl
          | true => have := (hs m hsm).1; omega
        rw [popTo_succ, bitB_nat, if_pos this, Int.pow_succ, Int.mul_comm]
      have e2 : SW m w (fun s => c ^ popTo (wBut w (wOr s (wShl w1 m))) (m + 1)) = (c + 1) ^ popTo w m := by
        rw [← ih]
        refine SW_congr (by omega) fun s hs => ?_
        have h1 : (wBut w (wOr s (wShl w1 m))).getLsbD m = false := by rw [b_but, or_bit (by omega)]; simp
        have h2 : popTo (wBut w (wOr s (wShl w1 m))) m = popTo (wBut w s) m := by
          unfold popTo
          refine List.countP_congr fun j hj => ?_
          have : j ≠ m := by have := List.mem_range.1 hj; omega
          rw [b_but, b_but, or_bit (by omega)]
          simp [this]
        rw [popTo_succ, bitB_nat, if_neg (by rw [h1]; simp), h2, Nat.add_zero]
      rw [e1, e2, Int.pow_succ, Int.mul_add, Int.mul_one, Int.mul_comm c]
    · rw [if_neg hb, if_neg hb]
      show SW m w _ = (c + 1) ^ popTo w m
      rw [← ih]
      refine SW_congr (by omega) fun s hs => ?_
      have h1 : (wBut w s).getLsbD m = false := by rw [b_but]; simp [hb]
      rw [popTo_succ, bitB_nat, if_neg (by rw [h1]; simp), Nat.add_zero]
/-! The loop over all parts of w from s down. -/
def dsum (f : BitVec 32 → Int) (w s : Nat) : Int := sm (fun t => if 0 < t ∧ t &&& w = t then f (nw t) else 0) (s + 1)
theorem dsum_0 (f : BitVec 32 → Int) (w : Nat) : dsum f w 0 = 0 := by simp [dsum, sm]
theorem sm_tail {f : Nat → Int} {a : Nat} : ∀ d, (∀ t, a ≤ t → t < a + d → f t = 0) → sm f (a + d) = sm f a
  | 0, _ => rfl
  | d + 1, h => by
    rw [show a + (d + 1) = a + d + 1 by omega, sm_succ, sm_tail d fun t h1 h2 => h t h1 (by omega), h (a + d) (by omega) (by omega)]
    omega
theorem dsum_s (f : BitVec 32 → Int) {w s : Nat} (hs : s &&& w = s) (h0 : 0 < s) : dsum f w s = f (nw s) + dsum f w ((s - 1) &&& w) := by
  have hlt := sub_lt (w := w) h0
  unfold dsum
  rw [sm_succ, if_pos ⟨h0, hs⟩]
  have : sm (fun t => if 0 < t ∧ t &&& w = t then f (nw t) else 0) s = sm (fun t => if 0 < t ∧ t &&& w = t then f (nw t) else 0) (((s - 1) &&& w) + 1) := by
    have h1 := sm_tail (f := fun t => if 0 < t ∧ t &&& w = t then f (nw t) else 0) (a := ((s - 1) &&& w) + 1) (s - (((s - 1) &&& w) + 1)) fun t h1 h2 => by
      rw [if_neg]
      rintro ⟨_, ht⟩
      have := sub_next w s t hs ht (by omega)
      omega
    rw [show ((s - 1) &&& w) + 1 + (s - (((s - 1) &&& w) + 1)) = s by omega] at h1
    exact h1
  rw [this]
  omega
theorem dsum_le {f g : BitVec 32 → Int} (h : ∀ t, f t ≤ g t) (w s : Nat) : dsum f w s ≤ dsum g w s := sm_le _ fun t _ => by split; exact h _; exact Int.le_refl _
theorem sm_grow {f : Nat → Int} (h : ∀ t, 0 ≤ f t) {a b : Nat} (hab : a ≤ b) : sm f a ≤ sm f b := by
  obtain ⟨d, rfl⟩ : ∃ d, b = a + d := ⟨b - a, by omega⟩
  clear hab
  induction d with
  | zero => exact Int.le_refl _
  | succ d ih =>
    rw [show a + (d + 1) = a + d + 1 by omega, sm_succ]
    have := h (a + d)
    omega
theorem dsum_grow {f : BitVec 32 → Int} (h : ∀ t, 0 ≤ f t) (w : Nat) {s s' : Nat} (hs : s ≤ s') : dsum f w s ≤ dsum f w s' := sm_grow (fun t => by
  split
  · exact h _
  · exact Int.le_refl _) (by omega)
theorem dsum_nn {f : BitVec 32 → Int} (h : ∀ t, 0 ≤ f t) (w s : Nat) : 0 ≤ dsum f w s := by
  have := dsum_grow h w (Nat.zero_le s)
  rwa [dsum_0] at this
/-- All parts: over all numbers. -/
theorem SW_all (f : BitVec 32 → Int) : ∀ {m : Nat} (w : BitVec 32), m ≤ 32 → SW m w f = sm (fun t => if t &&& w.toNat = t then f (nw t) else 0) (2 ^ m)
  | 0, w, _ => by
    show f w0 = 0 + (if 0 &&& w.toNat = 0 then f (nw 0) else 0)
    rw [if_pos (Nat.zero_and _), Int.zero_add]
    rfl
  | m + 1, w, hm => by
    have ih := fun f : BitVec 32 → Int => SW_all f (m := m) w (by omega)
    have hsplit : ∀ (g : Nat → Int) (a : Nat), sm g (a + a) = sm g a + sm (fun t => g (a + t)) a := fun g a => by
      have : ∀ d, sm g (a + d) = sm g a + sm (fun t => g (a + t)) d := fun d => by
        induction d with
        | zero => simp [sm]
        | succ d ihd => rw [show a + (d + 1) = a + d + 1 by omega, sm_succ, sm_succ, ihd]; omega
      exact this a
    rw [SW, Nat.pow_succ, Nat.mul_two, hsplit]
    have hlow : ∀ t, t < 2 ^ m → ∀ i, (2 ^ m + t).testBit i = (decide (i = m) || t.testBit i) := fun t ht i => by
      rcases Nat.lt_trichotomy i m with h | h | h
      · rw [Nat.testBit_two_pow_add_gt h]
        have : i ≠ m := by omega
        simp [this]
      · subst h
        rw [Nat.testBit_two_pow_add_eq, Nat.testBit_lt_two_pow ht]
        simp
      · have h1 : 2 ^ m + t < 2 ^ i := by
          have : 2 ^ (m + 1) ≤ 2 ^ i := Nat.pow_le_pow_right (by omega) h
          rw [Nat.pow_succ] at this
          omega
        rw [Nat.testBit_lt_two_pow h1, Nat.testBit_lt_two_pow (show t < 2 ^ i by omega)]
        have : i ≠ m := by omega
        simp [this]
    have hwb : ∀ i, w.toNat.testBit i = w.getLsbD i := fun i => by unfold BitVec.getLsbD; rfl
    split
    · rename_i hb
      rw [ih f, ih fun t => f (wOr t (wShl w1 m))]
      congr 1
      refine sm_congr _ fun t ht => ?_
      have h1 : ((2 ^ m + t) &&& w.toNat = 2 ^ m + t) ↔ (t &&& w.toNat = t) := by
        constructor
        · intro h
          refine sub_of_bits fun i hi => ?_
          have := bit_sub h (i := i) (by rw [hlow t ht, hi, Bool.or_true])
          exact this
        · intro h
          refine sub_of_bits fun i hi => ?_
          rw [hlow t ht, Bool.or_eq_true, decide_eq_true_iff] at hi
          rcases hi with h2 | h2
          · rw [h2, hwb]; exact hb
          · exact bit_sub h h2
      have h2 : wOr (nw t) (wShl w1 m) = nw (2 ^ m + t) := w_ext fun j hj => by
        rw [or_bit (by omega)]
        unfold nw
        rw [BitVec.getLsbD_ofNat, BitVec.getLsbD_ofNat, hlow t ht, decide_eq_true hj, Bool.true_and, Bool.true_and, Bool.or_comm]
      by_cases h : t &&& w.toNat = t
      · rw [if_pos h, if_pos (h1.2 h), h2]
      · rw [if_neg h, if_neg fun h' => h (h1.1 h')]
    · rename_i hb
      have hb' : w.getLsbD m = false := by simpa using hb
      rw [ih f, sm_congr (f := fun t => if (2 ^ m + t) &&& w.toNat = 2 ^ m + t then f (nw (2 ^ m + t)) else 0) (g := fun _ => 0) _ fun t ht => by
        rw [if_neg]
        intro h
        have := bit_sub h (i := m) (by rw [hlow t ht]; simp)
        rw [hwb, hb'] at this; cases this]
      rw [sm_zero]
      omega
theorem dsum_all (f : BitVec 32 → Int) {m : Nat} {w : BitVec 32} (hm : m ≤ 32) (hw : w.toNat < 2 ^ m) : f w0 + dsum f w.toNat w.toNat = SW m w f := by
  rw [SW_all f w hm]
  unfold dsum
  have h1 : sm (fun t => if t &&& w.toNat = t then f (nw t) else 0) (2 ^ m) = sm (fun t => if t &&& w.toNat = t then f (nw t) else 0) (w.toNat + 1) := by
    have := sm_tail (f := fun t => if t &&& w.toNat = t then f (nw t) else 0) (a := w.toNat + 1) (2 ^ m - (w.toNat + 1)) fun t h1 _ => by
      rw [if_neg]
      intro h
      have := sub_le h
      omega
    rw [show w.toNat + 1 + (2 ^ m - (w.toNat + 1)) = 2 ^ m by omega] at this
    exact this
  rw [h1]
  have h2 := sm_upd (f := fun t => if 0 < t ∧ t &&& w.toNat = t then f (nw t) else 0) (g := fun t => if t &&& w.toNat = t then f (nw t) else 0) (j := 0) (n := w.toNat + 1) (by omega) fun t ht => by
    by_cases h : t &&& w.toNat = t
    · rw [if_pos h, if_pos ⟨by omega, h⟩]
    · rw [if_neg h, if_neg fun h' => h h'.2]
  rw [h2, if_pos (Nat.zero_and _), if_neg (by omega)]
  have : nw 0 = w0 := rfl
  rw [this]
  omega
end Go.Proofs.YtokmialpclcodaaDoor
