/- The reference's table: the trees of each word, by what falls apart. Conditions: the weights are the same both ways and not below 0. -/
import Derived.Test.YtbbdiondhnmnaaaDoorSpanMany12
import Derived.Test.YtbbdiondhnmnaaaDoorSpanMany14
namespace Go.Proofs.YtbbdiondhnmnaaaDoor

/-- A sum over all numbers below one. -/
def sg (f : Nat → Int) : Nat → Int
  | 0 => 0
  | n + 1 => sg f n + f n
theorem sg_congr {f g : Nat → Int} : ∀ {n : Nat}, (∀ a, a < n → f a = g a) → sg f n = sg g n
  | 0, _ => rfl
  | n + 1, h => by rw [sg, sg, sg_congr (n := n) fun a ha => h a (by omega), h n (by omega)]
theorem sg_more (f : Nat → Int) (m : Nat) : ∀ n, sg f (m + n) = sg f m + sg (fun t => f (m + t)) n
  | 0 => by simp [sg]
  | n + 1 => by
    rw [← Nat.add_assoc, sg, sg, sg_more f m n]
    omega
theorem sg_zero {f : Nat → Int} : ∀ {n : Nat}, (∀ a, a < n → f a = 0) → sg f n = 0
  | 0, _ => rfl
  | n + 1, h => by rw [sg, sg_zero (n := n) fun a ha => h a (by omega), h n (by omega)]; rfl
theorem sg_mono {f : Nat → Int} (h : ∀ a, 0 ≤ f a) (m : Nat) : ∀ n, m ≤ n → sg f m ≤ sg f n
  | 0, h0 => by
    have e : m = 0 := by omega
    rw [e]
    exact Int.le_refl _
  | n + 1, h1 => by
    by_cases e : m = n + 1
    · subst e; exact Int.le_refl _
    · have := sg_mono h m n (by omega)
      have := h n
      rw [sg]; omega
/-- The bits of a number below a place, the top one first. -/
def bn (s : Nat) : Nat → List Nat
  | 0 => []
  | n + 1 => if s.testBit n = true then n :: bn s n else bn s n
theorem bn_congr {s t : Nat} : ∀ {n : Nat}, (∀ i, i < n → s.testBit i = t.testBit i) → bn s n = bn t n
  | 0, _ => rfl
  | n + 1, h => by rw [bn, bn, h n (by omega), bn_congr (n := n) fun i hi => h i (by omega)]
theorem bn_mem {s : Nat} : ∀ {n i : Nat}, i ∈ bn s n ↔ i < n ∧ s.testBit i = true
  | 0, i => by simp [bn]
  | n + 1, i => by
    rw [bn]
    split
    · rename_i h
      rw [List.mem_cons, bn_mem]
      constructor
      · rintro (rfl | h1)
        · exact ⟨by omega, h⟩
        · exact ⟨by omega, h1.2⟩
      · intro h1
        by_cases e : i = n
        · exact .inl e
        · exact .inr ⟨by omega, h1.2⟩
    · rename_i h
      rw [bn_mem]
      constructor
      · exact fun h1 => ⟨by omega, h1.2⟩
      · intro h1
        refine ⟨?_, h1.2⟩
        have : i ≠ n := fun e => h (by rw [← e]; exact h1.2)
        omega
theorem bn_nodup (s : Nat) : ∀ n, (bn s n).Nodup
  | 0 => by simp [bn]
  | n + 1 => by
    rw [bn]
    split
    · refine List.nodup_cons.2 ⟨fun h => ?_, bn_nodup s n⟩
      have := (bn_mem.1 h).1
      omega
    · exact bn_nodup s n
theorem bn_len (s : Nat) : ∀ n, (bn s n).length ≤ n
  | 0 => by simp [bn]
  | n + 1 => by
    have := bn_len s n
    rw [bn]
    split
    · simp only [List.length_cons]; omega
    · omega
theorem bn_zero : ∀ n, bn 0 n = []
  | 0 => rfl
  | n + 1 => by rw [bn, if_neg (by simp), bn_zero n]
theorem bn_high {t n : Nat} : bn (2 ^ n + t) n = bn t n := bn_congr fun i hi => Nat.testBit_two_pow_add_gt hi t
theorem bn_top {t n : Nat} (ht : t < 2 ^ n) : bn (2 ^ n + t) (n + 1) = n :: bn t n := by
  rw [bn, if_pos (by rw [Nat.testBit_two_pow_add_eq, Nat.testBit_lt_two_pow ht]; rfl), bn_high]
theorem bn_low {t n : Nat} (ht : t < 2 ^ n) : bn t (n + 1) = bn t n := by
  rw [bn, if_neg (by rw [Nat.testBit_lt_two_pow ht]; simp)]
theorem and_high {a t n : Nat} (ha : a < 2 ^ n) : a &&& (2 ^ n + t) = a &&& t := by
  apply Nat.eq_of_testBit_eq
  intro i
  rw [Nat.testBit_and, Nat.testBit_and]
  rcases Nat.lt_or_ge i n with h | h
  · rw [Nat.testBit_two_pow_add_gt h]
  · have : a.testBit i = false := Nat.testBit_lt_two_pow (Nat.lt_of_lt_of_le ha (Nat.pow_le_pow_right (by omega) h))
    rw [this]; rfl
theorem and_both {a t n : Nat} (ha : a < 2 ^ n) (ht : t < 2 ^ n) : (2 ^ n + a) &&& (2 ^ n + t) = 2 ^ n + (a &&& t) := by
  apply Nat.eq_of_testBit_eq
  intro i
  rw [Nat.testBit_and]
  have hat : a &&& t < 2 ^ n := Nat.lt_of_le_of_lt Nat.and_le_left ha
  rcases Nat.lt_trichotomy i n with h | h | h
  · rw [Nat.testBit_two_pow_add_gt h, Nat.testBit_two_pow_add_gt h, Nat.testBit_two_pow_add_gt h, Nat.testBit_and]
  · subst h
    rw [Nat.testBit_two_pow_add_eq, Nat.testBit_two_pow_add_eq, Nat.testBit_two_pow_add_eq, Nat.testBit_lt_two_pow ha, Nat.testBit_lt_two_pow ht, Nat.testBit_lt_two_pow hat]
    rfl
  · have h2 : 2 ^ (n + 1) ≤ 2 ^ i := Nat.pow_le_pow_right (by omega) h
    rw [Nat.pow_succ] at h2
    rw [Nat.testBit_lt_two_pow (show 2 ^ n + a < 2 ^ i by omega), Nat.testBit_lt_two_pow (show 2 ^ n + (a &&& t) < 2 ^ i by omega)]
    rfl
/-- The parts of a word: the sum over the numbers that lie in it. -/
theorem mask_sum : ∀ (n s : Nat) (F : List Nat → List Nat → Int), s < 2 ^ n → sg (fun a => if a &&& s = a then F (bn a n) (bn (s - a) n) else 0) (2 ^ n) = sp (bn s n) F
  | 0, s, F, h => by
    obtain rfl : s = 0 := by simpa using h
    simp [sg, bn, sp]
  | n + 1, s, F, h => by
    have hp : 2 ^ (n + 1) = 2 ^ n + 2 ^ n := by rw [Nat.pow_succ]; omega
    rw [hp, sg_more]
    by_cases hs : s < 2 ^ n
    · rw [bn_low hs, ← mask_sum n s F hs]
      have h0 : sg (fun t => if (2 ^ n + t) &&& s = 2 ^ n + t then F (bn (2 ^ n + t) (n + 1)) (bn (s - (2 ^ n + t)) (n + 1)) else 0) (2 ^ n) = 0 := sg_zero fun t _ => by
        rw [if_neg fun e => ?_]
        have := @Nat.and_le_right (2 ^ n + t) s
        omega
      rw [h0, Int.add_zero]
      refine sg_congr fun a ha => ?_
      split
      · rename_i e
        have := @Nat.and_le_right a s
        rw [bn_low ha, bn_low (show s - a < 2 ^ n by omega)]
      · rfl
    · obtain ⟨t, rfl⟩ : ∃ t, s = 2 ^ n + t := ⟨s - 2 ^ n, by omega⟩
      have ht : t < 2 ^ n := by omega
      rw [bn_top ht, sp, ← mask_sum n t (fun U V => F (n :: U) V) ht, ← mask_sum n t (fun U V => F U (n :: V)) ht, Int.add_comm]
      congr 1
      · refine sg_congr fun a ha => ?_
        rw [and_both ha ht]
        by_cases e : a &&& t = a
        · rw [if_pos e, if_pos (by rw [e]), bn_top ha, show 2 ^ n + t - (2 ^ n + a) = t - a by omega, bn_low (show t - a < 2 ^ n by omega)]
        · rw [if_neg e, if_neg fun e' => e (by omega)]
      · refine sg_congr fun a ha => ?_
        rw [and_high ha]
        by_cases e : a &&& t = a
        · have := @Nat.and_le_right a t
          rw [if_pos e, if_pos e, bn_low ha, show 2 ^ n + t - a = 2 ^ n + (t - a) by omega, bn_top (show t - a < 2 ^ n by omega)]
        · rw [if_neg e, if_neg e]
/-- A part and the rest. -/
theorem bn_parts : ∀ {n s a : Nat}, s < 2 ^ n → a &&& s = a → (bn a n ++ bn (s - a) n).Perm (bn s n)
  | 0, _, _, _, _ => by simp [bn]
  | n + 1, s, a, h, e => by
    have hle := @Nat.and_le_right a s
    rw [e] at hle
    have hp : 2 ^ (n + 1) = 2 ^ n + 2 ^ n := by rw [Nat.pow_succ]; omega
    by_cases hs : s < 2 ^ n
    · rw [bn_low hs, bn_low (show a < 2 ^ n by omega), bn_low (show s - a < 2 ^ n by omega)]
      exact bn_parts hs e
    · obtain ⟨t, rfl⟩ : ∃ t, s = 2 ^ n + t := ⟨s - 2 ^ n, by omega⟩
      have ht : t < 2 ^ n := by omega
      rw [bn_top ht]
      by_cases ha : a < 2 ^ n
      · rw [and_high ha] at e
        have := @Nat.and_le_right a t
        rw [bn_low ha, show 2 ^ n + t - a = 2 ^ n + (t - a) by omega, bn_top (show t - a < 2 ^ n by omega)]
        exact List.perm_middle.trans ((bn_parts ht e).cons n)
      · obtain ⟨c, rfl⟩ : ∃ c, a = 2 ^ n + c := ⟨a - 2 ^ n, by omega⟩
        have hc : c < 2 ^ n := by omega
        rw [and_both hc ht] at e
        rw [bn_top hc, show 2 ^ n + t - (2 ^ n + c) = t - c by omega, bn_low (show t - c < 2 ^ n by omega)]
        exact (bn_parts ht (by omega)).cons n
theorem bn_ne {n s : Nat} (hs : s < 2 ^ n) (h0 : 0 < s) : bn s n ≠ [] := fun e => by
  have : s = 0 := by
    apply Nat.eq_of_testBit_eq
    intro i
    rw [Nat.zero_testBit]
    rcases Nat.lt_or_ge i n with h | h
    · cases hb : s.testBit i
      · rfl
      · have := bn_mem.2 ⟨h, hb⟩
        rw [e] at this
        cases this
    · exact Nat.testBit_lt_two_pow (Nat.lt_of_lt_of_le hs (Nat.pow_le_pow_right (by omega) h))
  omega
theorem bn_bits {n s : Nat} (hn : n ≤ 32) (hs : s < 2 ^ n) : (bn s n).Perm (bitsL (nw s)) := by
  have hb : ∀ i, (nw s).getLsbD i = (decide (i < 32) && s.testBit i) := fun i => by
    show (BitVec.ofNat 32 s).getLsbD i = _
    rw [BitVec.getLsbD_ofNat]
  have h1 : ∀ n, n ≤ 32 → (bn s n).Perm ((List.range n).filter fun j => (nw s).getLsbD j) := by
    intro n
    induction n with
    | zero => intro _; exact List.Perm.refl _
    | succ n ih =>
      intro hn
      rw [bn, List.range_succ, List.filter_append, List.filter_cons, List.filter_nil, hb n, decide_eq_true (show n < 32 by omega), Bool.true_and]
      cases s.testBit n with
      | true => exact ((ih (by omega)).cons n).trans (List.perm_append_singleton n _).symm
      | false => simpa using ih (by omega)
  have h2 : ∀ k, (List.range (n + k)).filter (fun j => (nw s).getLsbD j) = (List.range n).filter fun j => (nw s).getLsbD j := by
    intro k
    induction k with
    | zero => rfl
    | succ k ih =>
      rw [← Nat.add_assoc, List.range_succ, List.filter_append, ih, List.filter_cons, List.filter_nil, hb, Nat.testBit_lt_two_pow (Nat.lt_of_lt_of_le hs (Nat.pow_le_pow_right (by omega) (show n ≤ n + k by omega)))]
      simp
  have := h2 (32 - n)
  rw [show n + (32 - n) = 32 by omega] at this
  unfold bitsL
  rw [this]
  exact h1 n hn
/-- The entry of a word. -/
def trT (w : Nat → Nat → Int) (N s : Nat) : Int := D w (bn s N)
/-- What the reference adds up for a word. -/
def trF (w : Nat → Nat → Int) (N s a : Nat) : Int := if a &&& s = a then trT w N a * (trT w N (s - a) * ee w (bn a N) (bn (s - a) N)) else 0
theorem trF_sum {w : Nat → Nat → Int} (hw : ∀ i j, w i j = w j i) {N s : Nat} (hs : s < 2 ^ N) (h0 : 0 < s) : sg (trF w N s) s = 2 * (((bn s N).length : Int) - 1) * trT w N s := by
  have h1 := mask_sum N s (fun h k => D w h * (D w k * ee w h k)) hs
  rw [trees_edges hw (bn s N)] at h1
  show _ = 2 * (((bn s N).length : Int) - 1) * D w (bn s N)
  rw [← h1]
  obtain ⟨d, hd⟩ : ∃ d, 2 ^ N = s + 1 + d := ⟨2 ^ N - (s + 1), by omega⟩
  rw [hd, sg_more]
  have h2 : sg (fun t => if (s + 1 + t) &&& s = s + 1 + t then D w (bn (s + 1 + t) N) * (D w (bn (s - (s + 1 + t)) N) * ee w (bn (s + 1 + t) N) (bn (s - (s + 1 + t)) N)) else 0) d = 0 := sg_zero fun t _ => by
    rw [if_neg fun e => ?_]
    have := @Nat.and_le_right (s + 1 + t) s
    omega
  rw [h2, Int.add_zero, sg, if_pos (Nat.and_self s), Nat.sub_self, bn_zero, show D w [] = 0 from rfl]
  simp only [Int.zero_mul, Int.mul_zero, Int.add_zero]
  rfl
theorem trF_0 (w : Nat → Nat → Int) (N s : Nat) : sg (trF w N s) 1 = 0 := by
  show 0 + trF w N s 0 = 0
  unfold trF trT
  rw [if_pos (by simp), bn_zero, show D w [] = 0 from rfl]
  simp
section
variable {w : Nat → Nat → Int} {N s : Nat}
theorem D_nonneg (hp : ∀ i j, 0 ≤ w i j) : ∀ L, 0 ≤ D w L
  | [] => Int.le_refl _
  | r :: X => Z_nonneg hp X (hp r)
theorem ee_nonneg (hp : ∀ i j, 0 ≤ w i j) (h k : List Nat) : 0 ≤ ee w h k := sm_nonneg (fun i => sm_nonneg (hp i) k) h
theorem trT_nn (hp : ∀ i j, 0 ≤ w i j) (N s : Nat) : 0 ≤ trT w N s := D_nonneg hp _
theorem trF_nn (hp : ∀ i j, 0 ≤ w i j) (N s a : Nat) : 0 ≤ trF w N s a := by
  unfold trF
  split
  · exact Int.mul_nonneg (trT_nn hp _ _) (Int.mul_nonneg (trT_nn hp _ _) (ee_nonneg hp _ _))
  · exact Int.le_refl _
/-- So many at most. -/
theorem D_le (hw : ∀ i j, w i j = w j i) (hp : ∀ i j, 0 ≤ w i j) {b : Int} (hb : 1 ≤ b) {L : List Nat} (h : ∀ i ∈ L, sm (w i) L ≤ b) : D w L ≤ b ^ L.length := by
  match L, h with
  | [], _ => simp [D]
  | r :: X, h =>
    have h1 := Z_le hw hp (show 0 ≤ b by omega) X (w r) (hp r) fun i hi => by
      have := h i (by simp [hi])
      rw [sm, hw i r] at this
      rw [hw r i, hw i r]
      exact this
    rw [List.length_cons, Int.pow_succ]
    have h2 : 0 ≤ b ^ X.length := Int.pow_nonneg (by omega)
    have h3 := Int.mul_le_mul_of_nonneg_left hb h2
    rw [Int.mul_one] at h3
    exact Int.le_trans h1 h3
end
end Go.Proofs.YtbbdiondhnmnaaaDoor
