/- All sets within a set, by s = (s - 1) & w, in plain Lean. Conditions: none. -/
import Derived.Test.YtjkfogkpacmdlaaCommon
namespace Go.Proofs.Ytjkfogkpacmdlaa

theorem bool_or (b : Bool) : b = false ∨ b = true := by cases b <;> simp
theorem and_parts (a b : Nat) : a &&& b = 2 * ((a / 2) &&& (b / 2)) + (if a % 2 = 1 ∧ b % 2 = 1 then 1 else 0) := by
  have h1 : (a &&& b) / 2 = (a / 2) &&& (b / 2) := by simpa using (Nat.and_div_two_pow (a := a) (b := b) (n := 1))
  have h2 := Nat.and_mod_two_pow (a := a) (b := b) (n := 1)
  rw [Nat.pow_one] at h2
  have h3 : (a % 2 &&& b % 2) = if a % 2 = 1 ∧ b % 2 = 1 then 1 else 0 := by
    rcases Nat.mod_two_eq_zero_or_one a with e | e <;> rcases Nat.mod_two_eq_zero_or_one b with f | f <;> rw [e, f] <;> rfl
  rw [h3] at h2
  rw [← h1, ← h2]
  omega
/-- Within w the one that comes next below s. -/
theorem sub_next : ∀ (w s t : Nat), s &&& w = s → t &&& w = t → t < s → t ≤ (s - 1) &&& w := by
  intro w
  induction w using Nat.strongRecOn with
  | ind w ih =>
    intro s t hs ht hlt
    by_cases hw : w = 0
    · subst hw
      rw [Nat.and_zero] at hs
      omega
    · have hs' := and_parts s w
      have ht' := and_parts t w
      rw [hs] at hs'
      rw [ht] at ht'
      have hsd : (s / 2) &&& (w / 2) = s / 2 := by
        split at hs' <;> omega
      have htd : (t / 2) &&& (w / 2) = t / 2 := by
        split at ht' <;> omega
      have hp := and_parts (s - 1) w
      rcases Nat.mod_two_eq_zero_or_one s with e | e
      · have hs2 : (s - 1) / 2 = s / 2 - 1 := by omega
        have hs3 : (s - 1) % 2 = 1 := by omega
        have := ih (w / 2) (by omega) (s / 2) (t / 2) hsd htd (by omega)
        rw [hs2, hs3] at hp
        rw [hp]
        by_cases hw1 : w % 2 = 1
        · rw [if_pos ⟨rfl, hw1⟩]; omega
        · rw [if_neg (fun h => hw1 h.2)]
          have : t % 2 = 0 := by
            rcases Nat.mod_two_eq_zero_or_one t with f | f
            · exact f
            · exfalso; rw [if_neg (fun h => hw1 h.2)] at ht'; omega
          omega
      · have hs2 : (s - 1) / 2 = s / 2 := by omega
        rw [hs2, hsd, if_neg (by omega)] at hp
        rw [hp]
        omega
theorem sub_sub (w s : Nat) : ((s - 1) &&& w) &&& w = (s - 1) &&& w := by rw [Nat.and_assoc, Nat.and_self]
theorem sub_lt {w s : Nat} (hs : 0 < s) : (s - 1) &&& w < s := by
  have := @Nat.and_le_left (s - 1) w
  omega
/-- From s on downwards the least of x and of all f. -/
def dnM (f : Nat → Int) (w : Nat) : Nat → Nat → Int → Int
  | 0, _, x => x
  | n + 1, s, x => if s = 0 then x else dnM f w n ((s - 1) &&& w) (min x (f s))
theorem dnM_enough (f : Nat → Int) (w : Nat) : ∀ (n m s : Nat) (x : Int), s ≤ n → s ≤ m → dnM f w n s x = dnM f w m s x
  | 0, m, s, x, h, _ => by
    obtain rfl : s = 0 := by omega
    cases m with
    | zero => rfl
    | succ m => rw [dnM, dnM, if_pos rfl]
  | n + 1, 0, s, x, _, h => by
    obtain rfl : s = 0 := by omega
    rw [dnM, dnM, if_pos rfl]
  | n + 1, m + 1, s, x, h1, h2 => by
    rw [dnM, dnM]
    by_cases hs : s = 0
    · rw [if_pos hs, if_pos hs]
    · rw [if_neg hs, if_neg hs]
      have := sub_lt (w := w) (s := s) (by omega)
      exact dnM_enough f w n m _ _ (by omega) (by omega)
def dn (f : Nat → Int) (w s : Nat) (x : Int) : Int := dnM f w s s x
theorem dn_0 (f : Nat → Int) (w : Nat) (x : Int) : dn f w 0 x = x := rfl
theorem dn_s (f : Nat → Int) (w s : Nat) (x : Int) (hs : 0 < s) : dn f w s x = dn f w ((s - 1) &&& w) (min x (f s)) := by
  obtain ⟨n, rfl⟩ : ∃ n, s = n + 1 := ⟨s - 1, by omega⟩
  have hlt := sub_lt (w := w) (s := n + 1) hs
  unfold dn
  rw [dnM, if_neg (by omega)]
  exact dnM_enough f w _ _ _ _ (by omega) (Nat.le_refl _)
theorem dn_le (f : Nat → Int) (w : Nat) : ∀ (s : Nat) (x : Int), s &&& w = s → dn f w s x ≤ x ∧ ∀ t, t &&& w = t → 0 < t → t ≤ s → dn f w s x ≤ f t := by
  intro s
  induction s using Nat.strongRecOn with
  | ind s ih =>
    intro x hs
    rcases Nat.eq_zero_or_pos s with rfl | hp
    · exact ⟨Int.le_refl _, fun t _ h1 h2 => by omega⟩
    · obtain ⟨h1, h2⟩ := ih _ (sub_lt (w := w) hp) (min x (f s)) (sub_sub w s)
      rw [dn_s f w s x hp]
      refine ⟨by omega, fun t ht h0 hts => ?_⟩
      by_cases hlt : t < s
      · exact h2 t ht h0 (sub_next w s t hs ht hlt)
      · obtain rfl : t = s := by omega
        omega
theorem dn_mem (f : Nat → Int) (w : Nat) : ∀ (s : Nat) (x : Int), s &&& w = s → dn f w s x = x ∨ ∃ t, t &&& w = t ∧ 0 < t ∧ t ≤ s ∧ dn f w s x = f t := by
  intro s
  induction s using Nat.strongRecOn with
  | ind s ih =>
    intro x hs
    rcases Nat.eq_zero_or_pos s with rfl | hp
    · exact .inl rfl
    · have hlt := sub_lt (w := w) hp
      rw [dn_s f w s x hp]
      rcases ih _ hlt (min x (f s)) (sub_sub w s) with h | ⟨t, h1, h2, h3, h4⟩
      · rcases Int.le_total x (f s) with hle | hle
        · exact .inl (by rw [h]; omega)
        · exact .inr ⟨s, hs, hp, Nat.le_refl _, by rw [h]; omega⟩
      · exact .inr ⟨t, h1, h2, by omega, h4⟩
/-- The set of those below n for which p says yes. -/
def mkS (p : Nat → Bool) : Nat → Nat
  | 0 => 0
  | i + 1 => mkS p i + if p i then 2 ^ i else 0
theorem mkS_lt (p : Nat → Bool) : ∀ n, mkS p n < 2 ^ n
  | 0 => by simp [mkS]
  | n + 1 => by
    have := mkS_lt p n
    rw [mkS, Nat.pow_succ]
    split <;> omega
theorem mkS_bit (p : Nat → Bool) : ∀ n i, (mkS p n).testBit i = (decide (i < n) && p i)
  | 0, i => by simp [mkS]
  | n + 1, i => by
    have hlt := mkS_lt p n
    rw [mkS]
    by_cases hp : p n = true
    · rw [if_pos hp, Nat.add_comm]
      rcases Nat.lt_trichotomy i n with h | h | h
      · rw [Nat.testBit_two_pow_add_gt h, mkS_bit p n i, decide_eq_true h, decide_eq_true (show i < n + 1 by omega)]
      · subst h
        rw [Nat.testBit_two_pow_add_eq, mkS_bit p i i, decide_eq_false (Nat.lt_irrefl i), decide_eq_true (Nat.lt_succ_self i), hp]
        rfl
      · have h2 : 2 ^ n + mkS p n < 2 ^ i := by
          have : 2 ^ (n + 1) ≤ 2 ^ i := Nat.pow_le_pow_right (by omega) h
          rw [Nat.pow_succ] at this
          omega
        rw [Nat.testBit_lt_two_pow h2, decide_eq_false (show ¬ i < n + 1 by omega)]
        rfl
    · rw [if_neg hp, Nat.add_zero, mkS_bit p n i]
      by_cases hin : i = n
      · subst hin; simp [hp]
      · have : (decide (i < n + 1)) = decide (i < n) := by
          rw [Bool.eq_iff_iff]; simp; omega
        rw [this]
theorem bit_sub {w s : Nat} (h : s &&& w = s) {i : Nat} (hi : s.testBit i = true) : w.testBit i = true := by
  rw [← h, Nat.testBit_and, Bool.and_eq_true] at hi
  exact hi.2
theorem sub_of_bits {w s : Nat} (h : ∀ i, s.testBit i = true → w.testBit i = true) : s &&& w = s := by
  apply Nat.eq_of_testBit_eq
  intro i
  rw [Nat.testBit_and]
  cases hs : s.testBit i
  · rfl
  · rw [h i hs]; rfl
theorem sub_le {w s : Nat} (h : s &&& w = s) : s ≤ w := by
  rw [← h]
  exact Nat.and_le_right
end Go.Proofs.Ytjkfogkpacmdlaa
