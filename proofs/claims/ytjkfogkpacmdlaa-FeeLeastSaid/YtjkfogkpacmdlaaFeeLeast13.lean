/- What a step costs. Conditions: the arcs read as a list. -/
import Derived.Test.YtjkfogkpacmdlaaFeeLeast12
import Derived.Test.YtjkfogkpacmdlaaFeeLeast8
import Derived.Test.YtjkfogkpacmdlaaFeeLeast1
namespace Go.Proofs.Ytjkfogkpacmdlaa
open Go.RowKit

set_option maxRecDepth 100000 in
set_option maxHeartbeats 1000000 in
theorem fee_cost (B P N : Nat) (A : Option Addr) (m c : Nat) (G : Option Addr) (cg : Nat) (l : List Arc) (gs : List Int) (i : Nat) (b : Bool) (w : World) (h : Opened w B P N A m c G cg l gs) (hi : i < m) (hm : m ≤ 30) (hP : P < w.heap.size) (hB : B ≤ w.heap.size) (hw : -1048576 ≤ (l.getD i ⟨0, 0, 0, 0⟩).e ∧ (l.getD i ⟨0, 0, 0, 0⟩).e ≤ 1048576) :
    Calls Try.prog 52 #[.pointer (some ⟨P, 0, none⟩), .agg #[.int .i64 i, .bool b]] w fun e w' => e = .returned (.int .i64 (costS (l.getD i ⟨0, 0, 0, 0⟩) b)) ∧ Below w.heap.size w w' := by
  obtain ⟨hk, hra, hrg, hl, hg⟩ := h
  obtain ⟨b0, off0, rfl, hb0, a0, a1, a2, a3⟩ := (hra.below ((Below.refl B w).alloc hB (.cells #[.int .i64 i, .bool b] 77))).at4 (k := i) (by rw [hl]; exact hi)
  rw [← getD_at l i (by rw [hl]; exact hi) ⟨0, 0, 0, 0⟩] at a0 a1 a2 a3
  obtain ⟨a, ha⟩ : ∃ a, a = l.getD i ⟨0, 0, 0, 0⟩ := ⟨_, rfl⟩
  rw [← ha] at a0 a1 a2 a3 hw ⊢
  obtain ⟨af, at_, am, ae⟩ := a
  simp only at hw
  have hk1 := hk.alloc (.cells #[.int .i64 i, .bool b] 77)
  have hs1 := Blk.new w 77 #[.int .i64 i, .bool b]
  obtain ⟨V, hV⟩ : ∃ V, V = w.alloc (.cells #[.int .i64 i, .bool b] 77) := ⟨_, rfl⟩
  rw [← hV] at a0 a1 a2 a3 hk1 hs1
  have k0 := hk1.cell 0
  have k1 := hk1.cell 1
  have s0 := hs1.cell 0
  have s1 := hs1.cell 1
  have HB1 := Lib.hid (show Below w.heap.size w V by rw [hV]; exact (Below.refl w.heap.size w).alloc (Nat.le_refl _) _)
  have HVV := Lib.hid hV
  obtain ⟨Q, hQ⟩ : ∃ Q, Q = w.heap.size := ⟨_, rfl⟩
  have HQ := Lib.hid hQ
  rw [← hQ] at s0 s1
  clear ha hra hrg hk hk1 hs1 hl hg hV hQ
  have hwn : IntKind.i64.wrap (-ae) = -ae := IntWalk.i64_in _ (by omega)
  cases b with
  | true =>
    go_enter Try.func52, Try.ntmps52
    go_wp2_with fail
    rw [← HVV.out, ← HQ.out]
    go_wp2_with fail
    go_quiet (fail)
    go_wp2_with fail
    go_ret
    exact ⟨rfl, below_drewN HB1.out _⟩
  | false =>
    go_enter Try.func52, Try.ntmps52
    go_wp2_with fail
    rw [← HVV.out, ← HQ.out]
    go_wp2_with fail
    go_quiet (fail)
    go_wp2_with fail
    go_ret
    exact ⟨rfl, below_drewN HB1.out _⟩

end Go.Proofs.Ytjkfogkpacmdlaa

/- Two rows of different types lie apart. Conditions: none. -/
namespace Go.Proofs.Ytjkfogkpacmdlaa
open Go.RowKit

theorem Own.apart {α β : Type} {w : World} {B B' c c' cap cap' : Nat} {e e' : TypeId} {f : α → List Value} {f' : β → List Value} {A A' : Option Addr} {l : List α} {l' : List β} (h : Own w B e c f A cap l) (h' : Own w B' e' c' f' A' cap' l') (hne : e ≠ e') : blkOf A = none ∨ blkOf A ≠ blkOf A' := by
  rcases h.2.2 with ⟨hv, _⟩ | ⟨g, cp, cur, hv, _, hh, _⟩
  · injection hv with hv
    left; rw [hv]; rfl
  · right
    injection hv with hv
    subst hv
    intro he
    rcases h'.2.2 with ⟨hv', _⟩ | ⟨g', cp', cur', hv', _, hh', _⟩
    · injection hv' with hv'
      rw [hv'] at he; cases he
    · injection hv' with hv'
      subst hv'
      have hg : g = g' := by simpa [blkOf] using he
      subst hg
      rw [hh] at hh'
      injection hh' with hh'
      injection hh' with _ h2
      exact hne h2
end Go.Proofs.Ytjkfogkpacmdlaa

/- All sets within a set, by s = (s - 1) & w, in plain Lean. Conditions: none. -/
namespace Go.Proofs.Ytjkfogkpacmdlaa

theorem bool_or (b : Bool) : b = false ∨ b = true := by cases b <;> simp
theorem and_parts (a b : Nat) : a &&& b = 2 * ((a / 2) &&& (b / 2)) + (if a % 2 = 1 ∧ b % 2 = 1 then 1 else 0) := by
  have h1 : (a &&& b) / 2 = (a / 2) &&& (b / 2) := by simpa using (Nat.and_div_two_pow (a := a) (b := b) (n := 1))
  have h2 := Nat.and_mod_two_pow (a := a) (b := b) (n := 1)
  rw [Nat.pow_one] at h2
  have h3 : (a % 2 &&& b % 2) = if a % 2 = 1 ∧ b % 2 = 1 then 1 else 0 := by
    rcases Nat.mod_two_eq_zero_or_one a with e | e <;> rcases Nat.mod_two_eq_zero_or_one b with f | f <;> rw [e, f] <;> rfl
  rw [h3] at h2
  rw [← h1, ← h2]
  omega
/-- Within w the one that comes next below s. -/
theorem sub_next : ∀ (w s t : Nat), s &&& w = s → t &&& w = t → t < s → t ≤ (s - 1) &&& w := by
  intro w
  induction w using Nat.strongRecOn with
  | ind w ih =>
    intro s t hs ht hlt
    by_cases hw : w = 0
    · subst hw
      rw [Nat.and_zero] at hs
      omega
    · have hs' := and_parts s w
      have ht' := and_parts t w
      rw [hs] at hs'
      rw [ht] at ht'
      have hsd : (s / 2) &&& (w / 2) = s / 2 := by
        split at hs' <;> omega
      have htd : (t / 2) &&& (w / 2) = t / 2 := by
        split at ht' <;> omega
      have hp := and_parts (s - 1) w
      rcases Nat.mod_two_eq_zero_or_one s with e | e
      · have hs2 : (s - 1) / 2 = s / 2 - 1 := by omega
        have hs3 : (s - 1) % 2 = 1 := by omega
        have := ih (w / 2) (by omega) (s / 2) (t / 2) hsd htd (by omega)
        rw [hs2, hs3] at hp
        rw [hp]
        by_cases hw1 : w % 2 = 1
        · rw [if_pos ⟨rfl, hw1⟩]; omega
        · rw [if_neg (fun h => hw1 h.2)]
          have : t % 2 = 0 := by
            rcases Nat.mod_two_eq_zero_or_one t with f | f
            · exact f
            · exfalso; rw [if_neg (fun h => hw1 h.2)] at ht'; omega
          omega
      · have hs2 : (s - 1) / 2 = s / 2 := by omega
        rw [hs2, hsd, if_neg (by omega)] at hp
        rw [hp]
        omega
theorem sub_sub (w s : Nat) : ((s - 1) &&& w) &&& w = (s - 1) &&& w := by rw [Nat.and_assoc, Nat.and_self]
theorem sub_lt {w s : Nat} (hs : 0 < s) : (s - 1) &&& w < s := by
  have := @Nat.and_le_left (s - 1) w
  omega
/-- From s on downwards the least of x and of all f. -/
def dnM (f : Nat → Int) (w : Nat) : Nat → Nat → Int → Int
  | 0, _, x => x
  | n + 1, s, x => if s = 0 then x else dnM f w n ((s - 1) &&& w) (min x (f s))
theorem dnM_enough (f : Nat → Int) (w : Nat) : ∀ (n m s : Nat) (x : Int), s ≤ n → s ≤ m → dnM f w n s x = dnM f w m s x
  | 0, m, s, x, h, _ => by
    obtain rfl : s = 0 := by omega
    cases m with
    | zero => rfl
    | succ m => rw [dnM, dnM, if_pos rfl]
  | n + 1, 0, s, x, _, h => by
    obtain rfl : s = 0 := by omega
    rw [dnM, dnM, if_pos rfl]
  | n + 1, m + 1, s, x, h1, h2 => by
    rw [dnM, dnM]
    by_cases hs : s = 0
    · rw [if_pos hs, if_pos hs]
    · rw [if_neg hs, if_neg hs]
      have := sub_lt (w := w) (s := s) (by omega)
      exact dnM_enough f w n m _ _ (by omega) (by omega)
def dn (f : Nat → Int) (w s : Nat) (x : Int) : Int := dnM f w s s x
theorem dn_0 (f : Nat → Int) (w : Nat) (x : Int) : dn f w 0 x = x := rfl
theorem dn_s (f : Nat → Int) (w s : Nat) (x : Int) (hs : 0 < s) : dn f w s x = dn f w ((s - 1) &&& w) (min x (f s)) := by
  obtain ⟨n, rfl⟩ : ∃ n, s = n + 1 := ⟨s - 1, by omega⟩
  have hlt := sub_lt (w := w) (s := n + 1) hs
  unfold dn
  rw [dnM, if_neg (by omega)]
  exact dnM_enough f w _ _ _ _ (by omega) (Nat.le_refl _)
theorem dn_le (f : Nat → Int) (w : Nat) : ∀ (s : Nat) (x : Int), s &&& w = s → dn f w s x ≤ x ∧ ∀ t, t &&& w = t → 0 < t → t ≤ s → dn f w s x ≤ f t := by
  intro s
  induction s using Nat.strongRecOn with
  | ind s ih =>
    intro x hs
    rcases Nat.eq_zero_or_pos s with rfl | hp
    · exact ⟨Int.le_refl _, fun t _ h1 h2 => by omega⟩
    · obtain ⟨h1, h2⟩ := ih _ (sub_lt (w := w) hp) (min x (f s)) (sub_sub w s)
      rw [dn_s f w s x hp]
      refine ⟨by omega, fun t ht h0 hts => ?_⟩
      by_cases hlt : t < s
      · exact h2 t ht h0 (sub_next w s t hs ht hlt)
      · obtain rfl : t = s := by omega
        omega
theorem dn_mem (f : Nat → Int) (w : Nat) : ∀ (s : Nat) (x : Int), s &&& w = s → dn f w s x = x ∨ ∃ t, t &&& w = t ∧ 0 < t ∧ t ≤ s ∧ dn f w s x = f t := by
  intro s
  induction s using Nat.strongRecOn with
  | ind s ih =>
    intro x hs
    rcases Nat.eq_zero_or_pos s with rfl | hp
    · exact .inl rfl
    · have hlt := sub_lt (w := w) hp
      rw [dn_s f w s x hp]
      rcases ih _ hlt (min x (f s)) (sub_sub w s) with h | ⟨t, h1, h2, h3, h4⟩
      · rcases Int.le_total x (f s) with hle | hle
        · exact .inl (by rw [h]; omega)
        · exact .inr ⟨s, hs, hp, Nat.le_refl _, by rw [h]; omega⟩
      · exact .inr ⟨t, h1, h2, by omega, h4⟩
/-- The set of those below n for which p says yes. -/
def mkS (p : Nat → Bool) : Nat → Nat
  | 0 => 0
  | i + 1 => mkS p i + if p i then 2 ^ i else 0
theorem mkS_lt (p : Nat → Bool) : ∀ n, mkS p n < 2 ^ n
  | 0 => by simp [mkS]
  | n + 1 => by
    have := mkS_lt p n
    rw [mkS, Nat.pow_succ]
    split <;> omega
theorem mkS_bit (p : Nat → Bool) : ∀ n i, (mkS p n).testBit i = (decide (i < n) && p i)
  | 0, i => by simp [mkS]
  | n + 1, i => by
    have hlt := mkS_lt p n
    rw [mkS]
    by_cases hp : p n = true
    · rw [if_pos hp, Nat.add_comm]
      rcases Nat.lt_trichotomy i n with h | h | h
      · rw [Nat.testBit_two_pow_add_gt h, mkS_bit p n i, decide_eq_true h, decide_eq_true (show i < n + 1 by omega)]
      · subst h
        rw [Nat.testBit_two_pow_add_eq, mkS_bit p i i, decide_eq_false (Nat.lt_irrefl i), decide_eq_true (Nat.lt_succ_self i), hp]
        rfl
      · have h2 : 2 ^ n + mkS p n < 2 ^ i := by
          have : 2 ^ (n + 1) ≤ 2 ^ i := Nat.pow_le_pow_right (by omega) h
          rw [Nat.pow_succ] at this
          omega
        rw [Nat.testBit_lt_two_pow h2, decide_eq_false (show ¬ i < n + 1 by omega)]
        rfl
    · rw [if_neg hp, Nat.add_zero, mkS_bit p n i]
      by_cases hin : i = n
      · subst hin; simp [hp]
      · have : (decide (i < n + 1)) = decide (i < n) := by
          rw [Bool.eq_iff_iff]; simp; omega
        rw [this]
theorem bit_sub {w s : Nat} (h : s &&& w = s) {i : Nat} (hi : s.testBit i = true) : w.testBit i = true := by
  rw [← h, Nat.testBit_and, Bool.and_eq_true] at hi
  exact hi.2
theorem sub_of_bits {w s : Nat} (h : ∀ i, s.testBit i = true → w.testBit i = true) : s &&& w = s := by
  apply Nat.eq_of_testBit_eq
  intro i
  rw [Nat.testBit_and]
  cases hs : s.testBit i
  · rfl
  · rw [h i hs]; rfl
theorem sub_le {w s : Nat} (h : s &&& w = s) : s ≤ w := by
  rw [← h]
  exact Nat.and_le_right
end Go.Proofs.Ytjkfogkpacmdlaa
