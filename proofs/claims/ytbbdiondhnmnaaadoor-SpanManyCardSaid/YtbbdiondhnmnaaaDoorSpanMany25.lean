/- All sets within a set, by s = (s - 1) & w, in plain Lean. Conditions: none. -/
import Derived.Test.YtbbdiondhnmnaaaDoorSpanMany1
import Derived.Test.YtbbdiondhnmnaaaDoorSpanMany6
import Derived.IntWalk
namespace Go.Proofs.YtbbdiondhnmnaaaDoor

theorem bool_or (b : Bool) : b = false ∨ b = true := by cases b <;> simp
theorem and_parts (a b : Nat) : a &&& b = 2 * ((a / 2) &&& (b / 2)) + (if a % 2 = 1 ∧ b % 2 = 1 then 1 else 0) := by
  have h1 : (a &&& b) / 2 = (a / 2) &&& (b / 2) := by simpa using (Nat.and_div_two_pow (a := a) (b := b) (n := 1))
  have h2 := Nat.and_mod_two_pow (a := a) (b := b) (n := 1)
  rw [Nat.pow_one] at h2
  have h3 : (a % 2 &&& b % 2) = if a % 2 = 1 ∧ b % 2 = 1 then 1 else 0 := by
    rcases Nat.mod_two_eq_zero_or_one a with e | e <;> rcases Nat.mod_two_eq_zero_or_one b with f | f <;> rw [e, f] <;> rfl
  rw [h3] at h2
  rw [← h1, ← h2]
  omega
/-- Within w the one that comes next below s. -/
theorem sub_next : ∀ (w s t : Nat), s &&& w = s → t &&& w = t → t < s → t ≤ (s - 1) &&& w := by
  intro w
  induction w using Nat.strongRecOn with
  | ind w ih =>
    intro s t hs ht hlt
    by_cases hw : w = 0
    · subst hw
      rw [Nat.and_zero] at hs
      omega
    · have hs' := and_parts s w
      have ht' := and_parts t w
      rw [hs] at hs'
      rw [ht] at ht'
      have hsd : (s / 2) &&& (w / 2) = s / 2 := by
        split at hs' <;> omega
      have htd : (t / 2) &&& (w / 2) = t / 2 := by
        split at ht' <;> omega
      have hp := and_parts (s - 1) w
      rcases Nat.mod_two_eq_zero_or_one s with e | e
      · have hs2 : (s - 1) / 2 = s / 2 - 1 := by omega
        have hs3 : (s - 1) % 2 = 1 := by omega
        have := ih (w / 2) (by omega) (s / 2) (t / 2) hsd htd (by omega)
        rw [hs2, hs3] at hp
        rw [hp]
        by_cases hw1 : w % 2 = 1
        · rw [if_pos ⟨rfl, hw1⟩]; omega
        · rw [if_neg (fun h => hw1 h.2)]
          have : t % 2 = 0 := by
            rcases Nat.mod_two_eq_zero_or_one t with f | f
            · exact f
            · exfalso; rw [if_neg (fun h => hw1 h.2)] at ht'; omega
          omega
      · have hs2 : (s - 1) / 2 = s / 2 := by omega
        rw [hs2, hsd, if_neg (by omega)] at hp
        rw [hp]
        omega
theorem sub_sub (w s : Nat) : ((s - 1) &&& w) &&& w = (s - 1) &&& w := by rw [Nat.and_assoc, Nat.and_self]
theorem sub_lt {w s : Nat} (hs : 0 < s) : (s - 1) &&& w < s := by
  have := @Nat.and_le_left (s - 1) w
  omega
/-- From s on downwards the least of x and of all f. -/
def dnM (f : Nat → Int) (w : Nat) : Nat → Nat → Int → Int
  | 0, _, x => x
  | n + 1, s, x => if s = 0 then x else dnM f w n ((s - 1) &&& w) (min x (f s))
theorem dnM_enough (f : Nat → Int) (w : Nat) : ∀ (n m s : Nat) (x : Int), s ≤ n → s ≤ m → dnM f w n s x = dnM f w m s x
  | 0, m, s, x, h, _ => by
    obtain rfl : s = 0 := by omega
    cases m with
    | zero => rfl
    | succ m => rw [dnM, dnM, if_pos rfl]
  | n + 1, 0, s, x, _, h => by
    obtain rfl : s = 0 := by omega
    rw [dnM, dnM, if_pos rfl]
  | n + 1, m + 1, s, x, h1, h2 => by
    rw [dnM, dnM]
    by_cases hs : s = 0
    · rw [if_pos hs, if_pos hs]
    · rw [if_neg hs, if_neg hs]
      have := sub_lt (w := w) (s := s) (by omega)
      exact dnM_enough f w n m _ _ (by omega) (by omega)
def dn (f : Nat → Int) (w s : Nat) (x : Int) : Int := dnM f w s s x
theorem dn_0 (f : Nat → Int) (w : Nat) (x : Int) : dn f w 0 x = x := rfl
theorem dn_s (f : Nat → Int) (w s : Nat) (x : Int) (hs : 0 < s) : dn f w s x = dn f w ((s - 1) &&& w) (min x (f s)) := by
  obtain ⟨n, rfl⟩ : ∃ n, s = n + 1 := ⟨s - 1, by omega⟩
  have hlt := sub_lt (w := w) (s := n + 1) hs
  unfold dn
  rw [dnM, if_neg (by omega)]
  exact dnM_enough f w _ _ _ _ (by omega) (Nat.le_refl _)
theorem dn_le (f : Nat → Int) (w : Nat) : ∀ (s : Nat) (x : Int), s &&& w = s → dn f w s x ≤ x ∧ ∀ t, t &&& w = t → 0 < t → t ≤ s → dn f w s x ≤ f t := by
  intro s
  induction s using Nat.strongRecOn with
  | ind s ih =>
    intro x hs
    rcases Nat.eq_zero_or_pos s with rfl | hp
    · exact ⟨Int.le_refl _, fun t _ h1 h2 => by omega⟩
    · obtain ⟨h1, h2⟩ := ih _ (sub_lt (w := w) hp) (min x (f s)) (sub_sub w s)
      rw [dn_s f w s x hp]
      refine ⟨by omega, fun t ht h0 hts => ?_⟩
      by_cases hlt : t < s
      · exact h2 t ht h0 (sub_next w s t hs ht hlt)
      · obtain rfl : t = s := by omega
        omega
theorem dn_mem (f : Nat → Int) (w : Nat) : ∀ (s : Nat) (x : Int), s &&& w = s → dn f w s x = x ∨ ∃ t, t &&& w = t ∧ 0 < t ∧ t ≤ s ∧ dn f w s x = f t := by
  intro s
  induction s using Nat.strongRecOn with
  | ind s ih =>
    intro x hs
    rcases Nat.eq_zero_or_pos s with rfl | hp
    · exact .inl rfl
    · have hlt := sub_lt (w := w) hp
      rw [dn_s f w s x hp]
      rcases ih _ hlt (min x (f s)) (sub_sub w s) with h | ⟨t, h1, h2, h3, h4⟩
      · rcases Int.le_total x (f s) with hle | hle
        · exact .inl (by rw [h]; omega)
        · exact .inr ⟨s, hs, hp, Nat.le_refl _, by rw [h]; omega⟩
      · exact .inr ⟨t, h1, h2, by omega, h4⟩
/-- The set of those below n for which p says yes. -/
def mkS (p : Nat → Bool) : Nat → Nat
  | 0 => 0
  | i + 1 => mkS p i + if p i then 2 ^ i else 0
theorem mkS_lt (p : Nat → Bool) : ∀ n, mkS p n < 2 ^ n
  | 0 => by simp [mkS]
  | n + 1 => by
    have := mkS_lt p n
    rw [mkS, Nat.pow_succ]
    split <;> omega
theorem mkS_bit (p : Nat → Bool) : ∀ n i, (mkS p n).testBit i = (decide (i < n) && p i)
  | 0, i => by simp [mkS]
  | n + 1, i => by
    have hlt := mkS_lt p n
    rw [mkS]
    by_cases hp : p n = true
    · rw [if_pos hp, Nat.add_comm]
      rcases Nat.lt_trichotomy i n with h | h | h
      · rw [Nat.testBit_two_pow_add_gt h, mkS_bit p n i, decide_eq_true h, decide_eq_true (show i < n + 1 by omega)]
      · subst h
        rw [Nat.testBit_two_pow_add_eq, mkS_bit p i i, decide_eq_false (Nat.lt_irrefl i), decide_eq_true (Nat.lt_succ_self i), hp]
        rfl
      · have h2 : 2 ^ n + mkS p n < 2 ^ i := by
          have : 2 ^ (n + 1) ≤ 2 ^ i := Nat.pow_le_pow_right (by omega) h
          rw [Nat.pow_succ] at this
          omega
        rw [Nat.testBit_lt_two_pow h2, decide_eq_false (show ¬ i < n + 1 by omega)]
        rfl
    · rw [if_neg hp, Nat.add_zero, mkS_bit p n i]
      by_cases hin : i = n
      · subst hin; simp [hp]
      · have : (decide (i < n + 1)) = decide (i < n) := by
          rw [Bool.eq_iff_iff]; simp; omega
        rw [this]
theorem bit_sub {w s : Nat} (h : s &&& w = s) {i : Nat} (hi : s.testBit i = true) : w.testBit i = true := by
  rw [← h, Nat.testBit_and, Bool.and_eq_true] at hi
  exact hi.2
theorem sub_of_bits {w s : Nat} (h : ∀ i, s.testBit i = true → w.testBit i = true) : s &&& w = s := by
  apply Nat.eq_of_testBit_eq
  intro i
  rw [Nat.testBit_and]
  cases hs : s.testBit i
  · rfl
  · rw [h i hs]; rfl
theorem sub_le {w s : Nat} (h : s &&& w = s) : s ≤ w := by
  rw [← h]
  exact Nat.and_le_right
end Go.Proofs.YtbbdiondhnmnaaaDoor

/- Sets in an int: the operations on '.int .i64' as operations on Nat, in the walk's own spelling. Conditions: none. -/
namespace Go.Proofs.YtbbdiondhnmnaaaDoor
open Go.RowKit

def nAnd (x y : Nat) : Nat := x &&& y
def nXor (x y : Nat) : Nat := x ^^^ y
def nOr (x y : Nat) : Nat := x ||| y
theorem bits_and (x y : BitVec 32) : bits .and .i64 (sN x) (sN y) = sN (wAnd x y) := by
  show (IntKind.i64.wrap ((BitVec.ofInt 64 (x.toNat : Int) &&& BitVec.ofInt 64 (y.toNat : Int)).toNat : Int)) = _
  rw [ofInt_s, ofInt_s, show (BitVec.setWidth 64 x &&& BitVec.setWidth 64 y).toNat = (x &&& y).toNat from by rw [BitVec.toNat_and, sw_toNat, sw_toNat, BitVec.toNat_and], wrap_s]
  rfl
theorem bits_or (x y : BitVec 32) : bits .or .i64 (sN x) (sN y) = sN (wOr x y) := by
  show (IntKind.i64.wrap ((BitVec.ofInt 64 (x.toNat : Int) ||| BitVec.ofInt 64 (y.toNat : Int)).toNat : Int)) = _
  rw [ofInt_s, ofInt_s, show (BitVec.setWidth 64 x ||| BitVec.setWidth 64 y).toNat = (x ||| y).toNat from by rw [BitVec.toNat_or, sw_toNat, sw_toNat, BitVec.toNat_or], wrap_s]
  rfl
theorem bits_but (x y : BitVec 32) : bits .andNot .i64 (sN x) (sN y) = sN (wBut x y) := by
  show (IntKind.i64.wrap ((BitVec.ofInt 64 (x.toNat : Int) &&& ~~~BitVec.ofInt 64 (y.toNat : Int)).toNat : Int)) = _
  rw [ofInt_s, ofInt_s]
  have h : (BitVec.setWidth 64 x &&& ~~~BitVec.setWidth 64 y) = BitVec.setWidth 64 (x &&& ~~~y) := by
    apply BitVec.eq_of_getLsbD_eq
    intro i hi
    simp only [BitVec.getLsbD_and, BitVec.getLsbD_not, BitVec.getLsbD_setWidth]
    rcases Nat.lt_or_ge i 32 with h | h
    · simp [hi, h]
    · simp [BitVec.getLsbD_of_ge x i h]
  rw [h, sw_toNat, wrap_s]
  rfl
theorem sN_of (x : Nat) (hx : x ≤ 1048576) : sN (BitVec.ofNat 32 x) = (x : Int) := by
  unfold sN
  rw [BitVec.toNat_ofNat, Nat.mod_eq_of_lt (by omega)]
theorem n_and (x y : Nat) (hx : x ≤ 1048576) (hy : y ≤ 1048576) : bits .and .i64 (x : Int) (y : Int) = (nAnd x y : Nat) := by
  have e := bits_and (BitVec.ofNat 32 x) (BitVec.ofNat 32 y)
  rw [sN_of x hx, sN_of y hy] at e
  rw [e]
  unfold sN wAnd nAnd
  rw [BitVec.toNat_and, BitVec.toNat_ofNat, BitVec.toNat_ofNat, Nat.mod_eq_of_lt (by omega), Nat.mod_eq_of_lt (by omega)]
theorem n_or (x y : Nat) (hx : x ≤ 1048576) (hy : y ≤ 1048576) : bits .or .i64 (x : Int) (y : Int) = (nOr x y : Nat) := by
  have e := bits_or (BitVec.ofNat 32 x) (BitVec.ofNat 32 y)
  rw [sN_of x hx, sN_of y hy] at e
  rw [e]
  unfold sN wOr nOr
  rw [BitVec.toNat_or, BitVec.toNat_ofNat, BitVec.toNat_ofNat, Nat.mod_eq_of_lt (by omega), Nat.mod_eq_of_lt (by omega)]
theorem xor_le {a s : Nat} (h : s &&& a = s) : nXor a s ≤ a := by
  have : (nXor a s) &&& a = nXor a s := sub_of_bits fun i hi => by
    unfold nXor at hi
    rw [Nat.testBit_xor] at hi
    have hb := @bit_sub a s h i
    revert hi hb
    cases a.testBit i <;> cases s.testBit i <;> simp
  exact sub_le this
theorem n_but (x y : Nat) (hx : x ≤ 1048576) (hy : y &&& x = y) : bits .andNot .i64 (x : Int) (y : Int) = (nXor x y : Nat) := by
  have hyx := sub_le hy
  have hxor := xor_le hy
  have e := bits_but (BitVec.ofNat 32 x) (BitVec.ofNat 32 y)
  rw [sN_of x hx, sN_of y (by omega)] at e
  rw [e]
  have h : wBut (BitVec.ofNat 32 x) (BitVec.ofNat 32 y) = BitVec.ofNat 32 (nXor x y) := by
    apply w_ext
    intro i hi
    have hb := @bit_sub x y hy i
    rw [b_but]
    simp only [BitVec.getLsbD_ofNat, hi, decide_true, Bool.true_and]
    unfold nXor
    rw [Nat.testBit_xor]
    revert hb
    cases x.testBit i <;> cases y.testBit i <;> simp
  rw [h, sN_of _ (by omega)]
/-- 'x >> i & 1'. -/
theorem n_bit (x i : Nat) (hx : x ≤ 1048576) : bits .and .i64 ((x : Int) / 2 ^ i) 1 = if x.testBit i then 1 else 0 := by
  have h1 : x / 2 ^ i ≤ x := Nat.div_le_self _ _
  have e := n_and (x / 2 ^ i) 1 (by omega) (by omega)
  rw [show ((1 : Nat) : Int) = 1 from rfl, Int.natCast_ediv, Int.natCast_pow] at e
  rw [show ((2 : Int) ^ i) = (((2 : Nat) : Int) ^ i) from rfl, e]
  unfold nAnd
  rw [Nat.and_one_is_mod, Nat.testBit_eq_decide_div_mod_eq]
  rcases Nat.mod_two_eq_zero_or_one (x / 2 ^ i) with h | h <;> rw [h] <;> rfl
theorem n_bit1 (x i : Nat) (hx : x ≤ 1048576) : (bits .and .i64 ((x : Int) / 2 ^ i) 1 == 1) = x.testBit i := by
  rw [n_bit x i hx]
  cases x.testBit i <;> rfl
theorem n_bit0 (x i : Nat) (hx : x ≤ 1048576) : (bits .and .i64 ((x : Int) / 2 ^ i) 1 == 0) = !x.testBit i := by
  rw [n_bit x i hx]
  cases x.testBit i <;> rfl
theorem n_shl1 (k : IntKind) (n : Nat) (h : n ≤ 20) : Op.shift .shl .i64 1 k (n : Int) = pure (.int .i64 ((2 ^ n : Nat) : Int)) := by
  have e := s_shl1 k (n : Int) (by omega) (by omega)
  rw [Int.toNat_natCast] at e
  unfold sN at e
  rw [wN_shl1 (by omega)] at e
  exact e
def pw (n : Nat) : Nat := 2 ^ n
theorem n_shlp (k : IntKind) (n : Int) (h : 0 ≤ n) (h1 : n ≤ 20) : Op.shift .shl .i64 1 k n = pure (.int .i64 (pw n.toNat : Nat)) := by
  have e := n_shl1 k n.toNat (by omega)
  rw [Int.toNat_of_nonneg h] at e
  exact e
/-- A list told by a function, one place stored anew. -/
theorem mapR_set {α : Type} (f : Nat → α) (P a : Nat) (x : α) : ((List.range P).map f).set a x = (List.range P).map fun i => if i = a then x else f i := by
  apply List.ext_getElem (by simp)
  intro i h1 h2
  simp only [List.getElem_set, List.getElem_map, List.getElem_range]
  by_cases h : a = i
  · rw [if_pos h, if_pos h.symm]
  · rw [if_neg h, if_neg (fun e => h e.symm)]
theorem mapR_congr {α : Type} {f g : Nat → α} {P : Nat} (h : ∀ i, i < P → f i = g i) : (List.range P).map f = (List.range P).map g := List.map_congr_left fun i hi => h i (List.mem_range.1 hi)
theorem mapR_get {α : Type} (f : Nat → α) {P a : Nat} (h : a < ((List.range P).map f).length) : ((List.range P).map f)[a] = f a := by simp
theorem mapR_len {α : Type} (f : Nat → α) (P : Nat) : ((List.range P).map f).length = P := by simp
end Go.Proofs.YtbbdiondhnmnaaaDoor
