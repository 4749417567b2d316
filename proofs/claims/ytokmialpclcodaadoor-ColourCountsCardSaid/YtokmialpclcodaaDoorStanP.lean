/- Colourings by sets of which no two have an edge; Stanley: by one colour less than none; in plain Lean. Conditions: none. -/
import Derived.Test.YtokmialpclcodaaDoorSubW
namespace Go.Proofs.YtokmialpclcodaaDoor
open Go.RowKit

def topTo (w : BitVec 32) : Nat → Nat
  | 0 => 0
  | i + 1 => if w.getLsbD i = true then i else topTo w i
def InW (n : Nat) (w : BitVec 32) : Prop := ∀ j, w.getLsbD j = true → j < n
theorem top_at {w : BitVec 32} : ∀ {m : Nat}, (∃ j, j < m ∧ w.getLsbD j = true) → w.getLsbD (topTo w m) = true ∧ topTo w m < m ∧ ∀ j, topTo w m < j → j < m → w.getLsbD j = false
  | 0, ⟨j, h, _⟩ => by omega
  | m + 1, ⟨j, h1, h2⟩ => by
    rw [topTo]
    by_cases hb : w.getLsbD m = true
    · rw [if_pos hb]; exact ⟨hb, by omega, fun j h3 h4 => by omega⟩
    · rw [if_neg hb]
      have hjm : j ≠ m := fun e => hb (e ▸ h2)
      obtain ⟨k1, k2, k3⟩ := top_at (w := w) (m := m) ⟨j, by omega, h2⟩
      refine ⟨k1, by omega, fun j' h3 h4 => ?_⟩
      by_cases e : j' = m
      · rw [e]; simpa using hb
      · exact k3 j' h3 (by omega)
theorem some_bit {n : Nat} {w : BitVec 32} (hw : InW n w) (h0 : w ≠ w0) : ∃ j, j < n ∧ w.getLsbD j = true := by
  refine Classical.byContradiction fun h => h0 (w_ext fun j _ => ?_)
  rw [b_0]
  cases hb : w.getLsbD j with
  | false => rfl
  | true => exact absurd ⟨j, hw j hb, hb⟩ h
theorem top_spec {n : Nat} {w : BitVec 32} (hw : InW n w) (h0 : w ≠ w0) : w.getLsbD (topTo w n) = true ∧ topTo w n < n ∧ ∀ j, topTo w n < j → w.getLsbD j = false := by
  obtain ⟨h1, h2, h3⟩ := top_at (some_bit hw h0)
  refine ⟨h1, h2, fun j hj => ?_⟩
  cases hb : w.getLsbD j with
  | false => rfl
  | true => rw [h3 j hj (hw j hb)] at hb; cases hb
theorem top_is {n x : Nat} {w : BitVec 32} (hw : InW n w) (hx : w.getLsbD x = true) (h : ∀ j, x < j → w.getLsbD j = false) : topTo w n = x := by
  have h0 : w ≠ w0 := fun e => by rw [e, b_0] at hx; cases hx
  obtain ⟨h1, h2, h3⟩ := top_spec hw h0
  rcases Nat.lt_trichotomy (topTo w n) x with h4 | h4 | h4
  · rw [h3 x h4] at hx; cases hx
  · exact h4
  · rw [h _ h4] at h1; cases h1
theorem in_but {n : Nat} {w : BitVec 32} (hw : InW n w) (s : BitVec 32) : InW n (wBut w s) := fun j hj => by
  rw [b_but, Bool.and_eq_true] at hj
  exact hw j hj.1
theorem pop_n {n : Nat} (w : BitVec 32) : popTo w n ≤ n := popTo_le w n
theorem sm_mul (c : Int) (f : Nat → Int) : ∀ M, sm (fun k => c * f k) M = c * sm f M
  | 0 => (Int.mul_zero c).symm
  | M + 1 => by rw [sm_succ, sm_succ, sm_mul c f M, Int.mul_add]
theorem sm_shift (f : Nat → Int) : ∀ M, sm f (M + 1) = f 0 + sm (fun k => f (k + 1)) M
  | 0 => by simp [sm]
  | M + 1 => by rw [sm_succ, sm_shift f M, sm_succ]; omega
def ff (K : Int) : Nat → Int
  | 0 => 1
  | j + 1 => ff K j * (K - j)
theorem ff_shift (K : Int) : ∀ j, ff K (j + 1) = K * ff (K - 1) j
  | 0 => by simp [ff]
  | j + 1 => by
    rw [ff, ff_shift K j, ff, Int.mul_assoc]
    congr 2
    push_cast
    omega
section
variable (n : Nat) (A : BitVec 32 → Bool)
/-- In how many ways w can be put into just k sets. -/
def TS : Nat → BitVec 32 → Int
  | 0, w => if w = w0 then 1 else 0
  | k + 1, w => if w = w0 then 0 else SW n w (fun s => if s.getLsbD (topTo w n) = true ∧ A s = true then TS k (wBut w s) else 0)
def PW (w : BitVec 32) (K : Int) : Int := sm (fun k => TS n A k w * ff K k) (n + 1)
end
section
variable {n : Nat} {A : BitVec 32 → Bool}
theorem TS_high (hn : n ≤ 32) : ∀ {k : Nat} {w : BitVec 32}, InW n w → popTo w n < k → TS n A k w = 0
  | 0, _, _, h => by omega
  | k + 1, w, hw, h => by
    rw [TS]
    by_cases h0 : w = w0
    · rw [if_pos h0]
    · rw [if_neg h0]
      obtain ⟨t1, t2, _⟩ := top_spec hw h0
      have : SW n w (fun s => if s.getLsbD (topTo w n) = true ∧ A s = true then TS n A k (wBut w s) else 0) = SW n w (fun _ => 0) := SW_congr hn fun s _ => by
        split
        · rename_i hc
          have := pop_lt t1 hc.1 t2
          exact TS_high hn (in_but hw s) (by omega)
        · rfl
      rw [this, SW_zero]
theorem TS_nn (hn : n ≤ 32) : ∀ (k : Nat) (w : BitVec 32), 0 ≤ TS n A k w
  | 0, w => by rw [TS]; split <;> omega
  | k + 1, w => by
    rw [TS]
    split
    · exact Int.le_refl _
    · exact SW_nn hn fun s _ => by
        split
        · exact TS_nn hn k _
        · exact Int.le_refl _
theorem TS_le (hn : n ≤ 32) : ∀ (k : Nat) {w : BitVec 32}, InW n w → TS n A k w ≤ (k : Int) ^ popTo w n
  | 0, w, hw => by
    rw [TS]
    by_cases h0 : w = w0
    · rw [if_pos h0, h0]
      have : popTo w0 n = 0 := by
        unfold popTo
        rw [List.countP_eq_zero]
        intro j _
        rw [b_0]; simp
      rw [this]
      exact Int.le_refl _
    · rw [if_neg h0]
      exact Int.pow_nonneg (Int.le_refl _)
  | k + 1, w, hw => by
    rw [TS]
    have hpow := SW_pow (k : Int) (m := n) w hn
    have hk : ((k + 1 : Nat) : Int) = (k : Int) + 1 := by omega
    rw [hk, ← hpow]
    split
    · exact SW_nn hn fun s _ => Int.pow_nonneg (by omega)
    · refine SW_le hn fun s _ => ?_
      split
      · exact TS_le hn k (in_but hw s)
      · exact Int.pow_nonneg (by omega)
theorem PW_0 (K : Int) : PW n A w0 K = 1 := by
  unfold PW
  rw [sm_shift, sm_congr (f := fun k => TS n A (k + 1) w0 * ff K (k + 1)) (g := fun _ => 0) _ fun k _ => by rw [TS, if_pos rfl, Int.zero_mul], sm_zero, TS, if_pos rfl]
  simp [ff]
theorem but_swap (w a b : BitVec 32) : wBut (wBut w a) b = wBut (wBut w b) a := w_ext fun j _ => by rw [b_but, b_but, b_but, b_but]; cases w.getLsbD j <;> cases a.getLsbD j <;> cases b.getLsbD j <;> rfl
theorem but_or (w a b : BitVec 32) : wBut (wBut w b) a = wBut w (wOr a b) := w_ext fun j _ => by rw [b_but, b_but, b_but, b_or]; cases w.getLsbD j <;> cases a.getLsbD j <;> cases b.getLsbD j <;> rfl
theorem but_0 (w : BitVec 32) : wBut w w0 = w := w_ext fun j _ => by rw [b_but, b_0]; simp
theorem PW_top (hn : n ≤ 32) {w : BitVec 32} (hw : InW n w) (h0 : w ≠ w0) (K : Int) : PW n A w K = K * SW n w (fun s => if s.getLsbD (topTo w n) = true ∧ A s = true then PW n A (wBut w s) (K - 1) else 0) := by
  obtain ⟨t1, t2, _⟩ := top_spec hw h0
  unfold PW
  rw [sm_shift]
  have e0 : TS n A 0 w * ff K 0 = 0 := by rw [TS, if_neg h0, Int.zero_mul]
  rw [e0, Int.zero_add]
  have e1 : ∀ k, TS n A (k + 1) w * ff K (k + 1) = K * SW n w (fun s => if s.getLsbD (topTo w n) = true ∧ A s = true then TS n A k (wBut w s) * ff (K - 1) k else 0) := fun k => by
    rw [ff_shift, TS, if_neg h0, Int.mul_comm, Int.mul_assoc]
    congr 1
    rw [← SW_mul]
    refine SW_congr hn fun s _ => ?_
    split
    · rw [Int.mul_comm]
    · rw [Int.mul_zero]
  rw [sm_congr n fun k _ => e1 k, sm_mul, ← SW_sm]
  congr 1
  refine SW_congr hn fun s _ => ?_
  by_cases hc : s.getLsbD (topTo w n) = true ∧ A s = true
  · rw [if_pos hc, sm_congr n fun k _ => if_pos hc, sm_succ]
    have hp := pop_lt t1 hc.1 t2
    have := pop_n (n := n) w
    rw [TS_high hn (in_but hw s) (by omega), Int.zero_mul, Int.add_zero]
  · rw [if_neg hc, sm_congr n fun k _ => if_neg hc, sm_zero]
/-- What stands behind the colour of x. -/
def QW (n : Nat) (A : BitVec 32 → Bool) (w : BitVec 32) (x : Nat) (K : Int) : Int := SW n (wBut w (wShl w1 x)) (fun t => if A (wOr t (wShl w1 x)) = true then PW n A (wBut w (wOr t (wShl w1 x))) (K - 1) else 0)
theorem PW_top' (hn : n ≤ 32) {w : BitVec 32} (hw : InW n w) (h0 : w ≠ w0) (K : Int) : PW n A w K = K * QW n A w (topTo w n) K := by
  obtain ⟨t1, t2, _⟩ := top_spec hw h0
  rw [PW_top hn hw h0]
  congr 1
  obtain ⟨x, hx⟩ : ∃ x, x = topTo w n := ⟨_, rfl⟩
  rw [← hx] at t1 t2 ⊢
  rw [SW_ins hn t2 t1]
  unfold QW
  have e1 : SW n (wBut w (wShl w1 x)) (fun s => if s.getLsbD x = true ∧ A s = true then PW n A (wBut w s) (K - 1) else 0) = 0 := by
    rw [SW_congr (g := fun _ => 0) hn fun s hs => ?_, SW_zero]
    rw [if_neg]
    rintro ⟨h1, _⟩
    have := (hs x h1).2
    rw [b_but, one_bit (by omega)] at this
    simp at this
  rw [e1, Int.zero_add]
  refine SW_congr hn fun s _ => ?_
  have hb : (wOr s (wShl w1 x)).getLsbD x = true := by rw [or_bit (by omega)]; simp
  by_cases hA : A (wOr s (wShl w1 x)) = true
  · rw [if_pos ⟨hb, hA⟩, if_pos hA]
  · rw [if_neg (fun h => hA h.2), if_neg hA]
theorem PW_zero (hn : n ≤ 32) {w : BitVec 32} (hw : InW n w) (h0 : w ≠ w0) : PW n A w 0 = 0 := by
  rw [PW_top' hn hw h0, Int.zero_mul]
theorem ne_zero_of {w : BitVec 32} {x : Nat} (h : w.getLsbD x = true) : w ≠ w0 := fun e => by rw [e, b_0] at h; cases h
/-- By the set of those that have the last colour. -/
theorem PW_last (hn : n ≤ 32) (hA0 : A w0 = true) : ∀ (p : Nat) {w : BitVec 32}, popTo w n ≤ p → InW n w → ∀ K, PW n A w K = SW n w (fun s => if A s = true then PW n A (wBut w s) (K - 1) else 0) := by
  intro p
  induction p with
  | zero =>
    intro w hp hw K
    have h0 : w = w0 := w_ext fun j _ => by
      rw [b_0]
      cases hb : w.getLsbD j with
      | false => rfl
      | true => have := pop_pos hb (hw j hb); omega
    rw [h0, SW_word0, if_pos hA0, but_0, PW_0, PW_0]
  | succ p ih =>
    intro w hp hw K
    by_cases h0 : w = w0
    · rw [h0, SW_word0, if_pos hA0, but_0, PW_0, PW_0]
    obtain ⟨t1, t2, t3⟩ := top_spec hw h0
    obtain ⟨x, hx⟩ : ∃ x, x = topTo w n := ⟨_, rfl⟩
    rw [PW_top' hn hw h0]
    rw [← hx] at t1 t2 t3 ⊢
    rw [SW_ins hn t2 t1]
    have hq : SW n (wBut w (wShl w1 x)) (fun t => if A (wOr t (wShl w1 x)) = true then PW n A (wBut w (wOr t (wShl w1 x))) (K - 1) else 0) = QW n A w x K := rfl
    rw [hq]
    have hfirst : SW n (wBut w (wShl w1 x)) (fun s => if A s = true then PW n A (wBut w s) (K - 1) else 0) = (K - 1) * QW n A w x K := by
      have e1 : SW n (wBut w (wShl w1 x)) (fun s => if A s = true then PW n A (wBut w s) (K - 1) else 0) = SW n (wBut w (wShl w1 x)) (fun s => SW n (wBut (wBut w (wShl w1 x)) s) (fun t => if A s = true ∧ A (wOr t (wShl w1 x)) = true then (K - 1) * PW n A (wBut (wBut w (wOr t (wShl w1 x))) s) (K - 1 - 1) else 0)) := SW_congr hn fun s hs => by
        have hsx : s.getLsbD x = false := by
          cases hb : s.getLsbD x with
          | false => rfl
          | true =>
            have := (hs x hb).2
            rw [b_but, one_bit (by omega)] at this
            simp at this
        have hwx : (wBut w s).getLsbD x = true := by rw [b_but, t1, hsx]; rfl
        have htop : topTo (wBut w s) n = x := top_is (in_but hw s) hwx fun j hj => by rw [b_but, t3 j hj]; rfl
        by_cases hAs : A s = true
        · rw [if_pos hAs, PW_top' hn (in_but hw s) (ne_zero_of hwx), htop]
          unfold QW
          rw [← SW_mul, but_swap w s]
          refine SW_congr hn fun t _ => ?_
          by_cases hAt : A (wOr t (wShl w1 x)) = true
          · rw [if_pos hAt, if_pos ⟨hAs, hAt⟩, but_swap w s]
          · rw [if_neg hAt, if_neg (fun h => hAt h.2), Int.mul_zero]
        · rw [if_neg hAs]
          rw [SW_congr (g := fun _ => 0) hn fun t _ => if_neg (fun h => hAs h.1), SW_zero]
      rw [e1, SW_swap _ hn]
      unfold QW
      rw [← SW_mul]
      refine SW_congr hn fun t ht => ?_
      by_cases hAt : A (wOr t (wShl w1 x)) = true
      · rw [if_pos hAt]
        have hlt : popTo (wBut w (wOr t (wShl w1 x))) n < popTo w n := pop_lt t1 (by rw [or_bit (by omega)]; simp) t2
        rw [ih (w := wBut w (wOr t (wShl w1 x))) (by omega) (in_but hw _) (K - 1), ← SW_mul, but_or]
        refine SW_congr hn fun s _ => ?_
        by_cases hAs : A s = true
        · rw [if_pos ⟨hAs, hAt⟩, if_pos hAs]
        · rw [if_neg (fun h => hAs h.1), if_neg hAs, Int.mul_zero]
      · rw [if_neg hAt, Int.mul_zero]
        rw [SW_congr (g := fun _ => 0) hn fun s _ => if_neg (fun h => hAt h.2), SW_zero]
    rw [hfirst, Int.sub_mul]
    omega
/-! By one colour less than none. -/
def sg (k : Nat) : Int := if k % 2 = 0 then 1 else -1
theorem sg_add (a b : Nat) : sg (a + b) = sg a * sg b := by
  unfold sg
  rcases Nat.mod_two_eq_zero_or_one a with h | h <;> rcases Nat.mod_two_eq_zero_or_one b with h' | h' <;> simp [Nat.add_mod, h, h']
theorem sg_sq (a : Nat) : sg a * sg a = 1 := by
  unfold sg
  split <;> rfl
theorem sg_succ (a : Nat) : sg (a + 1) = -sg a := by
  rw [sg_add]
  show sg a * -1 = _
  omega
def aW (n : Nat) (A : BitVec 32 → Bool) (w : BitVec 32) : Int := sg (popTo w n) * PW n A w (-1)
theorem pop_0 : popTo w0 n = 0 := by
  unfold popTo
  rw [List.countP_eq_zero]
  intro j _
  rw [b_0]; simp
theorem aW_0 : aW n A w0 = 1 := by
  unfold aW
  rw [PW_0, pop_0]
  rfl
theorem aW_sum (hn : n ≤ 32) (hA0 : A w0 = true) {w : BitVec 32} (hw : InW n w) (h0 : w ≠ w0) : SW n w (fun s => if A s = true then sg (popTo s n) * aW n A (wBut w s) else 0) = 0 := by
  have h1 := PW_last hn hA0 _ (Nat.le_refl _) hw 0
  rw [PW_zero hn hw h0] at h1
  have h2 : SW n w (fun s => if A s = true then sg (popTo s n) * aW n A (wBut w s) else 0) = sg (popTo w n) * SW n w (fun s => if A s = true then PW n A (wBut w s) (0 - 1) else 0) := by
    rw [← SW_mul]
    refine SW_congr hn fun s hs => ?_
    split
    · unfold aW
      rw [← Int.mul_assoc, ← sg_add, Nat.add_comm, pop_prt hs]
      rfl
    · rw [Int.mul_zero]
  rw [h2, ← h1, Int.mul_zero]
/-- One step of the program's table. -/
def gW (n : Nat) (A : BitVec 32 → Bool) (w s : BitVec 32) : Int := if A s = true then (if popTo s n % 2 = 1 then aW n A (wBut w s) else -aW n A (wBut w s)) else 0
theorem aW_step (hn : n ≤ 32) (hA0 : A w0 = true) {w : BitVec 32} (hw : InW n w) (hlt : w.toNat < 2 ^ n) (h0 : w ≠ w0) : aW n A w = dsum (gW n A w) w.toNat w.toNat := by
  have h1 := aW_sum hn hA0 hw h0
  have h2 := dsum_all (fun s => if A s = true then sg (popTo s n) * aW n A (wBut w s) else 0) hn hlt
  rw [h1] at h2
  simp only [hA0, if_true, but_0, pop_0] at h2
  have h3 : dsum (fun s => if A s = true then sg (popTo s n) * aW n A (wBut w s) else 0) w.toNat w.toNat = -dsum (gW n A w) w.toNat w.toNat := by
    unfold dsum
    have : ∀ (f : Nat → Int) M, sm (fun t => -f t) M = -sm f M := fun f M => by
      have := sm_mul (-1) f M
      simpa using this
    rw [← this]
    refine sm_congr _ fun t _ => ?_
    split
    · show (if A (nw t) = true then sg (popTo (nw t) n) * aW n A (wBut w (nw t)) else 0) = -gW n A w (nw t)
      unfold gW
      by_cases hAt : A (nw t) = true
      · rw [if_pos hAt, if_pos hAt]
        rcases Nat.mod_two_eq_zero_or_one (popTo (nw t) n) with h | h
        · rw [if_neg (by omega)]
          unfold sg
          rw [if_pos h]; omega
        · rw [if_pos h]
          unfold sg
          rw [if_neg (by omega)]; omega
      · rw [if_neg hAt, if_neg hAt]; rfl
    · rfl
  rw [h3] at h2
  have : sg 0 = 1 := rfl
  rw [this] at h2
  omega
/-- Ways in which no one of q is a source. -/
def ES (n : Nat) (A : BitVec 32 → Bool) (w q : BitVec 32) : Int := SW n q (fun t => if A t = true then sg (popTo t n) * aW n A (wBut w t) else 0)
theorem ES_step (hn : n ≤ 32) {N : Nat → BitVec 32} (hA : ∀ t x, x < n → t.getLsbD x = false → A (wOr t (wShl w1 x)) = (A t && decide (wAnd t (N x) = w0))) {w q : BitVec 32} {x : Nat} (hx : x < n) (hq : q.getLsbD x = false) : ES n A w (wOr q (wShl w1 x)) = ES n A w q - ES n A (wBut w (wShl w1 x)) (wBut q (N x)) := by
  unfold ES
  rw [SW_ins hn hx (by rw [or_bit (by omega)]; simp)]
  have e0 : wBut (wOr q (wShl w1 x)) (wShl w1 x) = q := w_ext fun j _ => by
    rw [b_but, or_bit (by omega), one_bit (by omega)]
    by_cases h : j = x
    · subst h; simp [hq]
    · simp [h]
  rw [e0]
  have e1 : SW n q (fun t => if A (wOr t (wShl w1 x)) = true then sg (popTo (wOr t (wShl w1 x)) n) * aW n A (wBut w (wOr t (wShl w1 x))) else 0) = SW n q (fun t => if wAnd t (N x) = w0 then (-1) * (if A t = true then sg (popTo t n) * aW n A (wBut (wBut w (wShl w1 x)) t) else 0) else 0) := SW_congr hn fun t ht => by
    have htx : t.getLsbD x = false := by
      cases hb : t.getLsbD x with
      | false => rfl
      | true => rw [(ht x hb).2] at hq; cases hq
    have hpop : popTo (wOr t (wShl w1 x)) n = popTo t n + 1 := by
      have h1 := pop_but (wOr t (wShl w1 x)) (wShl w1 x) n
      have h2 : wBut (wOr t (wShl w1 x)) (wShl w1 x) = t := w_ext fun j _ => by
        rw [b_but, or_bit (by omega), one_bit (by omega)]
        by_cases h : j = x
        · subst h; simp [htx]
        · simp [h]
      have h3 : popTo (wAnd (wOr t (wShl w1 x)) (wShl w1 x)) n = 1 := by
        have h4 : wAnd (wOr t (wShl w1 x)) (wShl w1 x) = wShl w1 x := w_ext fun j _ => by
          rw [b_and, or_bit (by omega), one_bit (by omega)]
          by_cases h : j = x <;> simp [h]
        rw [h4]
        have : ∀ M, popTo (wShl w1 x) M = if x < M then 1 else 0 := fun M => by
          induction M with
          | zero => rfl
          | succ M ih =>
            rw [popTo_succ, ih, bitB_nat, one_bit (by omega)]
            by_cases h5 : M = x
            · subst h5; simp
            · by_cases h6 : x < M
              · rw [if_pos h6, if_pos (show x < M + 1 by omega), decide_eq_false h5]; rfl
              · rw [if_neg h6, if_neg (show ¬ x < M + 1 by omega), decide_eq_false h5]; rfl
        rw [this, if_pos hx]
      rw [h2, h3] at h1
      omega
    rw [hA t x hx htx, hpop, sg_succ, but_or]
    by_cases h1 : A t = true
    · by_cases h2 : wAnd t (N x) = w0
      · rw [if_pos (by rw [h1, decide_eq_true h2]; rfl), if_pos h2, if_pos h1, Int.neg_mul, Int.neg_one_mul]
      · rw [if_neg (by rw [decide_eq_false h2, Bool.and_false]; simp), if_neg h2]
    · rw [if_neg (by simp [h1]), if_neg h1]
      split <;> rfl
  rw [e1, SW_free hn, SW_mul]
  omega
theorem ES_nn (hn : n ≤ 32) (hA0 : A w0 = true) {N : Nat → BitVec 32} (hA : ∀ t x, x < n → t.getLsbD x = false → A (wOr t (wShl w1 x)) = (A t && decide (wAnd t (N x) = w0))) : ∀ (p d : Nat) {w q : BitVec 32}, popTo w n ≤ p → popTo (wBut w q) n ≤ d → InW n w → (∀ j, q.getLsbD j = true → w.getLsbD j = true) → 0 ≤ ES n A w q := by
  intro p
  induction p with
  | zero =>
    intro d w q hp _ hw hq
    have h0 : w = w0 := w_ext fun j _ => by
      rw [b_0]
      cases hb : w.getLsbD j with
      | false => rfl
      | true => have := pop_pos hb (hw j hb); omega
    have hq0 : q = w0 := w_ext fun j _ => by
      rw [b_0]
      cases hb : q.getLsbD j with
      | false => rfl
      | true => have := hq j hb; rw [h0, b_0] at this; cases this
    unfold ES
    rw [hq0, SW_word0, if_pos hA0, but_0, h0, aW_0, pop_0]
    decide
  | succ p ihp =>
    intro d
    induction d with
    | zero =>
      intro w q hp hd hw hq
      have hqw : q = w := w_ext fun j _ => by
        cases hb : w.getLsbD j with
        | false =>
          cases hb2 : q.getLsbD j with
          | false => rfl
          | true => rw [hq j hb2] at hb; cases hb
        | true =>
          cases hb2 : q.getLsbD j with
          | true => rfl
          | false =>
            have := pop_pos (w := wBut w q) (x := j) (by rw [b_but, hb, hb2]; rfl) (hw j hb)
            omega
      subst hqw
      by_cases h0 : q = w0
      · unfold ES
        rw [h0, SW_word0, if_pos hA0, but_0, aW_0, pop_0]
        decide
      · unfold ES
        rw [aW_sum hn hA0 hw h0]
        exact Int.le_refl _
    | succ d ihd =>
      intro w q hp hd hw hq
      by_cases h0 : wBut w q = w0
      · exact ihd hp (by rw [h0, pop_0]; exact Nat.zero_le _) hw hq
      · obtain ⟨x, hx, hb⟩ := some_bit (in_but hw q) h0
        rw [b_but, Bool.and_eq_true, Bool.not_eq_true'] at hb
        have hstep := ES_step hn hA (w := w) hx hb.2
        have h1 := ihd (w := w) (q := wOr q (wShl w1 x)) hp (by
          have e : wBut w (wOr q (wShl w1 x)) = wBut (wBut w q) (wShl w1 x) := by rw [but_swap, but_or]
          have := pop_lt (w := wBut w q) (s := wShl w1 x) (x := x) (m := n) (by rw [b_but, hb.1, hb.2]; rfl) (by rw [one_bit (by omega)]; simp) hx
          rw [e]; omega) hw (fun j hj => by
          rw [or_bit (by omega), Bool.or_eq_true, decide_eq_true_iff] at hj
          rcases hj with h | h
          · exact hq j h
          · rw [h]; exact hb.1)
        have h2 := ihp (popTo (wBut (wBut w (wShl w1 x)) (wBut q (N x))) n) (w := wBut w (wShl w1 x)) (q := wBut q (N x)) (by
          have := pop_lt (w := w) (s := wShl w1 x) (x := x) (m := n) hb.1 (by rw [one_bit (by omega)]; simp) hx
          omega) (Nat.le_refl _) (in_but hw _) (fun j hj => by
          rw [b_but, Bool.and_eq_true] at hj
          rw [b_but, hq j hj.1, one_bit (by omega)]
          have : j ≠ x := fun e => by rw [e, hb.2] at hj; cases hj.1
          simp [this])
        omega
theorem aW_nn (hn : n ≤ 32) (hA0 : A w0 = true) {N : Nat → BitVec 32} (hA : ∀ t x, x < n → t.getLsbD x = false → A (wOr t (wShl w1 x)) = (A t && decide (wAnd t (N x) = w0))) {w : BitVec 32} (hw : InW n w) : 0 ≤ aW n A w := by
  have h := ES_nn hn hA0 hA (popTo w n) (popTo (wBut w w0) n) (w := w) (q := w0) (Nat.le_refl _) (Nat.le_refl _) hw (fun j hj => by rw [b_0] at hj; cases hj)
  unfold ES at h
  rw [SW_word0, if_pos hA0, but_0, pop_0] at h
  have : sg 0 = 1 := rfl
  rw [this, Int.one_mul] at h
  exact h
/-! No number is too large. -/
theorem dsum_le' {f g : BitVec 32 → Int} {w s : Nat} (h : ∀ t, 0 < t → t &&& w = t → f (nw t) ≤ g (nw t)) : dsum f w s ≤ dsum g w s := sm_le _ fun t _ => by
  split
  · rename_i hc; exact h t hc.1 hc.2
  · exact Int.le_refl _
theorem dsum_neg (f : BitVec 32 → Int) (w s : Nat) : dsum (fun t => -f t) w s = -dsum f w s := by
  unfold dsum
  have : ∀ (f : Nat → Int) M, sm (fun t => -f t) M = -sm f M := fun f M => by
    have := sm_mul (-1) f M
    simpa using this
  rw [← this]
  refine sm_congr _ fun t _ => ?_
  split
  · rfl
  · rfl
def bW (n : Nat) (w s : BitVec 32) : Int := 15 ^ popTo (wBut w s) n
theorem bW_nn (n : Nat) (w s : BitVec 32) : 0 ≤ bW n w s := Int.pow_nonneg (by decide)
theorem bW_all {w : BitVec 32} (hn : n ≤ 32) (hlt : w.toNat < 2 ^ n) : (15 : Int) ^ popTo w n + dsum (bW n w) w.toNat w.toNat = 16 ^ popTo w n := by
  have h := dsum_all (bW n w) hn hlt
  have h2 := SW_pow 15 (m := n) w hn
  have h3 : SW n w (bW n w) = (15 + 1 : Int) ^ popTo w n := h2
  rw [h3] at h
  have e : bW n w w0 = 15 ^ popTo w n := by unfold bW; rw [but_0]
  rw [e] at h
  exact h
theorem but_lt {n : Nat} (hn : n ≤ 32) {w : BitVec 32} (hw : InW n w) : w.toNat < 2 ^ n := Nat.lt_pow_two_of_testBit _ fun j hj => by
  cases h : w.toNat.testBit j with
  | false => rfl
  | true =>
    have := hw j (by unfold BitVec.getLsbD; exact h)
    omega
theorem nwt_toNat {t : Nat} (h : t < 4294967296) : (nw t).toNat = t := by
  unfold nw
  rw [BitVec.toNat_ofNat]
  exact Nat.mod_eq_of_lt h
theorem gW_bound (hn : n ≤ 32) {w : BitVec 32} (hw : InW n w) (hb : ∀ t, 0 < t → t &&& w.toNat = t → 0 ≤ aW n A (wBut w (nw t)) ∧ aW n A (wBut w (nw t)) ≤ bW n w (nw t)) (s : Nat) : dsum (gW n A w) w.toNat s ≤ dsum (bW n w) w.toNat s ∧ -dsum (bW n w) w.toNat s ≤ dsum (gW n A w) w.toNat s := by
  constructor
  · refine dsum_le' fun t h1 h2 => ?_
    have := hb t h1 h2
    unfold gW
    split
    · split <;> omega
    · exact bW_nn _ _ _
  · rw [← dsum_neg]
    refine dsum_le' fun t h1 h2 => ?_
    have := hb t h1 h2
    have := bW_nn n w (nw t)
    unfold gW
    split
    · split <;> omega
    · omega
theorem pow_16_15 : ∀ p : Nat, p ≤ 10 → (16 : Int) ^ p ≤ 2 * 15 ^ p := by
  intro p hp
  have : ∀ q : Fin 11, (16 : Int) ^ q.val ≤ 2 * 15 ^ q.val := by decide
  exact this ⟨p, by omega⟩
theorem pow_16 : ∀ p : Nat, p ≤ 10 → (16 : Int) ^ p ≤ 1099511627776 := by
  intro p hp
  have : ∀ q : Fin 11, (16 : Int) ^ q.val ≤ 1099511627776 := by decide
  exact this ⟨p, by omega⟩
theorem aW_le (hn : n ≤ 10) (hA0 : A w0 = true) {N : Nat → BitVec 32} (hA : ∀ t x, x < n → t.getLsbD x = false → A (wOr t (wShl w1 x)) = (A t && decide (wAnd t (N x) = w0))) : ∀ (p : Nat) {w : BitVec 32}, popTo w n ≤ p → InW n w → aW n A w ≤ 15 ^ popTo w n := by
  intro p
  induction p with
  | zero =>
    intro w hp hw
    have h0 : w = w0 := w_ext fun j _ => by
      rw [b_0]
      cases hb : w.getLsbD j with
      | false => rfl
      | true => have := pop_pos hb (hw j hb); omega
    rw [h0, aW_0, pop_0]
    decide
  | succ p ih =>
    intro w hp hw
    by_cases h0 : w = w0
    · rw [h0, aW_0, pop_0]; decide
    have hlt := but_lt (by omega) hw
    have h1 := aW_step (A := A) (by omega) hA0 hw hlt h0
    have h2 := (gW_bound (A := A) (n := n) (by omega) hw (fun t ht1 ht2 => ⟨aW_nn (by omega) hA0 hA (in_but hw _), by
      refine ih ?_ (in_but hw _)
      have h32 : t < 4294967296 := by
        have := sub_le ht2
        have := w.isLt
        omega
      obtain ⟨j, hj⟩ : ∃ j, t.testBit j = true := Nat.exists_testBit_of_ne_zero (by omega)
      have hwj : w.getLsbD j = true := by
        have := bit_sub ht2 hj
        unfold BitVec.getLsbD; exact this
      have hnj : (nw t).getLsbD j = true := by
        unfold BitVec.getLsbD
        rw [nwt_toNat h32]; exact hj
      have := pop_lt hwj hnj (hw j hwj)
      omega⟩) w.toNat).1
    have h3 := bW_all (n := n) (w := w) (by omega) hlt
    have h4 := pow_16_15 (popTo w n) (by have := pop_n (n := n) w; omega)
    omega
end
end Go.Proofs.YtokmialpclcodaaDoor
