/- In how many ways a word can be put into so many sets: the rows, as the loop fills them; in plain Lean. Conditions: none. -/
import Derived.Test.YtokmialpclcodaaDoorStanP
import Derived.Test.YtokmialpclcodaaDoorNats
namespace Go.Proofs.YtokmialpclcodaaDoor
open Go.RowKit

section
variable {n : Nat} {A : BitVec 32 → Bool}
def FS (n : Nat) (A : BitVec 32 → Bool) (w : BitVec 32) (i : Nat) (s : BitVec 32) : Int := if s.getLsbD (topTo w n) = true ∧ A s = true then TS n A i (wBut w s) else 0
theorem FS_nn (hn : n ≤ 32) (w : BitVec 32) (i : Nat) (s : BitVec 32) : 0 ≤ FS n A w i s := by
  unfold FS
  split
  · exact TS_nn hn _ _
  · exact Int.le_refl _
theorem TS_sum (hn : n ≤ 32) {w : BitVec 32} (hw : w.toNat < 2 ^ n) (h0 : w ≠ w0) (i : Nat) : TS n A (i + 1) w = dsum (FS n A w i) w.toNat w.toNat := by
  have h1 := dsum_all (FS n A w i) hn hw
  have h2 : FS n A w i w0 = 0 := by unfold FS; rw [b_0, if_neg (by simp)]
  rw [h2, Int.zero_add] at h1
  rw [TS, if_neg h0, h1]
  rfl
theorem TS_00 : TS n A 0 w0 = 1 := by rw [TS, if_pos rfl]
theorem TS_s0 (k : Nat) : TS n A (k + 1) w0 = 0 := by rw [TS, if_pos rfl]
theorem TS_0n {w : BitVec 32} (h0 : w ≠ w0) : TS n A 0 w = 0 := by rw [TS, if_neg h0]
theorem pow_b {i p : Nat} (hi : i ≤ 10) (hp : p ≤ 10) : (i : Int) ^ p ≤ 10000000000 := by
  have : ∀ (a b : Fin 11), ((a.val : Nat) : Int) ^ b.val ≤ 10000000000 := by decide +kernel
  exact this ⟨i, by omega⟩ ⟨p, by omega⟩
theorem TS_b (hn : n ≤ 10) {w : BitVec 32} (hw : InW n w) {i : Nat} (hi : i ≤ 10) : TS n A i w ≤ 10000000000 :=
  Int.le_trans (TS_le (by omega) i hw) (pow_b hi (Nat.le_trans (pop_n w) hn))
/-- The row of w, the sets down to s yet to come. -/
def sRow (n : Nat) (A : BitVec 32 → Bool) (w : BitVec 32) (s : Nat) : Nat → Int
  | 0 => 0
  | i + 1 => TS n A (i + 1) w - dsum (FS n A w i) w.toNat s
/-- The row between two sets. -/
def mRow (n : Nat) (A : BitVec 32 → Bool) (w : BitVec 32) (s s' j : Nat) : Nat → Int
  | 0 => 0
  | i + 1 => if i < j then sRow n A w s' (i + 1) else sRow n A w s (i + 1)
theorem sRow_top (hn : n ≤ 32) {w : BitVec 32} (hw : w.toNat < 2 ^ n) (h0 : w ≠ w0) (i : Nat) : sRow n A w w.toNat i = 0 := by
  cases i with
  | zero => rfl
  | succ i => rw [sRow, TS_sum hn hw h0, Int.sub_self]
theorem sRow_end {w : BitVec 32} (h0 : w ≠ w0) (i : Nat) : sRow n A w 0 i = TS n A i w := by
  cases i with
  | zero => rw [TS_0n h0]; rfl
  | succ i => rw [sRow, dsum_0, Int.sub_zero]
theorem sRow_skip {w : BitVec 32} {s s' : Nat} (hs : s &&& w.toNat = s) (h0 : 0 < s) (hs' : s' = (s - 1) &&& w.toNat) (hf : ¬ ((nw s).getLsbD (topTo w n) = true ∧ A (nw s) = true)) (i : Nat) : sRow n A w s' i = sRow n A w s i := by
  cases i with
  | zero => rfl
  | succ i =>
    rw [sRow, sRow, dsum_s (FS n A w i) hs h0, ← hs']
    unfold FS
    rw [if_neg hf, Int.zero_add]
theorem sRow_take {w : BitVec 32} {s s' : Nat} (hs : s &&& w.toNat = s) (h0 : 0 < s) (hs' : s' = (s - 1) &&& w.toNat) (hf : (nw s).getLsbD (topTo w n) = true ∧ A (nw s) = true) (i : Nat) : sRow n A w s' (i + 1) = sRow n A w s (i + 1) + TS n A i (wBut w (nw s)) := by
  rw [sRow, sRow, dsum_s (FS n A w i) hs h0, ← hs']
  have : FS n A w i (nw s) = TS n A i (wBut w (nw s)) := by unfold FS; rw [if_pos hf]
  rw [this]
  omega
theorem sRow_in (hn : n ≤ 10) {w : BitVec 32} (hw : w.toNat < 2 ^ n) (hin : InW n w) (h0 : w ≠ w0) {s : Nat} (hs : s ≤ w.toNat) {i : Nat} (hi : i ≤ 10) : 0 ≤ sRow n A w s i ∧ sRow n A w s i ≤ 10000000000 := by
  cases i with
  | zero => exact ⟨Int.le_refl _, by rw [sRow]; decide⟩
  | succ i =>
    have h1 := TS_sum (A := A) (show n ≤ 32 by omega) hw h0 i
    have h2 := dsum_grow (FS_nn (A := A) (show n ≤ 32 by omega) w i) w.toNat hs
    have h3 := dsum_nn (FS_nn (A := A) (show n ≤ 32 by omega) w i) w.toNat s
    have h4 := TS_b (A := A) hn hin hi
    rw [sRow]
    omega
theorem mRow_0 {w : BitVec 32} {s s' : Nat} (i : Nat) : mRow n A w s s' 0 i = sRow n A w s i := by
  cases i with
  | zero => rfl
  | succ i => rw [mRow, if_neg (by omega)]
theorem mRow_end {w : BitVec 32} {s s' j i : Nat} (h : i ≤ j) : mRow n A w s s' j i = sRow n A w s' i := by
  cases i with
  | zero => rfl
  | succ i => rw [mRow, if_pos (by omega)]
theorem mRow_at {w : BitVec 32} {s s' j : Nat} : mRow n A w s s' j (j + 1) = sRow n A w s (j + 1) := by rw [mRow, if_neg (by omega)]
theorem mRow_succ {w : BitVec 32} {s s' j i : Nat} : (if i = j + 1 then sRow n A w s' (j + 1) else mRow n A w s s' j i) = mRow n A w s s' (j + 1) i := by
  cases i with
  | zero => rw [if_neg (by omega)]; rfl
  | succ i =>
    rw [mRow, mRow]
    by_cases h : i = j
    · subst h; rw [if_pos rfl, if_pos (by omega)]
    · rw [if_neg (by omega)]
      by_cases h2 : i < j
      · rw [if_pos h2, if_pos (by omega)]
      · rw [if_neg h2, if_neg (by omega)]
end
/-! The sum over the table's last row. -/
def bF (j : Nat) : Int := (ff 12 j)
theorem ff_b {K : Int} (h0 : -1 ≤ K) (h1 : K ≤ 12) {j : Nat} (hj : j ≤ 10) : -(ff 12 j) ≤ ff K j ∧ ff K j ≤ ff 12 j := by
  have h : ∀ (a : Fin 14) (b : Fin 11), -(ff 12 b.val) ≤ ff ((a.val : Int) - 1) b.val ∧ ff ((a.val : Int) - 1) b.val ≤ ff 12 b.val := by decide +kernel
  have := h ⟨(K + 1).toNat, by omega⟩ ⟨j, by omega⟩
  rw [show (((K + 1).toNat : Nat) : Int) - 1 = K by omega] at this
  exact this
theorem ff_small {j : Nat} (hj : j ≤ 10) : 0 ≤ ff 12 j ∧ ff 12 j ≤ 300000000 := by
  have h : ∀ b : Fin 11, 0 ≤ ff 12 b.val ∧ ff 12 b.val ≤ 300000000 := by decide +kernel
  exact h ⟨j, by omega⟩
theorem part_b {x y a b : Int} (h0 : 0 ≤ x) (h1 : x ≤ a) (h2 : -b ≤ y) (h3 : y ≤ b) : -(a * b) ≤ x * y ∧ x * y ≤ a * b := by
  have hb : 0 ≤ b := by omega
  have e1 : x * b ≤ a * b := Int.mul_le_mul_of_nonneg_right h1 hb
  have e2 : x * y ≤ x * b := Int.mul_le_mul_of_nonneg_left h3 h0
  have e3 : x * (-b) ≤ x * y := Int.mul_le_mul_of_nonneg_left h2 h0
  rw [Int.mul_neg] at e3
  omega
theorem sum_b {t : Nat} (ht : t ≤ 11) : sm (fun j => (j : Int) ^ 10 * ff 12 j) t ≤ 4000000000000000000 := by
  have h : ∀ b : Fin 12, sm (fun j => (j : Int) ^ 10 * ff 12 j) b.val ≤ 4000000000000000000 := by decide +kernel
  exact h ⟨t, by omega⟩
theorem pow_up {j p : Nat} (hp : p ≤ 10) (hj : j ≤ 10) (h : 1 ≤ j) : (j : Int) ^ p ≤ (j : Int) ^ 10 := by
  have : ∀ (a b : Fin 11), 1 ≤ a.val → ((a.val : Nat) : Int) ^ b.val ≤ (a.val : Int) ^ 10 := by decide +kernel
  exact this ⟨j, by omega⟩ ⟨p, by omega⟩ h
end Go.Proofs.YtokmialpclcodaaDoor
