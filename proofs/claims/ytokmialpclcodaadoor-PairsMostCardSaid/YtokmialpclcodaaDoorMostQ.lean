/- Pairs: whom each one takes, in plain Lean: the least that lets as many be paired. Conditions: none. -/
import Derived.Test.YtokmialpclcodaaDoorMostP
namespace Go.Proofs.YtokmialpclcodaaDoor
open Go.RowKit

def okT (g : BitVec 32 → Nat) (w u : BitVec 32) (want : Nat) (j : Nat) : Bool := (w.getLsbD j && !u.getLsbD j) && decide (1 + g (wAdd u (wShl w1 j)) = want)
/-- The least one from 8 - m on. -/
def tkD (g : BitVec 32 → Nat) (w u : BitVec 32) (want : Nat) : Nat → Int
  | 0 => -1
  | m + 1 => if okT g w u want (7 - m) = true then ((7 - m : Nat) : Int) else tkD g w u want m
theorem tkD_in (g : BitVec 32 → Nat) (w u : BitVec 32) (want : Nat) : ∀ m, tkD g w u want m = -1 ∨ ∃ j : Nat, j < 8 ∧ tkD g w u want m = j ∧ okT g w u want j = true
  | 0 => .inl rfl
  | m + 1 => by
    rw [tkD]
    split
    · rename_i h
      exact .inr ⟨7 - m, by omega, rfl, h⟩
    · exact tkD_in g w u want m
theorem tk_none {g : BitVec 32 → Nat} {w u : BitVec 32} {want : Nat} (h : ∀ j, j < 8 → okT g w u want j = false) : ∀ m, tkD g w u want m = -1
  | 0 => rfl
  | m + 1 => by
    rw [tkD, if_neg (by rw [h (7 - m) (by omega)]; simp)]
    exact tk_none h m
theorem tk_least {g : BitVec 32 → Nat} {w u : BitVec 32} {want : Nat} {j : Nat} (hj : okT g w u want j = true) (hl : ∀ j', j' < j → okT g w u want j' = false) : ∀ m, 7 - j < m → m ≤ 8 → j < 8 → tkD g w u want m = j
  | 0, h, _, _ => by omega
  | m + 1, h, hm, h8 => by
    rw [tkD]
    by_cases e : 7 - m = j
    · rw [e, if_pos hj]
    · rw [if_neg (by rw [hl (7 - m) (by omega)]; simp)]
      exact tk_least hj hl m (by omega) (by omega) h8
def pairsTo (near : List (BitVec 32)) : Nat → List Int × BitVec 32
  | 0 => ([], w0)
  | i + 1 => ((pairsTo near i).1 ++ [tkD (mF (near.drop (i + 1))) (lw near i) (pairsTo near i).2 (mF (near.drop i) (pairsTo near i).2) 8],
      if 0 ≤ tkD (mF (near.drop (i + 1))) (lw near i) (pairsTo near i).2 (mF (near.drop i) (pairsTo near i).2) 8 then wAdd (pairsTo near i).2 (wShl w1 (tkD (mF (near.drop (i + 1))) (lw near i) (pairsTo near i).2 (mF (near.drop i) (pairsTo near i).2) 8).toNat) else (pairsTo near i).2)
theorem pairsTo_length (near : List (BitVec 32)) : ∀ i, (pairsTo near i).1.length = i
  | 0 => rfl
  | i + 1 => by rw [pairsTo, List.length_append, pairsTo_length near i]; rfl
theorem add_bits {u : BitVec 32} {j : Nat} (hu : ∀ q, u.getLsbD q = true → q < 8) (hj : j < 8) (h : u.getLsbD j = false) : ∀ q, (wAdd u (wShl w1 j)).getLsbD q = true → q < 8 := fun q hq => by
  rw [b_add h, b_one] at hq
  simp at hq
  rcases hq with h1 | h1
  · exact hu q h1
  · omega
theorem pairsTo_bits (near : List (BitVec 32)) : ∀ i, ∀ q, (pairsTo near i).2.getLsbD q = true → q < 8
  | 0 => fun q hq => by
    have : w0.getLsbD q = true := hq
    rw [b_0] at this; cases this
  | i + 1 => by
    have ih := pairsTo_bits near i
    rw [pairsTo]
    simp only
    rcases tkD_in (mF (near.drop (i + 1))) (lw near i) (pairsTo near i).2 (mF (near.drop i) (pairsTo near i).2) 8 with h | ⟨j, h1, h2, h3⟩
    · rw [h, if_neg (by omega)]; exact ih
    · rw [h2, if_pos (by omega), Int.toNat_natCast]
      unfold okT at h3
      rw [Bool.and_eq_true, Bool.and_eq_true] at h3
      exact add_bits ih h1 (by simpa using h3.1.2)
theorem or_add {u : BitVec 32} {j : Nat} (h : u.getLsbD j = false) : wOr u (wShl w1 j) = wAdd u (wShl w1 j) := w_ext fun q _ => by rw [b_or, b_add h]
theorem mF_cons (near : List (BitVec 32)) {i : Nat} (hi : i < near.length) (u : BitVec 32) : mF (near.drop i) u = mJ (mF (near.drop (i + 1))) (lw near i) u 8 := by
  have hd : near.drop i = lw near i :: near.drop (i + 1) := by rw [lw_at near i hi, ← List.drop_eq_getElem_cons hi]
  rw [hd, mF]
/-- How many are left when one was taken, or none could be. -/
theorem left_take {near : List (BitVec 32)} {i j : Nat} {u : BitVec 32} (h : okT (mF (near.drop (i + 1))) (lw near i) u (mF (near.drop i) u) j = true) : mF (near.drop i) u = 1 + mF (near.drop (i + 1)) (wAdd u (wShl w1 j)) := by
  unfold okT at h
  rw [Bool.and_eq_true, decide_eq_true_iff] at h
  exact h.2.symm
theorem left_none {near : List (BitVec 32)} (hw : ∀ k q, Nr near k q → q < 8) {i : Nat} (hi : i < near.length) {u : BitVec 32} (h : ∀ j, j < 8 → okT (mF (near.drop (i + 1))) (lw near i) u (mF (near.drop i) u) j = false) : mF (near.drop i) u = mF (near.drop (i + 1)) u := by
  rcases mJ_is (mF (near.drop (i + 1))) (lw near i) u 8 with h1 | ⟨j, h1, h2, h3, h4⟩
  · rw [mF_cons near hi, h1]
  · have := h j h1
    unfold okT at this
    rw [h2, h3, mF_cons near hi, h4] at this
    simp at this
theorem bitsL_sorted (x : BitVec 32) : (bitsL x).Pairwise (· < ·) := List.pairwise_lt_range.sublist List.filter_sublist
/-- Those ahead of one in the list of a word's bits. -/
theorem bits_ahead {x : BitVec 32} {pre : List Nat} {j : Nat} (h : pre ++ [j] <+: bitsL x) {j' : Nat} (hj : x.getLsbD j' = true) (hlt : j' < j) : j' ∈ pre := by
  obtain ⟨z, hz⟩ := h
  have hm := mem_bitsL.2 hj
  have hs := bitsL_sorted x
  rw [← hz] at hm hs
  rcases List.mem_append.1 hm with h1 | h1
  · rcases List.mem_append.1 h1 with h2 | h2
    · exact h2
    · rw [List.mem_singleton.1 h2] at hlt; omega
  · have := (List.pairwise_append.1 hs).2.2 j (by simp) j' h1
    omega
end Go.Proofs.YtokmialpclcodaaDoor
