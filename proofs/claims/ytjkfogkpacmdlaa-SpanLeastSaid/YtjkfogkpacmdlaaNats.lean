/- Sets in an int: the operations on '.int .i64' as operations on Nat, in the walk's own spelling. Conditions: none. -/
import Derived.Test.YtjkfogkpacmdlaaInts
import Derived.Test.YtjkfogkpacmdlaaSubP
import Derived.IntWalk
namespace Go.Proofs.Ytjkfogkpacmdlaa
open Go.RowKit

def nAnd (x y : Nat) : Nat := x &&& y
def nXor (x y : Nat) : Nat := x ^^^ y
def nOr (x y : Nat) : Nat := x ||| y
theorem bits_and (x y : BitVec 32) : bits .and .i64 (sN x) (sN y) = sN (wAnd x y) := by
  show (IntKind.i64.wrap ((BitVec.ofInt 64 (x.toNat : Int) &&& BitVec.ofInt 64 (y.toNat : Int)).toNat : Int)) = _
  rw [ofInt_s, ofInt_s, show (BitVec.setWidth 64 x &&& BitVec.setWidth 64 y).toNat = (x &&& y).toNat from by rw [BitVec.toNat_and, sw_toNat, sw_toNat, BitVec.toNat_and], wrap_s]
  rfl
theorem bits_or (x y : BitVec 32) : bits .or .i64 (sN x) (sN y) = sN (wOr x y) := by
  show (IntKind.i64.wrap ((BitVec.ofInt 64 (x.toNat : Int) ||| BitVec.ofInt 64 (y.toNat : Int)).toNat : Int)) = _
  rw [ofInt_s, ofInt_s, show (BitVec.setWidth 64 x ||| BitVec.setWidth 64 y).toNat = (x ||| y).toNat from by rw [BitVec.toNat_or, sw_toNat, sw_toNat, BitVec.toNat_or], wrap_s]
  rfl
theorem bits_but (x y : BitVec 32) : bits .andNot .i64 (sN x) (sN y) = sN (wBut x y) := by
  show (IntKind.i64.wrap ((BitVec.ofInt 64 (x.toNat : Int) &&& ~~~BitVec.ofInt 64 (y.toNat : Int)).toNat : Int)) = _
  rw [ofInt_s, ofInt_s]
  have h : (BitVec.setWidth 64 x &&& ~~~BitVec.setWidth 64 y) = BitVec.setWidth 64 (x &&& ~~~y) := by
    apply BitVec.eq_of_getLsbD_eq
    intro i hi
    simp only [BitVec.getLsbD_and, BitVec.getLsbD_not, BitVec.getLsbD_setWidth]
    rcases Nat.lt_or_ge i 32 with h | h
    · simp [hi, h]
    · simp [BitVec.getLsbD_of_ge x i h]
  rw [h, sw_toNat, wrap_s]
  rfl
theorem sN_of (x : Nat) (hx : x ≤ 1048576) : sN (BitVec.ofNat 32 x) = (x : Int) := by
  unfold sN
  rw [BitVec.toNat_ofNat, Nat.mod_eq_of_lt (by omega)]
theorem n_and (x y : Nat) (hx : x ≤ 1048576) (hy : y ≤ 1048576) : bits .and .i64 (x : Int) (y : Int) = (nAnd x y : Nat) := by
  have e := bits_and (BitVec.ofNat 32 x) (BitVec.ofNat 32 y)
  rw [sN_of x hx, sN_of y hy] at e
  rw [e]
  unfold sN wAnd nAnd
  rw [BitVec.toNat_and, BitVec.toNat_ofNat, BitVec.toNat_ofNat, Nat.mod_eq_of_lt (by omega), Nat.mod_eq_of_lt (by omega)]
theorem n_or (x y : Nat) (hx : x ≤ 1048576) (hy : y ≤ 1048576) : bits .or .i64 (x : Int) (y : Int) = (nOr x y : Nat) := by
  have e := bits_or (BitVec.ofNat 32 x) (BitVec.ofNat 32 y)
  rw [sN_of x hx, sN_of y hy] at e
  rw [e]
  unfold sN wOr nOr
  rw [BitVec.toNat_or, BitVec.toNat_ofNat, BitVec.toNat_ofNat, Nat.mod_eq_of_lt (by omega), Nat.mod_eq_of_lt (by omega)]
theorem xor_le {a s : Nat} (h : s &&& a = s) : nXor a s ≤ a := by
  have : (nXor a s) &&& a = nXor a s := sub_of_bits fun i hi => by
    unfold nXor at hi
    rw [Nat.testBit_xor] at hi
    have hb := @bit_sub a s h i
    revert hi hb
    cases a.testBit i <;> cases s.testBit i <;> simp
  exact sub_le this
theorem n_but (x y : Nat) (hx : x ≤ 1048576) (hy : y &&& x = y) : bits .andNot .i64 (x : Int) (y : Int) = (nXor x y : Nat) := by
  have hyx := sub_le hy
  have hxor := xor_le hy
  have e := bits_but (BitVec.ofNat 32 x) (BitVec.ofNat 32 y)
  rw [sN_of x hx, sN_of y (by omega)] at e
  rw [e]
  have h : wBut (BitVec.ofNat 32 x) (BitVec.ofNat 32 y) = BitVec.ofNat 32 (nXor x y) := by
    apply w_ext
    intro i hi
    have hb := @bit_sub x y hy i
    rw [b_but]
    simp only [BitVec.getLsbD_ofNat, hi, decide_true, Bool.true_and]
    unfold nXor
    rw [Nat.testBit_xor]
    revert hb
    cases x.testBit i <;> cases y.testBit i <;> simp
  rw [h, sN_of _ (by omega)]
/-- 'x >> i & 1'. -/
theorem n_bit (x i : Nat) (hx : x ≤ 1048576) : bits .and .i64 ((x : Int) / 2 ^ i) 1 = if x.testBit i then 1 else 0 := by
  have h1 : x / 2 ^ i ≤ x := Nat.div_le_self _ _
  have e := n_and (x / 2 ^ i) 1 (by omega) (by omega)
  rw [show ((1 : Nat) : Int) = 1 from rfl, Int.natCast_ediv, Int.natCast_pow] at e
  rw [show ((2 : Int) ^ i) = (((2 : Nat) : Int) ^ i) from rfl, e]
  unfold nAnd
  rw [Nat.and_one_is_mod, Nat.testBit_eq_decide_div_mod_eq]
  rcases Nat.mod_two_eq_zero_or_one (x / 2 ^ i) with h | h <;> rw [h] <;> rfl
theorem n_bit1 (x i : Nat) (hx : x ≤ 1048576) : (bits .and .i64 ((x : Int) / 2 ^ i) 1 == 1) = x.testBit i := by
  rw [n_bit x i hx]
  cases x.testBit i <;> rfl
theorem n_bit0 (x i : Nat) (hx : x ≤ 1048576) : (bits .and .i64 ((x : Int) / 2 ^ i) 1 == 0) = !x.testBit i := by
  rw [n_bit x i hx]
  cases x.testBit i <;> rfl
theorem n_shl1 (k : IntKind) (n : Nat) (h : n ≤ 20) : Op.shift .shl .i64 1 k (n : Int) = pure (.int .i64 ((2 ^ n : Nat) : Int)) := by
  have e := s_shl1 k (n : Int) (by omega) (by omega)
  rw [Int.toNat_natCast] at e
  unfold sN at e
  rw [wN_shl1 (by omega)] at e
  exact e
def pw (n : Nat) : Nat := 2 ^ n
theorem n_shlp (k : IntKind) (n : Int) (h : 0 ≤ n) (h1 : n ≤ 20) : Op.shift .shl .i64 1 k n = pure (.int .i64 (pw n.toNat : Nat)) := by
  have e := n_shl1 k n.toNat (by omega)
  rw [Int.toNat_of_nonneg h] at e
  exact e
/-- A list told by a function, one place stored anew. -/
theorem mapR_set {α : Type} (f : Nat → α) (P a : Nat) (x : α) : ((List.range P).map f).set a x = (List.range P).map fun i => if i = a then x else f i := by
  apply List.ext_getElem (by simp)
  intro i h1 h2
  simp only [List.getElem_set, List.getElem_map, List.getElem_range]
  by_cases h : a = i
  · rw [if_pos h, if_pos h.symm]
  · rw [if_neg h, if_neg (fun e => h e.symm)]
theorem mapR_congr {α : Type} {f g : Nat → α} {P : Nat} (h : ∀ i, i < P → f i = g i) : (List.range P).map f = (List.range P).map g := List.map_congr_left fun i hi => h i (List.mem_range.1 hi)
theorem mapR_get {α : Type} (f : Nat → α) {P a : Nat} (h : a < ((List.range P).map f).length) : ((List.range P).map f)[a] = f a := by simp
theorem mapR_len {α : Type} (f : Nat → α) (P : Nat) : ((List.range P).map f).length = P := by simp
end Go.Proofs.Ytjkfogkpacmdlaa
