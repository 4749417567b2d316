/- Words of 32 bits in a walk: the operations on '.int .u32' as operations on BitVec 32. Conditions: none. -/
import Derived.Test.YtbbdiondhnmnaaaDoorSpanMany1
namespace Go.Proofs.YtbbdiondhnmnaaaDoor
open Go.RowKit

theorem ofInt_w (x : BitVec 32) : BitVec.ofInt 32 (x.toNat : Int) = x := by
  rw [BitVec.ofInt_natCast, BitVec.ofNat_toNat, BitVec.setWidth_eq]
theorem wrap_w (r : BitVec 32) : IntKind.u32.wrap (r.toNat : Int) = (r.toNat : Int) := by
  rw [IntKind.wrap_u32']
  have := r.isLt
  omega
theorem r_and (x y : BitVec 32) : Op.intBits .and .u32 (x.toNat : Int) (y.toNat : Int) = pure (.int .u32 ((x &&& y).toNat : Int)) := by
  show pure (Value.int .u32 (IntKind.u32.wrap ((BitVec.ofInt 32 (x.toNat : Int) &&& BitVec.ofInt 32 (y.toNat : Int)).toNat : Int))) = _
  rw [ofInt_w, ofInt_w, wrap_w]
theorem r_or (x y : BitVec 32) : Op.intBits .or .u32 (x.toNat : Int) (y.toNat : Int) = pure (.int .u32 ((x ||| y).toNat : Int)) := by
  show pure (Value.int .u32 (IntKind.u32.wrap ((BitVec.ofInt 32 (x.toNat : Int) ||| BitVec.ofInt 32 (y.toNat : Int)).toNat : Int))) = _
  rw [ofInt_w, ofInt_w, wrap_w]
theorem r_xor (x y : BitVec 32) : Op.intBits .xor .u32 (x.toNat : Int) (y.toNat : Int) = pure (.int .u32 ((x ^^^ y).toNat : Int)) := by
  show pure (Value.int .u32 (IntKind.u32.wrap ((BitVec.ofInt 32 (x.toNat : Int) ^^^ BitVec.ofInt 32 (y.toNat : Int)).toNat : Int))) = _
  rw [ofInt_w, ofInt_w, wrap_w]
theorem r_andNot (x y : BitVec 32) : Op.intBits .andNot .u32 (x.toNat : Int) (y.toNat : Int) = pure (.int .u32 ((x &&& ~~~y).toNat : Int)) := by
  show pure (Value.int .u32 (IntKind.u32.wrap ((BitVec.ofInt 32 (x.toNat : Int) &&& ~~~BitVec.ofInt 32 (y.toNat : Int)).toNat : Int))) = _
  rw [ofInt_w, ofInt_w, wrap_w]
theorem r_and1 (x : BitVec 32) : Op.intBits .and .u32 (x.toNat : Int) 1 = pure (.int .u32 ((x &&& 1#32).toNat : Int)) := r_and x 1#32
theorem r_and255 (x : BitVec 32) : Op.intBits .and .u32 (x.toNat : Int) 255 = pure (.int .u32 ((x &&& 255#32).toNat : Int)) := r_and x 255#32
theorem r_xor1 (x : BitVec 32) : Op.intBits .xor .u32 (x.toNat : Int) 1 = pure (.int .u32 ((x ^^^ 1#32).toNat : Int)) := r_xor x 1#32
theorem r_or0 (x : BitVec 32) : Op.intBits .or .u32 0 (x.toNat : Int) = pure (.int .u32 ((x).toNat : Int)) := by
  rw [show (0 : Int) = ((0#32).toNat : Int) from rfl, r_or]
  congr 3
  simp
theorem r_shl (x : BitVec 32) (k : IntKind) (n : Int) (h : 0 ≤ n) : Op.shift .shl .u32 (x.toNat : Int) k n = pure (.int .u32 ((x <<< n.toNat).toNat : Int)) := by
  rw [shift_shl_any _ _ _ _ h]
  congr 2
  show IntKind.u32.wrap ((x.toNat : Int) * 2 ^ min n.toNat 32) = _
  rw [IntKind.wrap_u32', BitVec.toNat_shiftLeft, Nat.shiftLeft_eq]
  rcases Nat.lt_or_ge n.toNat 32 with hlt | hge
  · rw [Nat.min_eq_left (by omega), Int.natCast_emod, Int.natCast_mul, Int.natCast_pow]
    rfl
  · rw [Nat.min_eq_right hge]
    obtain ⟨d, hd⟩ : ∃ d, n.toNat = 32 + d := ⟨n.toNat - 32, by omega⟩
    have h1 : x.toNat * 2 ^ n.toNat % 2 ^ 32 = 0 := by
      rw [hd, Nat.pow_add, ← Nat.mul_assoc, Nat.mul_right_comm]
      exact Nat.mul_mod_left _ _
    rw [h1]
    have h2 : ((x.toNat : Int) * 2 ^ 32) % 4294967296 = 0 := by omega
    exact h2
theorem r_shl1 (k : IntKind) (n : Int) (h : 0 ≤ n) : Op.shift .shl .u32 1 k n = pure (.int .u32 ((1#32 <<< n.toNat).toNat : Int)) := r_shl 1#32 k n h
theorem r_shr (x : BitVec 32) (k : IntKind) (n : Int) (h : 0 ≤ n) : Op.shift .shr .u32 (x.toNat : Int) k n = pure (.int .u32 ((x >>> n.toNat).toNat : Int)) := by
  rw [shift_shr_any _ _ _ _ h]
  congr 2
  show (x.toNat : Int) / 2 ^ min n.toNat 32 = _
  rw [BitVec.toNat_ushiftRight, Nat.shiftRight_eq_div_pow]
  rcases Nat.lt_or_ge n.toNat 32 with hlt | hge
  · rw [Nat.min_eq_left (by omega), Int.natCast_ediv, Int.natCast_pow]
    rfl
  · rw [Nat.min_eq_right hge]
    have hx := x.isLt
    have h1 : x.toNat / 2 ^ n.toNat = 0 := Nat.div_eq_of_lt (Nat.lt_of_lt_of_le hx (Nat.pow_le_pow_right (by omega) hge))
    rw [h1]
    have h2 : ((x.toNat : Int)) / 2 ^ 32 = 0 := by omega
    exact h2
theorem r_sub (x y : BitVec 32) : Op.intArith .sub .u32 (x.toNat : Int) (y.toNat : Int) = pure (.int .u32 ((x - y).toNat : Int)) := by
  show pure (Value.int .u32 (IntKind.u32.wrap ((x.toNat : Int) - (y.toNat : Int)))) = _
  congr 2
  rw [IntKind.wrap_u32', BitVec.toNat_sub]
  have := x.isLt
  have := y.isLt
  omega
theorem r_add (x y : BitVec 32) : Op.intArith .add .u32 (x.toNat : Int) (y.toNat : Int) = pure (.int .u32 ((x + y).toNat : Int)) := by
  show pure (Value.int .u32 (IntKind.u32.wrap ((x.toNat : Int) + (y.toNat : Int)))) = _
  congr 2
theorem r_sub1 (x : BitVec 32) : Op.intArith .sub .u32 (x.toNat : Int) 1 = pure (.int .u32 ((x - 1#32).toNat : Int)) := r_sub x 1#32
theorem r_add1 (x : BitVec 32) : Op.intArith .add .u32 (x.toNat : Int) 1 = pure (.int .u32 ((x + 1#32).toNat : Int)) := r_add x 1#32

/-! The words as the walk sees them: behind names that simp does not open. -/
def wN (x : BitVec 32) : Int := (x.toNat : Int)
def wAnd (x y : BitVec 32) : BitVec 32 := x &&& y
def wOr (x y : BitVec 32) : BitVec 32 := x ||| y
def wXor (x y : BitVec 32) : BitVec 32 := x ^^^ y
def wBut (x y : BitVec 32) : BitVec 32 := x &&& ~~~y
def wShl (x : BitVec 32) (n : Nat) : BitVec 32 := x <<< n
def wShr (x : BitVec 32) (n : Nat) : BitVec 32 := x >>> n
def wSub (x y : BitVec 32) : BitVec 32 := x - y
def wAdd (x y : BitVec 32) : BitVec 32 := x + y
def w0 : BitVec 32 := 0#32
def w1 : BitVec 32 := 1#32
def w255 : BitVec 32 := 255#32
theorem w_and (x y : BitVec 32) : Op.intBits .and .u32 (wN x) (wN y) = pure (.int .u32 (wN (wAnd x y))) := r_and x y
theorem w_or (x y : BitVec 32) : Op.intBits .or .u32 (wN x) (wN y) = pure (.int .u32 (wN (wOr x y))) := r_or x y
theorem w_xor (x y : BitVec 32) : Op.intBits .xor .u32 (wN x) (wN y) = pure (.int .u32 (wN (wXor x y))) := r_xor x y
theorem w_andNot (x y : BitVec 32) : Op.intBits .andNot .u32 (wN x) (wN y) = pure (.int .u32 (wN (wBut x y))) := r_andNot x y
theorem w_and1 (x : BitVec 32) : Op.intBits .and .u32 (wN x) 1 = pure (.int .u32 (wN (wAnd x w1))) := r_and x 1#32
theorem w_and255 (x : BitVec 32) : Op.intBits .and .u32 (wN x) 255 = pure (.int .u32 (wN (wAnd x w255))) := r_and x 255#32
theorem w_xor1 (x : BitVec 32) : Op.intBits .xor .u32 (wN x) 1 = pure (.int .u32 (wN (wXor x w1))) := r_xor x 1#32
theorem w_or0 (x : BitVec 32) : Op.intBits .or .u32 0 (wN x) = pure (.int .u32 (wN x)) := r_or0 x
theorem w_shl (x : BitVec 32) (k : IntKind) (n : Int) (h : 0 ≤ n) : Op.shift .shl .u32 (wN x) k n = pure (.int .u32 (wN (wShl x n.toNat))) := r_shl x k n h
theorem w_shl1 (k : IntKind) (n : Int) (h : 0 ≤ n) : Op.shift .shl .u32 1 k n = pure (.int .u32 (wN (wShl w1 n.toNat))) := r_shl 1#32 k n h
theorem w_shr (x : BitVec 32) (k : IntKind) (n : Int) (h : 0 ≤ n) : Op.shift .shr .u32 (wN x) k n = pure (.int .u32 (wN (wShr x n.toNat))) := r_shr x k n h
theorem w_sub (x y : BitVec 32) : Op.intArith .sub .u32 (wN x) (wN y) = pure (.int .u32 (wN (wSub x y))) := r_sub x y
theorem w_add (x y : BitVec 32) : Op.intArith .add .u32 (wN x) (wN y) = pure (.int .u32 (wN (wAdd x y))) := r_add x y
theorem w_sub1 (x : BitVec 32) : Op.intArith .sub .u32 (wN x) 1 = pure (.int .u32 (wN (wSub x w1))) := r_sub x 1#32
theorem w_add1 (x : BitVec 32) : Op.intArith .add .u32 (wN x) 1 = pure (.int .u32 (wN (wAdd x w1))) := r_add x 1#32
theorem wN_nonneg (x : BitVec 32) : 0 ≤ wN x := by unfold wN; omega
theorem wN_lt (x : BitVec 32) : wN x < 4294967296 := by unfold wN; have := x.isLt; omega
theorem wN_0 : wN w0 = 0 := rfl
theorem wN_1 : wN w1 = 1 := rfl
theorem wN_inj {x y : BitVec 32} (h : wN x = wN y) : x = y := by
  apply BitVec.eq_of_toNat_eq; unfold wN at h; omega

/-- The word that an Int in the range of uint32 is. -/
def wordOf (n : Int) : BitVec 32 := BitVec.ofInt 32 n
theorem wN_wordOf {n : Int} (h0 : 0 ≤ n) (h1 : n ≤ 4294967295) : wN (wordOf n) = n := by
  obtain ⟨m, rfl⟩ := Int.eq_ofNat_of_zero_le h0
  unfold wordOf wN
  rw [BitVec.ofInt_natCast, BitVec.toNat_ofNat, Nat.mod_eq_of_lt (by omega)]

/-- 'Bit(w, i)'. -/
def bitB (x : BitVec 32) (i : Int) : Bool := decide (0 ≤ i) && x.getLsbD i.toNat
theorem bitB_nat (x : BitVec 32) (i : Nat) : bitB x i = x.getLsbD i := by simp [bitB]
theorem and_shl_ne (x : BitVec 32) (i : Nat) : (x &&& 1#32 <<< i != 0#32) = x.getLsbD i := by
  rw [Bool.eq_iff_iff, bne_iff_ne]
  constructor
  · intro h
    rcases hx : x.getLsbD i with _ | _
    · exfalso
      apply h
      apply BitVec.eq_of_getLsbD_eq
      intro j hj
      simp only [BitVec.getLsbD_and, BitVec.getLsbD_shiftLeft, BitVec.getLsbD_zero]
      by_cases hji : j = i
      · subst hji; simp [hx]
      · rcases Nat.lt_or_ge j i with h1 | h1
        · simp [h1]
        · have : ¬ j - i = 0 := by omega
          simp [BitVec.getLsbD_one, this]
    · rfl
  · intro h h0
    have h1 := congrArg (fun z : BitVec 32 => z.getLsbD i) h0
    simp only [BitVec.getLsbD_and, BitVec.getLsbD_shiftLeft, BitVec.getLsbD_zero, h] at h1
    have hi : i < 32 := by
      rcases Nat.lt_or_ge i 32 with hlt | hge
      · exact hlt
      · rw [BitVec.getLsbD_of_ge _ _ hge] at h; cases h
    simp [hi] at h1
theorem w_eq0 (x : BitVec 32) : (wN x == 0) = (x == w0) := by
  rw [Bool.eq_iff_iff, beq_iff_eq, beq_iff_eq]
  exact ⟨fun h => wN_inj h, fun h => by rw [h]; rfl⟩
theorem w_ne0 (x : BitVec 32) : (wN x != 0) = (x != w0) := by rw [bne, bne, w_eq0]
theorem w_eq1 (x : BitVec 32) : (wN x == 1) = (x == w1) := by
  rw [Bool.eq_iff_iff, beq_iff_eq, beq_iff_eq]
  exact ⟨fun h => wN_inj h, fun h => by rw [h]; rfl⟩
theorem w_eq (x y : BitVec 32) : (wN x == wN y) = (x == y) := by
  rw [Bool.eq_iff_iff, beq_iff_eq, beq_iff_eq]
  exact ⟨fun h => wN_inj h, fun h => by rw [h]⟩
theorem w_ne (x y : BitVec 32) : (wN x != wN y) = (x != y) := by rw [bne, bne, w_eq]

/-- The word at a place; 0 behind the end. -/
def lw (l : List (BitVec 32)) (j : Nat) : BitVec 32 := l.getD j w0
theorem lw_at (l : List (BitVec 32)) (k : Nat) (h : k < l.length) : lw l k = l[k] := getD_at l k h w0
/-! ### Bit by bit -/
theorem w_ext {x y : BitVec 32} (h : ∀ m, m < 32 → x.getLsbD m = y.getLsbD m) : x = y := BitVec.eq_of_getLsbD_eq fun i hi => h i hi
theorem b_ge (x : BitVec 32) {m : Nat} (h : 32 ≤ m) : x.getLsbD m = false := BitVec.getLsbD_of_ge _ _ h
theorem b_and (x y : BitVec 32) (m : Nat) : (wAnd x y).getLsbD m = (x.getLsbD m && y.getLsbD m) := BitVec.getLsbD_and
theorem b_or (x y : BitVec 32) (m : Nat) : (wOr x y).getLsbD m = (x.getLsbD m || y.getLsbD m) := BitVec.getLsbD_or
theorem b_xor (x y : BitVec 32) (m : Nat) : (wXor x y).getLsbD m = (x.getLsbD m ^^ y.getLsbD m) := BitVec.getLsbD_xor
theorem b_but (x y : BitVec 32) (m : Nat) : (wBut x y).getLsbD m = (x.getLsbD m && !y.getLsbD m) := by
  unfold wBut
  rw [BitVec.getLsbD_and, BitVec.getLsbD_not]
  rcases Nat.lt_or_ge m 32 with h | h
  · simp [h]
  · simp [BitVec.getLsbD_of_ge _ _ h]
theorem b_0 (m : Nat) : w0.getLsbD m = false := by simp [w0]
theorem b_1 (m : Nat) : w1.getLsbD m = decide (m = 0) := by
  unfold w1
  rw [BitVec.getLsbD_one]
  simp
theorem b_shl (x : BitVec 32) (n m : Nat) : (wShl x n).getLsbD m = (decide (m < 32) && !decide (m < n) && x.getLsbD (m - n)) := by
  unfold wShl
  rw [BitVec.getLsbD_shiftLeft]
theorem b_shr (x : BitVec 32) (n m : Nat) : (wShr x n).getLsbD m = x.getLsbD (n + m) := by
  unfold wShr
  rw [BitVec.getLsbD_ushiftRight]
theorem b_one (n m : Nat) : (wShl w1 n).getLsbD m = (decide (m < 32) && decide (m = n)) := by
  rw [b_shl, b_1]
  rcases Nat.lt_or_ge m n with h | h
  · have : ¬ m = n := by omega
    simp [h, this]
  · have e : (m - n = 0) = (m = n) := by simp only [eq_iff_iff]; omega
    have : ¬ m < n := by omega
    simp [this, e]
theorem wN_shl1 {n : Nat} (h : n < 32) : (wShl w1 n).toNat = 2 ^ n := by
  unfold wShl w1
  rw [BitVec.toNat_shiftLeft, Nat.shiftLeft_eq]
  have : 2 ^ n < 2 ^ 32 := Nat.pow_lt_pow_right (by omega) h
  rw [Nat.mod_eq_of_lt]
  · simp
  · simpa using this
def maskW (n : Nat) : BitVec 32 := wSub (wShl w1 n) w1
theorem toNat_mask {n : Nat} (h : n < 32) : (maskW n).toNat = 2 ^ n - 1 := by
  unfold maskW wSub
  rw [BitVec.toNat_sub, wN_shl1 h]
  have h1 : 2 ^ n < 2 ^ 32 := Nat.pow_lt_pow_right (by omega) h
  have h2 : 0 < 2 ^ n := Nat.two_pow_pos n
  have h3 : w1.toNat = 1 := rfl
  rw [h3]
  omega
theorem b_mask {n : Nat} (h : n < 32) (m : Nat) : (maskW n).getLsbD m = decide (m < n) := by
  rw [BitVec.getLsbD, toNat_mask h, Nat.testBit_two_pow_sub_one]
theorem shr_zero_iff (x : BitVec 32) (n : Nat) : (wShr x n != w0) = decide (2 ^ n ≤ x.toNat) := by
  have h : (wShr x n).toNat = x.toNat / 2 ^ n := by
    unfold wShr
    rw [BitVec.toNat_ushiftRight, Nat.shiftRight_eq_div_pow]
  rw [Bool.eq_iff_iff, bne_iff_ne, decide_eq_true_iff]
  constructor
  · intro hne
    rcases Nat.lt_or_ge x.toNat (2 ^ n) with hlt | hge
    · exfalso
      apply hne
      apply BitVec.eq_of_toNat_eq
      rw [h, Nat.div_eq_of_lt hlt]
      rfl
    · exact hge
  · intro hge he
    rw [he] at h
    have : 0 < x.toNat / 2 ^ n := Nat.div_pos hge (Nat.two_pow_pos n)
    have h0 : w0.toNat = 0 := rfl
    omega
theorem bit_lt {x : BitVec 32} {n m : Nat} (h : x.toNat < 2 ^ n) (hm : n ≤ m) : x.getLsbD m = false := by
  rw [BitVec.getLsbD]
  exact Nat.testBit_lt_two_pow (Nat.lt_of_lt_of_le h (Nat.pow_le_pow_right (by omega) hm))
theorem b_add {x : BitVec 32} {n : Nat} (hx : x.getLsbD n = false) (m : Nat) : (wAdd x (wShl w1 n)).getLsbD m = (x.getLsbD m || (wShl w1 n).getLsbD m) := by
  have h : x &&& wShl w1 n = 0#32 := by
    apply w_ext
    intro j hj
    have := b_and x (wShl w1 n) j
    unfold wAnd at this
    rw [this, b_one]
    by_cases hjn : j = n
    · subst hjn; simp [hx]
    · simp [hjn]
  unfold wAdd
  rw [BitVec.add_eq_or_of_and_eq_zero _ _ h]
  exact b_or x _ m
end Go.Proofs.YtbbdiondhnmnaaaDoor
