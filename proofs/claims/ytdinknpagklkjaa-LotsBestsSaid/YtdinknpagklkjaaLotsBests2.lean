/- Words of 32 bits in a walk: the operations on '.int .u32' as operations on BitVec 32. Conditions: none. -/
import Derived.Test.YtdinknpagklkjaaLotsBests1
import Derived.Test.YtdinknpagklkjaaProg
namespace Go.Proofs.Ytdinknpagklkjaa
open Go.RowKit

theorem ofInt_w (x : BitVec 32) : BitVec.ofInt 32 (x.toNat : Int) = x := by
  rw [BitVec.ofInt_natCast, BitVec.ofNat_toNat, BitVec.setWidth_eq]
theorem wrap_w (r : BitVec 32) : IntKind.u32.wrap (r.toNat : Int) = (r.toNat : Int) := by
  rw [IntKind.wrap_u32']
  have := r.isLt
  omega
theorem r_and (x y : BitVec 32) : Op.intBits .and .u32 (x.toNat : Int) (y.toNat : Int) = pure (.int .u32 ((x &&& y).toNat : Int)) := by
  show pure (Value.int .u32 (IntKind.u32.wrap ((BitVec.ofInt 32 (x.toNat : Int) &&& BitVec.ofInt 32 (y.toNat : Int)).toNat : Int))) = _
  rw [ofInt_w, ofInt_w, wrap_w]
theorem r_or (x y : BitVec 32) : Op.intBits .or .u32 (x.toNat : Int) (y.toNat : Int) = pure (.int .u32 ((x ||| y).toNat : Int)) := by
  show pure (Value.int .u32 (IntKind.u32.wrap ((BitVec.ofInt 32 (x.toNat : Int) ||| BitVec.ofInt 32 (y.toNat : Int)).toNat : Int))) = _
  rw [ofInt_w, ofInt_w, wrap_w]
theorem r_xor (x y : BitVec 32) : Op.intBits .xor .u32 (x.toNat : Int) (y.toNat : Int) = pure (.int .u32 ((x ^^^ y).toNat : Int)) := by
  show pure (Value.int .u32 (IntKind.u32.wrap ((BitVec.ofInt 32 (x.toNat : Int) ^^^ BitVec.ofInt 32 (y.toNat : Int)).toNat : Int))) = _
  rw [ofInt_w, ofInt_w, wrap_w]
theorem r_andNot (x y : BitVec 32) : Op.intBits .andNot .u32 (x.toNat : Int) (y.toNat : Int) = pure (.int .u32 ((x &&& ~~~y).toNat : Int)) := by
  show pure (Value.int .u32 (IntKind.u32.wrap ((BitVec.ofInt 32 (x.toNat : Int) &&& ~~~BitVec.ofInt 32 (y.toNat : Int)).toNat : Int))) = _
  rw [ofInt_w, ofInt_w, wrap_w]
theorem r_and1 (x : BitVec 32) : Op.intBits .and .u32 (x.toNat : Int) 1 = pure (.int .u32 ((x &&& 1#32).toNat : Int)) := r_and x 1#32
theorem r_and255 (x : BitVec 32) : Op.intBits .and .u32 (x.toNat : Int) 255 = pure (.int .u32 ((x &&& 255#32).toNat : Int)) := r_and x 255#32
theorem r_xor1 (x : BitVec 32) : Op.intBits .xor .u32 (x.toNat : Int) 1 = pure (.int .u32 ((x ^^^ 1#32).toNat : Int)) := r_xor x 1#32
theorem r_or0 (x : BitVec 32) : Op.intBits .or .u32 0 (x.toNat : Int) = pure (.int .u32 ((x).toNat : Int)) := by
  rw [show (0 : Int) = ((0#32).toNat : Int) from rfl, r_or]
  congr 3
  simp
theorem r_shl (x : BitVec 32) (k : IntKind) (n : Int) (h : 0 ≤ n) : Op.shift .shl .u32 (x.toNat : Int) k n = pure (.int .u32 ((x <<< n.toNat).toNat : Int)) := by
  rw [shift_shl_any _ _ _ _ h]
  congr 2
  show IntKind.u32.wrap ((x.toNat : Int) * 2 ^ min n.toNat 32) = _
  rw [IntKind.wrap_u32', BitVec.toNat_shiftLeft, Nat.shiftLeft_eq]
  rcases Nat.lt_or_ge n.toNat 32 with hlt | hge
  · rw [Nat.min_eq_left (by omega), Int.natCast_emod, Int.natCast_mul, Int.natCast_pow]
    rfl
  · rw [Nat.min_eq_right hge]
    obtain ⟨d, hd⟩ : ∃ d, n.toNat = 32 + d := ⟨n.toNat - 32, by omega⟩
    have h1 : x.toNat * 2 ^ n.toNat % 2 ^ 32 = 0 := by
      rw [hd, Nat.pow_add, ← Nat.mul_assoc, Nat.mul_right_comm]
      exact Nat.mul_mod_left _ _
    rw [h1]
    have h2 : ((x.toNat : Int) * 2 ^ 32) % 4294967296 = 0 := by omega
    exact h2
theorem r_shl1 (k : IntKind) (n : Int) (h : 0 ≤ n) : Op.shift .shl .u32 1 k n = pure (.int .u32 ((1#32 <<< n.toNat).toNat : Int)) := r_shl 1#32 k n h
theorem r_shr (x : BitVec 32) (k : IntKind) (n : Int) (h : 0 ≤ n) : Op.shift .shr .u32 (x.toNat : Int) k n = pure (.int .u32 ((x >>> n.toNat).toNat : Int)) := by
  rw [shift_shr_any _ _ _ _ h]
  congr 2
  show (x.toNat : Int) / 2 ^ min n.toNat 32 = _
  rw [BitVec.toNat_ushiftRight, Nat.shiftRight_eq_div_pow]
  rcases Nat.lt_or_ge n.toNat 32 with hlt | hge
  · rw [Nat.min_eq_left (by omega), Int.natCast_ediv, Int.natCast_pow]
    rfl
  · rw [Nat.min_eq_right hge]
    have hx := x.isLt
    have h1 : x.toNat / 2 ^ n.toNat = 0 := Nat.div_eq_of_lt (Nat.lt_of_lt_of_le hx (Nat.pow_le_pow_right (by omega) hge))
    rw [h1]
    have h2 : ((x.toNat : Int)) / 2 ^ 32 = 0 := by omega
    exact h2
theorem r_sub (x y : BitVec 32) : Op.intArith .sub .u32 (x.toNat : Int) (y.toNat : Int) = pure (.int .u32 ((x - y).toNat : Int)) := by
  show pure (Value.int .u32 (IntKind.u32.wrap ((x.toNat : Int) - (y.toNat : Int)))) = _
  congr 2
  rw [IntKind.wrap_u32', BitVec.toNat_sub]
  have := x.isLt
  have := y.isLt
  omega
theorem r_add (x y : BitVec 32) : Op.intArith .add .u32 (x.toNat : Int) (y.toNat : Int) = pure (.int .u32 ((x + y).toNat : Int)) := by
  show pure (Value.int .u32 (IntKind.u32.wrap ((x.toNat : Int) + (y.toNat : Int)))) = _
  congr 2
theorem r_sub1 (x : BitVec 32) : Op.intArith .sub .u32 (x.toNat : Int) 1 = pure (.int .u32 ((x - 1#32).toNat : Int)) := r_sub x 1#32
theorem r_add1 (x : BitVec 32) : Op.intArith .add .u32 (x.toNat : Int) 1 = pure (.int .u32 ((x + 1#32).toNat : Int)) := r_add x 1#32

/-! The words as the walk sees them: behind names that simp does not open. -/
def wN (x : BitVec 32) : Int := (x.toNat : Int)
def wAnd (x y : BitVec 32) : BitVec 32 := x &&& y
def wOr (x y : BitVec 32) : BitVec 32 := x ||| y
def wXor (x y : BitVec 32) : BitVec 32 := x ^^^ y
def wBut (x y : BitVec 32) : BitVec 32 := x &&& ~~~y
def wShl (x : BitVec 32) (n : Nat) : BitVec 32 := x <<< n
def wShr (x : BitVec 32) (n : Nat) : BitVec 32 := x >>> n
def wSub (x y : BitVec 32) : BitVec 32 := x - y
def wAdd (x y : BitVec 32) : BitVec 32 := x + y
def w0 : BitVec 32 := 0#32
def w1 : BitVec 32 := 1#32
def w255 : BitVec 32 := 255#32
theorem w_and (x y : BitVec 32) : Op.intBits .and .u32 (wN x) (wN y) = pure (.int .u32 (wN (wAnd x y))) := r_and x y
theorem w_or (x y : BitVec 32) : Op.intBits .or .u32 (wN x) (wN y) = pure (.int .u32 (wN (wOr x y))) := r_or x y
theorem w_xor (x y : BitVec 32) : Op.intBits .xor .u32 (wN x) (wN y) = pure (.int .u32 (wN (wXor x y))) := r_xor x y
theorem w_andNot (x y : BitVec 32) : Op.intBits .andNot .u32 (wN x) (wN y) = pure (.int .u32 (wN (wBut x y))) := r_andNot x y
theorem w_and1 (x : BitVec 32) : Op.intBits .and .u32 (wN x) 1 = pure (.int .u32 (wN (wAnd x w1))) := r_and x 1#32
theorem w_and255 (x : BitVec 32) : Op.intBits .and .u32 (wN x) 255 = pure (.int .u32 (wN (wAnd x w255))) := r_and x 255#32
theorem w_xor1 (x : BitVec 32) : Op.intBits .xor .u32 (wN x) 1 = pure (.int .u32 (wN (wXor x w1))) := r_xor x 1#32
theorem w_or0 (x : BitVec 32) : Op.intBits .or .u32 0 (wN x) = pure (.int .u32 (wN x)) := r_or0 x
theorem w_shl (x : BitVec 32) (k : IntKind) (n : Int) (h : 0 ≤ n) : Op.shift .shl .u32 (wN x) k n = pure (.int .u32 (wN (wShl x n.toNat))) := r_shl x k n h
theorem w_shl1 (k : IntKind) (n : Int) (h : 0 ≤ n) : Op.shift .shl .u32 1 k n = pure (.int .u32 (wN (wShl w1 n.toNat))) := r_shl 1#32 k n h
theorem w_shr (x : BitVec 32) (k : IntKind) (n : Int) (h : 0 ≤ n) : Op.shift .shr .u32 (wN x) k n = pure (.int .u32 (wN (wShr x n.toNat))) := r_shr x k n h
theorem w_sub (x y : BitVec 32) : Op.intArith .sub .u32 (wN x) (wN y) = pure (.int .u32 (wN (wSub x y))) := r_sub x y
theorem w_add (x y : BitVec 32) : Op.intArith .add .u32 (wN x) (wN y) = pure (.int .u32 (wN (wAdd x y))) := r_add x y
theorem w_sub1 (x : BitVec 32) : Op.intArith .sub .u32 (wN x) 1 = pure (.int .u32 (wN (wSub x w1))) := r_sub x 1#32
theorem w_add1 (x : BitVec 32) : Op.intArith .add .u32 (wN x) 1 = pure (.int .u32 (wN (wAdd x w1))) := r_add x 1#32
theorem wN_nonneg (x : BitVec 32) : 0 ≤ wN x := by unfold wN; omega
theorem wN_lt (x : BitVec 32) : wN x < 4294967296 := by unfold wN; have := x.isLt; omega
theorem wN_0 : wN w0 = 0 := rfl
theorem wN_1 : wN w1 = 1 := rfl
theorem wN_inj {x y : BitVec 32} (h : wN x = wN y) : x = y := by
  apply BitVec.eq_of_toNat_eq; unfold wN at h; omega

/-- The word that an Int in the range of uint32 is. -/
def wordOf (n : Int) : BitVec 32 := BitVec.ofInt 32 n
theorem wN_wordOf {n : Int} (h0 : 0 ≤ n) (h1 : n ≤ 4294967295) : wN (wordOf n) = n := by
  obtain ⟨m, rfl⟩ := Int.eq_ofNat_of_zero_le h0
  unfold wordOf wN
  rw [BitVec.ofInt_natCast, BitVec.toNat_ofNat, Nat.mod_eq_of_lt (by omega)]

/-- 'Bit(w, i)'. -/
def bitB (x : BitVec 32) (i : Int) : Bool := decide (0 ≤ i) && x.getLsbD i.toNat
theorem bitB_nat (x : BitVec 32) (i : Nat) : bitB x i = x.getLsbD i := by simp [bitB]
theorem and_shl_ne (x : BitVec 32) (i : Nat) : (x &&& 1#32 <<< i != 0#32) = x.getLsbD i := by
  rw [Bool.eq_iff_iff, bne_iff_ne]
  constructor
  · intro h
    rcases hx : x.getLsbD i with _ | _
    · exfalso
      apply h
      apply BitVec.eq_of_getLsbD_eq
      intro j hj
      simp only [BitVec.getLsbD_and, BitVec.getLsbD_shiftLeft, BitVec.getLsbD_zero]
      by_cases hji : j = i
      · subst hji; simp [hx]
      · rcases Nat.lt_or_ge j i with h1 | h1
        · simp [h1]
        · have : ¬ j - i = 0 := by omega
          simp [BitVec.getLsbD_one, this]
    · rfl
  · intro h h0
    have h1 := congrArg (fun z : BitVec 32 => z.getLsbD i) h0
    simp only [BitVec.getLsbD_and, BitVec.getLsbD_shiftLeft, BitVec.getLsbD_zero, h] at h1
    have hi : i < 32 := by
      rcases Nat.lt_or_ge i 32 with hlt | hge
      · exact hlt
      · rw [BitVec.getLsbD_of_ge _ _ hge] at h; cases h
    simp [hi] at h1
theorem w_eq0 (x : BitVec 32) : (wN x == 0) = (x == w0) := by
  rw [Bool.eq_iff_iff, beq_iff_eq, beq_iff_eq]
  exact ⟨fun h => wN_inj h, fun h => by rw [h]; rfl⟩
theorem w_ne0 (x : BitVec 32) : (wN x != 0) = (x != w0) := by rw [bne, bne, w_eq0]
theorem w_eq1 (x : BitVec 32) : (wN x == 1) = (x == w1) := by
  rw [Bool.eq_iff_iff, beq_iff_eq, beq_iff_eq]
  exact ⟨fun h => wN_inj h, fun h => by rw [h]; rfl⟩
theorem w_eq (x y : BitVec 32) : (wN x == wN y) = (x == y) := by
  rw [Bool.eq_iff_iff, beq_iff_eq, beq_iff_eq]
  exact ⟨fun h => wN_inj h, fun h => by rw [h]⟩
theorem w_ne (x y : BitVec 32) : (wN x != wN y) = (x != y) := by rw [bne, bne, w_eq]

/-- The word at a place; 0 behind the end. -/
def lw (l : List (BitVec 32)) (j : Nat) : BitVec 32 := l.getD j w0
theorem lw_at (l : List (BitVec 32)) (k : Nat) (h : k < l.length) : lw l k = l[k] := getD_at l k h w0
/-! ### Bit by bit -/
theorem w_ext {x y : BitVec 32} (h : ∀ m, m < 32 → x.getLsbD m = y.getLsbD m) : x = y := BitVec.eq_of_getLsbD_eq fun i hi => h i hi
theorem b_ge (x : BitVec 32) {m : Nat} (h : 32 ≤ m) : x.getLsbD m = false := BitVec.getLsbD_of_ge _ _ h
theorem b_and (x y : BitVec 32) (m : Nat) : (wAnd x y).getLsbD m = (x.getLsbD m && y.getLsbD m) := BitVec.getLsbD_and
theorem b_or (x y : BitVec 32) (m : Nat) : (wOr x y).getLsbD m = (x.getLsbD m || y.getLsbD m) := BitVec.getLsbD_or
theorem b_xor (x y : BitVec 32) (m : Nat) : (wXor x y).getLsbD m = (x.getLsbD m ^^ y.getLsbD m) := BitVec.getLsbD_xor
theorem b_but (x y : BitVec 32) (m : Nat) : (wBut x y).getLsbD m = (x.getLsbD m && !y.getLsbD m) := by
  unfold wBut
  rw [BitVec.getLsbD_and, BitVec.getLsbD_not]
  rcases Nat.lt_or_ge m 32 with h | h
  · simp [h]
  · simp [BitVec.getLsbD_of_ge _ _ h]
theorem b_0 (m : Nat) : w0.getLsbD m = false := by simp [w0]
theorem b_1 (m : Nat) : w1.getLsbD m = decide (m = 0) := by
  unfold w1
  rw [BitVec.getLsbD_one]
  simp
theorem b_shl (x : BitVec 32) (n m : Nat) : (wShl x n).getLsbD m = (decide (m < 32) && !decide (m < n) && x.getLsbD (m - n)) := by
  unfold wShl
  rw [BitVec.getLsbD_shiftLeft]
theorem b_shr (x : BitVec 32) (n m : Nat) : (wShr x n).getLsbD m = x.getLsbD (n + m) := by
  unfold wShr
  rw [BitVec.getLsbD_ushiftRight]
theorem b_one (n m : Nat) : (wShl w1 n).getLsbD m = (decide (m < 32) && decide (m = n)) := by
  rw [b_shl, b_1]
  rcases Nat.lt_or_ge m n with h | h
  · have : ¬ m = n := by omega
    simp [h, this]
  · have e : (m - n = 0) = (m = n) := by simp only [eq_iff_iff]; omega
    have : ¬ m < n := by omega
    simp [this, e]
theorem wN_shl1 {n : Nat} (h : n < 32) : (wShl w1 n).toNat = 2 ^ n := by
  unfold wShl w1
  rw [BitVec.toNat_shiftLeft, Nat.shiftLeft_eq]
  have : 2 ^ n < 2 ^ 32 := Nat.pow_lt_pow_right (by omega) h
  rw [Nat.mod_eq_of_lt]
  · simp
  · simpa using this
def maskW (n : Nat) : BitVec 32 := wSub (wShl w1 n) w1
theorem toNat_mask {n : Nat} (h : n < 32) : (maskW n).toNat = 2 ^ n - 1 := by
  unfold maskW wSub
  rw [BitVec.toNat_sub, wN_shl1 h]
  have h1 : 2 ^ n < 2 ^ 32 := Nat.pow_lt_pow_right (by omega) h
  have h2 : 0 < 2 ^ n := Nat.two_pow_pos n
  have h3 : w1.toNat = 1 := rfl
  rw [h3]
  omega
theorem b_mask {n : Nat} (h : n < 32) (m : Nat) : (maskW n).getLsbD m = decide (m < n) := by
  rw [BitVec.getLsbD, toNat_mask h, Nat.testBit_two_pow_sub_one]
theorem shr_zero_iff (x : BitVec 32) (n : Nat) : (wShr x n != w0) = decide (2 ^ n ≤ x.toNat) := by
  have h : (wShr x n).toNat = x.toNat / 2 ^ n := by
    unfold wShr
    rw [BitVec.toNat_ushiftRight, Nat.shiftRight_eq_div_pow]
  rw [Bool.eq_iff_iff, bne_iff_ne, decide_eq_true_iff]
  constructor
  · intro hne
    rcases Nat.lt_or_ge x.toNat (2 ^ n) with hlt | hge
    · exfalso
      apply hne
      apply BitVec.eq_of_toNat_eq
      rw [h, Nat.div_eq_of_lt hlt]
      rfl
    · exact hge
  · intro hge he
    rw [he] at h
    have : 0 < x.toNat / 2 ^ n := Nat.div_pos hge (Nat.two_pow_pos n)
    have h0 : w0.toNat = 0 := rfl
    omega
theorem bit_lt {x : BitVec 32} {n m : Nat} (h : x.toNat < 2 ^ n) (hm : n ≤ m) : x.getLsbD m = false := by
  rw [BitVec.getLsbD]
  exact Nat.testBit_lt_two_pow (Nat.lt_of_lt_of_le h (Nat.pow_le_pow_right (by omega) hm))
theorem b_add {x : BitVec 32} {n : Nat} (hx : x.getLsbD n = false) (m : Nat) : (wAdd x (wShl w1 n)).getLsbD m = (x.getLsbD m || (wShl w1 n).getLsbD m) := by
  have h : x &&& wShl w1 n = 0#32 := by
    apply w_ext
    intro j hj
    have := b_and x (wShl w1 n) j
    unfold wAnd at this
    rw [this, b_one]
    by_cases hjn : j = n
    · subst hjn; simp [hx]
    · simp [hjn]
  unfold wAdd
  rw [BitVec.add_eq_or_of_and_eq_zero _ _ h]
  exact b_or x _ m
end Go.Proofs.Ytdinknpagklkjaa

/- Keys of maps: ints, words, pairs of ints. Conditions: none. -/
namespace Go.Proofs.Ytdinknpagklkjaa
open Go.RowKit

theorem keyL_int {P : Program} {t : TypeId} (h : P.underlying t = some (.int .i64)) : KeyL P t (fun n : Int => .int .i64 n) where
  chk b a w := MapKept.run_checkKey h (by simp [MapKept.IsKey]) b 9999
  eqv a b w := by
    unfold Op.equal
    rw [show Op.maxDepth = 9999 + 1 from rfl, run_equalIn_int w 9999 t .i64 .i64 a b h]
    rfl
  desc := ⟨_, h, .inr fun a b => by simp [Instr.sameNow]; rfl⟩
  self a := by simp [Instr.sameBits]
theorem keyL_word {P : Program} {t : TypeId} (h : P.underlying t = some (.int .u32)) : KeyL P t (fun x : BitVec 32 => .int .u32 (wN x)) where
  chk b a w := MapKept.run_checkKey h (by simp [MapKept.IsKey]) b 9999
  eqv a b w := by
    unfold Op.equal
    rw [show Op.maxDepth = 9999 + 1 from rfl, run_equalIn_int w 9999 t .u32 .u32 (wN a) (wN b) h, w_eq]
    rfl
  desc := ⟨_, h, .inr fun a b => by simp [Instr.sameNow, w_eq]; rfl⟩
  self a := by simp [Instr.sameBits]
end Go.Proofs.Ytdinknpagklkjaa

/- Keys of maps: pairs of ints. Conditions: none. -/
namespace Go.Proofs.Ytdinknpagklkjaa
open Go.RowKit

abbrev pairV (p : Int × Int) : Value := .agg #[.int .i64 p.1, .int .i64 p.2]
theorem keyL_pair : KeyL Try.prog 182 pairV where
  chk b a w := by
    obtain ⟨x, y⟩ := a
    kernel_rfl
  eqv a b w := by
    obtain ⟨x, y⟩ := a
    obtain ⟨x', y'⟩ := b
    unfold Op.equal
    rw [show Op.maxDepth = 9999 + 1 from rfl]
    rw [run_equalIn_agg w 9999 182 _ _ (by kernel_rfl) (by kernel_rfl)]
    have hag : ∀ W, (isAgg 3).run Try.prog W = .ok false W := fun W => by kernel_rfl
    have he := fun (W : World) (d : Nat) (p q : Int) => run_equalIn_int (P := Try.prog) W d 3 .i64 .i64 p q Try.underlying3
    by_cases h1 : x = x'
    · by_cases h2 : y = y'
      · subst h1 h2
        simp [Program.fieldsOf, Try.underlying182, Op.eqFields, part, hag, he, Result.andThen]
      · subst h1
        simp [Program.fieldsOf, Try.underlying182, Op.eqFields, part, hag, he, Result.andThen, h2]
    · simp [Program.fieldsOf, Try.underlying182, Op.eqFields, part, hag, he, Result.andThen, h1]
  desc := ⟨_, Try.underlying182, .inl fun a b => rfl⟩
  self a := by simp [Instr.sameBits]
end Go.Proofs.Ytdinknpagklkjaa

/- What a graph is told to be wrong: the one function graphCheck; the pair of an edge. Conditions: the edges read as a list. -/
namespace Go.Proofs.Ytdinknpagklkjaa
open Go.RowKit

structure Ed where
  a : Int
  b : Int
  w : Int
abbrev Ed.cells (e : Ed) : List Value := [.int .i64 e.a, .int .i64 e.b, .int .i64 e.w]
def Ed.of (p : Int × Int × Int) : Ed := ⟨p.1, p.2.1, p.2.2⟩
def Ed.pair (e : Ed) : Int × Int := (min e.a e.b, max e.a e.b)
def edgeCode (N : Int) (pre : List Ed) (e : Ed) : Int :=
  if e.a < 0 ∨ N ≤ e.a ∨ e.b < 0 ∨ N ≤ e.b then 2 else if e.a = e.b then 3 else if pre.any (fun f => f.pair == e.pair) then 3 else if e.w < -1048576 ∨ 1048576 < e.w then 4 else 0
def graphFrom (N : Int) : List Ed → List Ed → Int
  | _, [] => 0
  | pre, e :: l => if edgeCode N pre e = 0 then graphFrom N (pre ++ [e]) l else edgeCode N pre e
def graphCheck (N : Int) (l : List Ed) : Int := if N < 0 ∨ 10 < N ∨ 45 < l.length then 1 else graphFrom N [] l
theorem graph_round {N : Int} {l : List Ed} {k : Nat} (hk : k < l.length) (h : graphFrom N (l.take k) (l.drop k) = graphFrom N [] l) (e : Ed) (he : e = l[k]) :
    graphFrom N [] l = if edgeCode N (l.take k) e = 0 then graphFrom N (l.take (k + 1)) (l.drop (k + 1)) else edgeCode N (l.take k) e := by
  rw [← h, drop_at l k hk, graphFrom, ← he, he, List.take_succ_eq_append_getElem hk]

theorem graph_Of (e : Ed) (w : World) :
    Calls Try.prog 120 #[.agg #[.int .i64 e.a, .int .i64 e.b, .int .i64 e.w]] w fun r w' => r = .returned (.agg #[.int .i64 e.pair.1, .int .i64 e.pair.2]) ∧ Below w.heap.size w w' := by
  have H1 : Hid (e.pair.1 = if e.b < e.a then e.b else e.a) := by show min e.a e.b = _; rw [Int.min_def]; split <;> split <;> omega
  have H2 : Hid (e.pair.2 = if e.a < e.b then e.b else e.a) := by show max e.a e.b = _; rw [Int.max_def]; split <;> split <;> omega
  generalize e.pair.1 = p at H1 ⊢
  generalize e.pair.2 = q at H2 ⊢
  go_enter Try.func120, Try.ntmps120
  go_wp2
  all_goals
    refine bodyPost_ret (v := .agg #[.int .i64 p, .int .i64 q]) ?_ rfl ⟨rfl, ((Below.refl _ _).alloc (Nat.le_refl _) _).alloc (by simp) _⟩
    simp [results, Try.results120, go_sem]
    rw [H1.out, H2.out]
    constructor <;> split <;> omega

/-- What the map of pairs holds behind some edges. -/
def SeenIs (L : List ((Int × Int) × Value)) (pre : List Ed) : Prop :=
  ∀ p, getK L p = if pre.any (fun f => f.pair == p) then some (.int .i64 1) else none

theorem seen_put {L : List ((Int × Int) × Value)} {pre : List Ed} {e : Ed} (h : SeenIs L pre) : SeenIs (putK L e.pair (.int .i64 1)) (pre ++ [e]) := by
  intro p
  by_cases hp : p = e.pair
  · subst hp
    rw [getK_put_same, if_pos (by simp)]
  · rw [getK_put_other _ _ hp, h p, List.any_append]
    have : (e.pair == p) = false := by simpa using fun h => hp h.symm
    simp [this]

set_option maxRecDepth 100000 in
set_option maxHeartbeats 1000000 in
theorem graph_Check (N : Int) (A : Option Addr) (n c : Nat) (l : List Ed) (w : World) (hl : l.length = n) (hn : n ≤ maxLen) (hr : Els w w.heap.size 3 Ed.cells A l) :
    Calls Try.prog 92 #[.agg #[.int .i64 N, .slice A n c]] w fun e w' => e = .returned (.int .i64 (graphCheck N l)) ∧ Below w.heap.size w w' := by
  unfold maxLen at hn
  have HN : Hid (graphCheck N l = if N < 0 ∨ 10 < N ∨ 45 < n then 1 else graphFrom N [] l) := by subst hl; rfl
  have HL := Lib.hid hl
  clear hl
  have hbox := (Below.refl w.heap.size w).alloc (Nat.le_refl _) (.cells #[.int .i64 N, .slice A n c] 53)
  have HBX := Lib.hid hbox
  clear hbox
  have hmm := @run_makeMap Try.prog
  by_cases h1 : N < 0
  · go_enter Try.func92, Try.ntmps92
    go_wp2_with fail
    go_ret
    exact ⟨ret_i64 (by rw [HN.out, if_pos (by omega)]), HBX.out⟩
  by_cases h2 : 10 < N
  · go_enter Try.func92, Try.ntmps92
    go_wp2_with fail
    go_ret
    exact ⟨ret_i64 (by rw [HN.out, if_pos (by omega)]), HBX.out⟩
  by_cases h3 : 45 < n
  · go_enter Try.func92, Try.ntmps92
    go_wp2_with fail
    go_ret
    exact ⟨ret_i64 (by rw [HN.out, if_pos (by omega)]), HBX.out⟩
  have HM := Lib.hid (HN.out.trans (if_neg (by omega)))
  clear HN
  go_enter Try.func92, Try.ntmps92
  go_wp2_with fail
  go_loopw [25] (fun i wr => ∃ (k : Nat) (L : List ((Int × Int) × Value)), k ≤ n ∧ i = .int .i64 k ∧ Below w.heap.size w wr ∧ Blk wr w.heap.size 53 #[.int .i64 N, .slice A n c] ∧ MapB wr (w.heap.size + 1) pairV L ∧ SeenIs L (l.take k) ∧ graphFrom N (l.take k) (l.drop k) = graphFrom N [] l) (fun i _ => n - (intOf i).toNat)
  case atStart =>
    refine ⟨0, [], by omega, rfl, HBX.out.alloc HBX.out.size _, (Blk.new _ _ _).alloc _, ?_, fun p => rfl, rfl⟩
    have := MapB.made (kv := pairV) (w.alloc (.cells #[.int .i64 N, .slice A n c] 53))
    rwa [size_alloc'] at this
  case round =>
    obtain ⟨k, L, hk, rfl, hb, hblk, hmap, hseen, hgf⟩ := hrel
    have hsz := hb.size
    have hlt' := hblk.lt
    by_cases hlt : k < n
    · have hkl : k < l.length := by rw [HL.out]; exact hlt
      obtain ⟨b, off, rfl, hbb, g0, g1, g2⟩ := (hr.below hb).at3 hkl
      obtain ⟨e, he⟩ : ∃ e, e = l[k] := ⟨_, rfl⟩
      have HR := Lib.hid (graph_round hkl hgf e he)
      rw [← he] at g0 g1 g2
      have HE := Lib.hid he
      have HS := Lib.hid hseen
      have HG := Lib.hid hgf
      have hOf := graph_Of e
      have hP : (e.pair.1 = min e.a e.b) ∧ (e.pair.2 = max e.a e.b) := ⟨rfl, rfl⟩
      have hdup := hseen e.pair
      have hpeta : e.pair = (e.pair.1, e.pair.2) := rfl
      have HPE := Lib.hid hpeta
      have HDU : Hid ((l.take k).any (fun f => f.pair == e.pair) = (l.take k).any (fun f => f.pair == e.pair)) := rfl
      clear hgf he hseen hpeta
      generalize hp1 : e.pair.1 = p1 at hOf hP HPE
      generalize hp2 : e.pair.2 = p2 at hOf hP HPE
      rw [HPE.out] at hdup
      have HOF := Lib.hid hOf
      have HP := Lib.hid hP
      have HD := Lib.hid hdup
      clear hp1 hp2 hOf hP hdup HDU
      have hM0 := hmap.alloc (.cells #[.int .i64 e.a, .int .i64 e.b, .int .i64 e.w] 101)
      have hB0 := hblk.alloc (.cells #[.int .i64 e.a, .int .i64 e.b, .int .i64 e.w] 101)
      have hE0 := Blk.new wr 101 #[.int .i64 e.a, .int .i64 e.b, .int .i64 e.w]
      have hb0 := hb.alloc hsz (.cells #[.int .i64 e.a, .int .i64 e.b, .int .i64 e.w] 101)
      have HM0 := Lib.hid hM0
      have HB0 := Lib.hid hB0
      have HE0 := Lib.hid hE0
      have HBB := Lib.hid hb0
      have c0 := hblk.cell 0
      have c1 := hblk.cell 1
      have HMP := Lib.hid hmap
      clear hM0 hB0 hE0 hb0 hblk hmap
      go_wp2_with fail
      refine (HOF.out _).mono ?_
      rintro r w1 ⟨rfl, hb1⟩
      have hz1 := hb1.size
      have hM1 := HM0.out.below hb1 HM0.out.lt
      have hB1 := HB0.out.below hb1 HB0.out.lt
      have hE1 := HE0.out.below hb1 HE0.out.lt
      have hbb1 := HBB.out.trans (hb1.mono HBB.out.size)
      have d0 := (hB1.alloc (.cells #[.int .i64 p1, .int .i64 p2] 182)).cell 0
      have e0 := (hE1.alloc (.cells #[.int .i64 p1, .int .i64 p2] 182)).cell 0
      have e1 := (hE1.alloc (.cells #[.int .i64 p1, .int .i64 p2] 182)).cell 1
      have e2 := (hE1.alloc (.cells #[.int .i64 p1, .int .i64 p2] 182)).cell 2
      have hM2 := hM1.alloc (.cells #[.int .i64 p1, .int .i64 p2] 182)
      have hbb2 := hbb1.alloc hbb1.size (.cells #[.int .i64 p1, .int .i64 p2] 182)
      have hlook := run_look (P := Try.prog) keyL_pair Try.underlying180 (z := .int .i64 0) (fun u => by kernel_rfl) hM2 (p1, p2) false
      rw [HD.out] at hlook
      have HB2 := Lib.hid hbb2
      have HM2 := Lib.hid hM2
      have HB1 := Lib.hid hB1
      clear hM1 hB1 hE1 hbb1 hM2 hbb2 hb1
      by_cases q1 : p1 < 0
      · have HC : Hid (edgeCode N (l.take k) e = 2) := by
          show edgeCode N (l.take k) e = 2
          have := HP.out
          unfold edgeCode
          rw [if_pos (by omega)]
        go_wp2_with fail
        go_ret
        exact ⟨ret_i64 (by rw [HM.out, HR.out, HC.out]; rfl), HB2.out⟩
      by_cases q2 : N ≤ p2
      · have HC : Hid (edgeCode N (l.take k) e = 2) := by
          show edgeCode N (l.take k) e = 2
          have := HP.out
          unfold edgeCode
          rw [if_pos (by omega)]
        go_wp2_with fail
        go_ret
        exact ⟨ret_i64 (by rw [HM.out, HR.out, HC.out]; rfl), HB2.out⟩
      have HC := Lib.hid (show edgeCode N (l.take k) e = if e.a = e.b then 3 else if (l.take k).any (fun f => f.pair == e.pair) then 3 else if e.w < -1048576 ∨ 1048576 < e.w then 4 else 0 from by
        have := HP.out
        unfold edgeCode
        rw [if_neg (by omega)])
      by_cases q3 : p1 = p2
      · have q3' : (p1 == p2) = true := by simpa using q3
        have HC3 := Lib.hid (HC.out.trans (if_pos (by have := HP.out; omega)))
        clear q3 hlook
        go_wp2_with fail
        go_ret
        exact ⟨ret_i64 (by rw [HM.out, HR.out, HC3.out]; rfl), HB2.out⟩
      have q3' : (p1 == p2) = false := by simpa using q3
      have HC3 := Lib.hid (HC.out.trans (if_neg (by have := HP.out; omega)))
      clear q3
      rcases hd : (l.take k).any (fun f => f.pair == e.pair) with _ | _
      · rw [HPE.out] at hd
        have HDD := Lib.hid hd
        rw [hd] at hlook
        simp only [Bool.false_eq_true, if_false, Option.getD_none] at hlook
        clear hd
        have HC4 := Lib.hid (HC3.out.trans (if_neg (by rw [HPE.out, HDD.out]; simp)))
        by_cases q4 : e.w < -1048576
        · go_wp2_with fail
          go_ret
          exact ⟨ret_i64 (by rw [HM.out, HR.out, HC4.out.trans (if_pos (Or.inl q4))]; rfl), HB2.out⟩
        by_cases q5 : 1048576 < e.w
        · go_wp2_with fail
          go_ret
          exact ⟨ret_i64 (by rw [HM.out, HR.out, HC4.out.trans (if_pos (Or.inr q5))]; rfl), HB2.out⟩
        have HC5 := Lib.hid (HC4.out.trans (if_neg (by omega)))
        obtain ⟨W2, st, L1, hent, hM3, hget, hgrow2, hsz2, hst⟩ := run_entry (P := Try.prog) keyL_pair Try.underlying180 (z := .int .i64 0) (fun u => by kernel_rfl) HM2.out.drew (p1, p2)
        obtain ⟨W3, hst3, hM4, hgrow3, hsz3⟩ := hst W2 (.int .i64 1) rfl
        have hlookD := run_look (P := Try.prog) keyL_pair Try.underlying180 (z := .int .i64 0) (fun u => by kernel_rfl) HM2.out.drew (p1, p2) false
        have hlook2 := run_look (P := Try.prog) keyL_pair Try.underlying180 (z := .int .i64 0) (fun u => by kernel_rfl) hM3 (p1, p2) false
        rw [hget] at hlook2
        rw [HD.out, HDD.out] at hent hlookD hlook2
        simp only [Bool.false_eq_true, if_false, Option.getD_none, Option.getD_some] at hent hlookD hlook2
        have HM4 := Lib.hid hM4
        have HG2 := Lib.hid hgrow2
        have HG3 := Lib.hid hgrow3
        have HZ2 := Lib.hid hsz2
        have HZ3 := Lib.hid hsz3
        have HGET := Lib.hid hget
        clear hM4 hgrow2 hgrow3 hsz2 hsz3 hget hst hM3
        go_wp2_with fail
        go_region
        go_wp2_with fail
        go_roundw
        case rel =>
          have hbx := HB2.out.drew.grown HG2.out HB2.out.size (fun k hk => by cases hk; omega)
          have hby := hbx.grown HG3.out hbx.size (fun k hk => by cases hk; omega)
          refine ⟨k + 1, putK L (p1, p2) (.int .i64 1), by omega, by go_num, hby, (((HB1.out.alloc _).drew).grown HG2.out (by simp)).grown HG3.out (by simp), HM4.out, ?_, ?_⟩
          · have := seen_put (e := e) HS.out
            rw [HPE.out] at this
            rw [List.take_succ_eq_append_getElem hkl, ← HE.out]
            exact this
          · rw [HR.out, HC5.out]; rfl
        case measure => simp [intOf]; omega
      · rw [HPE.out] at hd
        have HDD := Lib.hid hd
        rw [hd] at hlook
        simp only [if_true, Option.getD_some, Bool.false_eq_true, if_false] at hlook
        clear hd
        go_wp2_with fail
        go_ret
        exact ⟨ret_i64 (by rw [HM.out, HR.out, HC3.out, HPE.out, HDD.out]; rfl), HB2.out⟩
    · have hl' : l.drop k = [] := List.drop_eq_nil_of_le (by rw [HL.out]; omega)
      rw [hl'] at hgf
      have HK := Lib.hid hgf
      clear hgf
      go_wp2_with fail
      go_ret
      exact ⟨ret_i64 (by rw [HM.out, ← HK.out]; rfl), hb⟩
end Go.Proofs.Ytdinknpagklkjaa

/- What Bit, Size and OnesCount32 compute of a word. Conditions: none. -/
namespace Go.Proofs.Ytdinknpagklkjaa
open Go.RowKit
attribute [local go_sem ↓] w_and w_or w_xor w_andNot w_and1 w_and255 w_xor1 w_or0 w_shl w_shl1 w_shr w_sub w_add w_sub1 w_add1
attribute [local go_sem] w_eq0 w_ne0 w_eq1 w_eq w_ne

theorem Bit_any (x : BitVec 32) (i : Int) (w : World) :
    Calls Try.prog 15 #[.int .u32 (wN x), .int .i64 i] w fun e w' => e = .returned (.bool (bitB x i)) ∧ w = w' := by
  by_cases h0 : 0 ≤ i
  · by_cases h1 : i < 32
    · obtain ⟨n, rfl⟩ := Int.eq_ofNat_of_zero_le h0
      go_enter Try.func15, Try.ntmps15
      go_wp2
      go_ret
      refine ⟨ret_bool ?_, rfl⟩
      rw [bitB_nat]
      exact and_shl_ne x n
    · go_enter Try.func15, Try.ntmps15
      go_wp2
      go_ret
      refine ⟨ret_bool ?_, rfl⟩
      have : bitB x i = false := by
        unfold bitB
        rw [BitVec.getLsbD_of_ge _ _ (by omega)]
        simp
      rw [this]
  · go_enter Try.func15, Try.ntmps15
    go_wp2
    go_ret
    refine ⟨ret_bool ?_, rfl⟩
    have : bitB x i = false := by
      unfold bitB
      rw [decide_eq_false (by omega)]; rfl
    rw [this]

/-- How many of the first k bits are set; of all. -/
def popTo (x : BitVec 32) (k : Nat) : Nat := (List.range k).countP fun i => x.getLsbD i
def pop (x : BitVec 32) : Nat := popTo x 32
theorem popTo_succ (x : BitVec 32) (k : Nat) : popTo x (k + 1) = popTo x k + if bitB x k = true then 1 else 0 := by
  unfold popTo
  rw [List.range_succ, List.countP_append, bitB_nat]
  simp [List.countP_cons]
theorem popTo_le (x : BitVec 32) (k : Nat) : popTo x k ≤ k := by
  have := List.countP_le_length (p := fun i => x.getLsbD i) (l := List.range k)
  simpa [popTo] using this

theorem Size_any (x : BitVec 32) (w : World) :
    Calls Try.prog 27 #[.int .u32 (wN x)] w fun e w' => e = .returned (.int .i64 (pop x)) ∧ w = w' := by
  go_enter Try.func27, Try.ntmps27
  go_wp2_with fail
  go_loop [3, 4] (fun n i => ∃ k : Nat, k ≤ 32 ∧ i = .int .i64 k ∧ n = .int .i64 (popTo x k)) (fun _ i => 32 - (intOf i).toNat)
  case atStart => exact ⟨0, by omega, rfl, rfl⟩
  case round =>
    obtain ⟨k, hk, rfl, rfl⟩ := hrel
    have hp := popTo_le x k
    have HS := Lib.hid (popTo_succ x k)
    by_cases hlt : k < 32
    · go_wp2_with (go_at_call 15; refine (Bit_any x k _).mono ?_; rintro e w' ⟨rfl, rfl⟩)
      all_goals
        go_round
        case rel => exact ⟨k + 1, by omega, by go_num, by rw [HS.out]; first | (rw [if_pos ‹_›]; go_num) | (rw [if_neg (by simp [‹_›])]; go_num)⟩
        case measure => simp [intOf]; omega
    · obtain rfl : k = 32 := by omega
      go_wp2_with fail
      go_ret
      exact ⟨rfl, rfl⟩

def PopTab (s : ByteArray) : Prop := s.size = 256 ∧ ∀ i : Fin 256, (s.data[i.val]?.getD 0).toNat = pop (BitVec.ofNat 32 i.val)
theorem popTab_lit : PopTab ⟨#[0, 1, 1, 2, 1, 2, 2, 3, 1, 2, 2, 3, 2, 3, 3, 4, 1, 2, 2, 3, 2, 3, 3, 4, 2, 3, 3, 4, 3, 4, 4, 5, 1, 2, 2, 3, 2, 3, 3, 4, 2, 3, 3, 4, 3, 4, 4, 5, 2, 3, 3, 4, 3, 4, 4, 5, 3, 4, 4, 5, 4, 5, 5, 6, 1, 2, 2, 3, 2, 3, 3, 4, 2, 3, 3, 4, 3, 4, 4, 5, 2, 3, 3, 4, 3, 4, 4, 5, 3, 4, 4, 5, 4, 5, 5, 6, 2, 3, 3, 4, 3, 4, 4, 5, 3, 4, 4, 5, 4, 5, 5, 6, 3, 4, 4, 5, 4, 5, 5, 6, 4, 5, 5, 6, 5, 6, 6, 7, 1, 2, 2, 3, 2, 3, 3, 4, 2, 3, 3, 4, 3, 4, 4, 5, 2, 3, 3, 4, 3, 4, 4, 5, 3, 4, 4, 5, 4, 5, 5, 6, 2, 3, 3, 4, 3, 4, 4, 5, 3, 4, 4, 5, 4, 5, 5, 6, 3, 4, 4, 5, 4, 5, 5, 6, 4, 5, 5, 6, 5, 6, 6, 7, 2, 3, 3, 4, 3, 4, 4, 5, 3, 4, 4, 5, 4, 5, 5, 6, 3, 4, 4, 5, 4, 5, 5, 6, 4, 5, 5, 6, 5, 6, 6, 7, 3, 4, 4, 5, 4, 5, 5, 6, 4, 5, 5, 6, 5, 6, 6, 7, 4, 5, 5, 6, 5, 6, 6, 7, 5, 6, 6, 7, 6, 7, 7, 8]⟩ := ⟨by decide +kernel, by decide +kernel⟩
theorem pop_index {P : Program} (t : TypeId) (s : ByteArray) (y : BitVec 32) (w : World) (ht : P.underlying t = some .string) (hs : PopTab s) (hy : y.toNat < 256) :
    (Instr.index t (.string s) (.int .u32 (wN y))).run P w = .ok (.int .u8 (pop y)) w := by
  have hz := hs.1
  have hy' : wN y < 256 := by show (y.toNat : Int) < 256; omega
  have hb : 0 ≤ wN y ∧ wN y < s.size := ⟨wN_nonneg y, by rw [hz]; exact hy'⟩
  rw [run_index_string w t s .u32 _ ht, dif_pos hb]
  congr 2
  have h := hs.2 ⟨y.toNat, hy⟩
  have e : (wN y).toNat = y.toNat := by unfold wN; omega
  have hlt : y.toNat < s.data.size := by have h1 : s.data.size = 256 := hz; omega
  simp only [Array.getElem?_eq_getElem hlt, Option.getD_some, BitVec.ofNat_toNat, BitVec.setWidth_eq] at h
  rw [← h]
  simp only [e]
  rfl
theorem byte_lt (x : BitVec 32) : (wAnd x w255).toNat < 256 := by
  unfold wAnd w255
  rw [BitVec.toNat_and]
  exact Nat.lt_of_le_of_lt Nat.and_le_right (by decide)
theorem top_lt (x : BitVec 32) : (wShr x 24).toNat < 256 := by
  unfold wShr
  rw [BitVec.toNat_ushiftRight, Nat.shiftRight_eq_div_pow]
  have := x.isLt
  omega
theorem w255_bit (i : Nat) : w255.getLsbD i = decide (i < 8) := Nat.testBit_two_pow_sub_one 8 i
theorem byte_bit (x : BitVec 32) (s i : Nat) : (wAnd (wShr x s) w255).getLsbD i = (x.getLsbD (s + i) && decide (i < 8)) := by
  unfold wAnd wShr
  rw [BitVec.getLsbD_and, BitVec.getLsbD_ushiftRight, w255_bit]
theorem pop_byte (x : BitVec 32) (s : Nat) : pop (wAnd (wShr x s) w255) = (List.range 8).countP fun i => x.getLsbD (s + i) := by
  show (List.range (8 + 24)).countP _ = _
  rw [List.range_add, List.countP_append, List.countP_map]
  rw [show (List.countP ((fun i => (wAnd (wShr x s) w255).getLsbD i) ∘ fun x => 8 + x) (List.range 24)) = 0 from by
    rw [List.countP_eq_zero]
    intro a _
    simp [byte_bit]]
  rw [Nat.add_zero]
  refine List.countP_congr fun i hi => ?_
  have : i < 8 := List.mem_range.1 hi
  simp [byte_bit, this]
theorem pop_low (x : BitVec 32) : pop (wAnd x w255) = (List.range 8).countP fun i => x.getLsbD i := by
  have h := pop_byte x 0
  have e : wShr x 0 = x := by unfold wShr; simp
  rw [e] at h
  simpa using h
theorem pop_top (x : BitVec 32) : pop (wShr x 24) = (List.range 8).countP fun i => x.getLsbD (24 + i) := by
  show (List.range (8 + 24)).countP _ = _
  rw [List.range_add, List.countP_append, List.countP_map]
  rw [show (List.countP ((fun i => (wShr x 24).getLsbD i) ∘ fun x => 8 + x) (List.range 24)) = 0 from by
    rw [List.countP_eq_zero]
    intro a _
    simp only [Function.comp, wShr, BitVec.getLsbD_ushiftRight]
    rw [BitVec.getLsbD_of_ge _ _ (by omega)]
    simp]
  rw [Nat.add_zero]
  refine List.countP_congr fun i hi => ?_
  simp only [wShr, BitVec.getLsbD_ushiftRight]
theorem pop_split (x : BitVec 32) : pop x = pop (wShr x 24) + pop (wAnd (wShr x 16) w255) + pop (wAnd (wShr x 8) w255) + pop (wAnd x w255) := by
  rw [pop_top, pop_byte, pop_byte, pop_low]
  show (List.range (8 + (8 + (8 + 8)))).countP _ = _
  rw [List.range_add, List.countP_append, List.countP_map, List.range_add, List.countP_append, List.countP_map, List.range_add, List.countP_append, List.countP_map]
  simp only [Function.comp_def, ← Nat.add_assoc, Nat.reduceAdd]
  show List.countP (fun i => x.getLsbD i) (List.range 8) + _ + _ + _ = _
  omega
theorem pop_le (x : BitVec 32) : pop x ≤ 32 := popTo_le x 32

end Go.Proofs.Ytdinknpagklkjaa
