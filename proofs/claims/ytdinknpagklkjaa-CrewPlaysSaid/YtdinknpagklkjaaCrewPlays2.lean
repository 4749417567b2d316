/- Words of 32 bits in a walk: the operations on '.int .u32' as operations on BitVec 32. Conditions: none. -/
import Derived.Test.YtdinknpagklkjaaCrewPlays1
import Derived.Test.YtdinknpagklkjaaProg
namespace Go.Proofs.Ytdinknpagklkjaa
open Go.RowKit

theorem ofInt_w (x : BitVec 32) : BitVec.ofInt 32 (x.toNat : Int) = x := by
  rw [BitVec.ofInt_natCast, BitVec.ofNat_toNat, BitVec.setWidth_eq]
theorem wrap_w (r : BitVec 32) : IntKind.u32.wrap (r.toNat : Int) = (r.toNat : Int) := by
  rw [IntKind.wrap_u32']
  have := r.isLt
  omega
theorem r_and (x y : BitVec 32) : Op.intBits .and .u32 (x.toNat : Int) (y.toNat : Int) = pure (.int .u32 ((x &&& y).toNat : Int)) := by
  show pure (Value.int .u32 (IntKind.u32.wrap ((BitVec.ofInt 32 (x.toNat : Int) &&& BitVec.ofInt 32 (y.toNat : Int)).toNat : Int))) = _
  rw [ofInt_w, ofInt_w, wrap_w]
theorem r_or (x y : BitVec 32) : Op.intBits .or .u32 (x.toNat : Int) (y.toNat : Int) = pure (.int .u32 ((x ||| y).toNat : Int)) := by
  show pure (Value.int .u32 (IntKind.u32.wrap ((BitVec.ofInt 32 (x.toNat : Int) ||| BitVec.ofInt 32 (y.toNat : Int)).toNat : Int))) = _
  rw [ofInt_w, ofInt_w, wrap_w]
theorem r_xor (x y : BitVec 32) : Op.intBits .xor .u32 (x.toNat : Int) (y.toNat : Int) = pure (.int .u32 ((x ^^^ y).toNat : Int)) := by
  show pure (Value.int .u32 (IntKind.u32.wrap ((BitVec.ofInt 32 (x.toNat : Int) ^^^ BitVec.ofInt 32 (y.toNat : Int)).toNat : Int))) = _
  rw [ofInt_w, ofInt_w, wrap_w]
theorem r_andNot (x y : BitVec 32) : Op.intBits .andNot .u32 (x.toNat : Int) (y.toNat : Int) = pure (.int .u32 ((x &&& ~~~y).toNat : Int)) := by
  show pure (Value.int .u32 (IntKind.u32.wrap ((BitVec.ofInt 32 (x.toNat : Int) &&& ~~~BitVec.ofInt 32 (y.toNat : Int)).toNat : Int))) = _
  rw [ofInt_w, ofInt_w, wrap_w]
theorem r_and1 (x : BitVec 32) : Op.intBits .and .u32 (x.toNat : Int) 1 = pure (.int .u32 ((x &&& 1#32).toNat : Int)) := r_and x 1#32
theorem r_and255 (x : BitVec 32) : Op.intBits .and .u32 (x.toNat : Int) 255 = pure (.int .u32 ((x &&& 255#32).toNat : Int)) := r_and x 255#32
theorem r_xor1 (x : BitVec 32) : Op.intBits .xor .u32 (x.toNat : Int) 1 = pure (.int .u32 ((x ^^^ 1#32).toNat : Int)) := r_xor x 1#32
theorem r_or0 (x : BitVec 32) : Op.intBits .or .u32 0 (x.toNat : Int) = pure (.int .u32 ((x).toNat : Int)) := by
  rw [show (0 : Int) = ((0#32).toNat : Int) from rfl, r_or]
  congr 3
  simp
theorem r_shl (x : BitVec 32) (k : IntKind) (n : Int) (h : 0 ≤ n) : Op.shift .shl .u32 (x.toNat : Int) k n = pure (.int .u32 ((x <<< n.toNat).toNat : Int)) := by
  rw [shift_shl_any _ _ _ _ h]
  congr 2
  show IntKind.u32.wrap ((x.toNat : Int) * 2 ^ min n.toNat 32) = _
  rw [IntKind.wrap_u32', BitVec.toNat_shiftLeft, Nat.shiftLeft_eq]
  rcases Nat.lt_or_ge n.toNat 32 with hlt | hge
  · rw [Nat.min_eq_left (by omega), Int.natCast_emod, Int.natCast_mul, Int.natCast_pow]
    rfl
  · rw [Nat.min_eq_right hge]
    obtain ⟨d, hd⟩ : ∃ d, n.toNat = 32 + d := ⟨n.toNat - 32, by omega⟩
    have h1 : x.toNat * 2 ^ n.toNat % 2 ^ 32 = 0 := by
      rw [hd, Nat.pow_add, ← Nat.mul_assoc, Nat.mul_right_comm]
      exact Nat.mul_mod_left _ _
    rw [h1]
    have h2 : ((x.toNat : Int) * 2 ^ 32) % 4294967296 = 0 := by omega
    exact h2
theorem r_shl1 (k : IntKind) (n : Int) (h : 0 ≤ n) : Op.shift .shl .u32 1 k n = pure (.int .u32 ((1#32 <<< n.toNat).toNat : Int)) := r_shl 1#32 k n h
theorem r_shr (x : BitVec 32) (k : IntKind) (n : Int) (h : 0 ≤ n) : Op.shift .shr .u32 (x.toNat : Int) k n = pure (.int .u32 ((x >>> n.toNat).toNat : Int)) := by
  rw [shift_shr_any _ _ _ _ h]
  congr 2
  show (x.toNat : Int) / 2 ^ min n.toNat 32 = _
  rw [BitVec.toNat_ushiftRight, Nat.shiftRight_eq_div_pow]
  rcases Nat.lt_or_ge n.toNat 32 with hlt | hge
  · rw [Nat.min_eq_left (by omega), Int.natCast_ediv, Int.natCast_pow]
    rfl
  · rw [Nat.min_eq_right hge]
    have hx := x.isLt
    have h1 : x.toNat / 2 ^ n.toNat = 0 := Nat.div_eq_of_lt (Nat.lt_of_lt_of_le hx (Nat.pow_le_pow_right (by omega) hge))
    rw [h1]
    have h2 : ((x.toNat : Int)) / 2 ^ 32 = 0 := by omega
    exact h2
theorem r_sub (x y : BitVec 32) : Op.intArith .sub .u32 (x.toNat : Int) (y.toNat : Int) = pure (.int .u32 ((x - y).toNat : Int)) := by
  show pure (Value.int .u32 (IntKind.u32.wrap ((x.toNat : Int) - (y.toNat : Int)))) = _
  congr 2
  rw [IntKind.wrap_u32', BitVec.toNat_sub]
  have := x.isLt
  have := y.isLt
  omega
theorem r_add (x y : BitVec 32) : Op.intArith .add .u32 (x.toNat : Int) (y.toNat : Int) = pure (.int .u32 ((x + y).toNat : Int)) := by
  show pure (Value.int .u32 (IntKind.u32.wrap ((x.toNat : Int) + (y.toNat : Int)))) = _
  congr 2
theorem r_sub1 (x : BitVec 32) : Op.intArith .sub .u32 (x.toNat : Int) 1 = pure (.int .u32 ((x - 1#32).toNat : Int)) := r_sub x 1#32
theorem r_add1 (x : BitVec 32) : Op.intArith .add .u32 (x.toNat : Int) 1 = pure (.int .u32 ((x + 1#32).toNat : Int)) := r_add x 1#32

/-! The words as the walk sees them: behind names that simp does not open. -/
def wN (x : BitVec 32) : Int := (x.toNat : Int)
def wAnd (x y : BitVec 32) : BitVec 32 := x &&& y
def wOr (x y : BitVec 32) : BitVec 32 := x ||| y
def wXor (x y : BitVec 32) : BitVec 32 := x ^^^ y
def wBut (x y : BitVec 32) : BitVec 32 := x &&& ~~~y
def wShl (x : BitVec 32) (n : Nat) : BitVec 32 := x <<< n
def wShr (x : BitVec 32) (n : Nat) : BitVec 32 := x >>> n
def wSub (x y : BitVec 32) : BitVec 32 := x - y
def wAdd (x y : BitVec 32) : BitVec 32 := x + y
def w0 : BitVec 32 := 0#32
def w1 : BitVec 32 := 1#32
def w255 : BitVec 32 := 255#32
theorem w_and (x y : BitVec 32) : Op.intBits .and .u32 (wN x) (wN y) = pure (.int .u32 (wN (wAnd x y))) := r_and x y
theorem w_or (x y : BitVec 32) : Op.intBits .or .u32 (wN x) (wN y) = pure (.int .u32 (wN (wOr x y))) := r_or x y
theorem w_xor (x y : BitVec 32) : Op.intBits .xor .u32 (wN x) (wN y) = pure (.int .u32 (wN (wXor x y))) := r_xor x y
theorem w_andNot (x y : BitVec 32) : Op.intBits .andNot .u32 (wN x) (wN y) = pure (.int .u32 (wN (wBut x y))) := r_andNot x y
theorem w_and1 (x : BitVec 32) : Op.intBits .and .u32 (wN x) 1 = pure (.int .u32 (wN (wAnd x w1))) := r_and x 1#32
theorem w_and255 (x : BitVec 32) : Op.intBits .and .u32 (wN x) 255 = pure (.int .u32 (wN (wAnd x w255))) := r_and x 255#32
theorem w_xor1 (x : BitVec 32) : Op.intBits .xor .u32 (wN x) 1 = pure (.int .u32 (wN (wXor x w1))) := r_xor x 1#32
theorem w_or0 (x : BitVec 32) : Op.intBits .or .u32 0 (wN x) = pure (.int .u32 (wN x)) := r_or0 x
theorem w_shl (x : BitVec 32) (k : IntKind) (n : Int) (h : 0 ≤ n) : Op.shift .shl .u32 (wN x) k n = pure (.int .u32 (wN (wShl x n.toNat))) := r_shl x k n h
theorem w_shl1 (k : IntKind) (n : Int) (h : 0 ≤ n) : Op.shift .shl .u32 1 k n = pure (.int .u32 (wN (wShl w1 n.toNat))) := r_shl 1#32 k n h
theorem w_shr (x : BitVec 32) (k : IntKind) (n : Int) (h : 0 ≤ n) : Op.shift .shr .u32 (wN x) k n = pure (.int .u32 (wN (wShr x n.toNat))) := r_shr x k n h
theorem w_sub (x y : BitVec 32) : Op.intArith .sub .u32 (wN x) (wN y) = pure (.int .u32 (wN (wSub x y))) := r_sub x y
theorem w_add (x y : BitVec 32) : Op.intArith .add .u32 (wN x) (wN y) = pure (.int .u32 (wN (wAdd x y))) := r_add x y
theorem w_sub1 (x : BitVec 32) : Op.intArith .sub .u32 (wN x) 1 = pure (.int .u32 (wN (wSub x w1))) := r_sub x 1#32
theorem w_add1 (x : BitVec 32) : Op.intArith .add .u32 (wN x) 1 = pure (.int .u32 (wN (wAdd x w1))) := r_add x 1#32
theorem wN_nonneg (x : BitVec 32) : 0 ≤ wN x := by unfold wN; omega
theorem wN_lt (x : BitVec 32) : wN x < 4294967296 := by unfold wN; have := x.isLt; omega
theorem wN_0 : wN w0 = 0 := rfl
theorem wN_1 : wN w1 = 1 := rfl
theorem wN_inj {x y : BitVec 32} (h : wN x = wN y) : x = y := by
  apply BitVec.eq_of_toNat_eq; unfold wN at h; omega

/-- The word that an Int in the range of uint32 is. -/
def wordOf (n : Int) : BitVec 32 := BitVec.ofInt 32 n
theorem wN_wordOf {n : Int} (h0 : 0 ≤ n) (h1 : n ≤ 4294967295) : wN (wordOf n) = n := by
  obtain ⟨m, rfl⟩ := Int.eq_ofNat_of_zero_le h0
  unfold wordOf wN
  rw [BitVec.ofInt_natCast, BitVec.toNat_ofNat, Nat.mod_eq_of_lt (by omega)]

/-- 'Bit(w, i)'. -/
def bitB (x : BitVec 32) (i : Int) : Bool := decide (0 ≤ i) && x.getLsbD i.toNat
theorem bitB_nat (x : BitVec 32) (i : Nat) : bitB x i = x.getLsbD i := by simp [bitB]
theorem and_shl_ne (x : BitVec 32) (i : Nat) : (x &&& 1#32 <<< i != 0#32) = x.getLsbD i := by
  rw [Bool.eq_iff_iff, bne_iff_ne]
  constructor
  · intro h
    rcases hx : x.getLsbD i with _ | _
    · exfalso
      apply h
      apply BitVec.eq_of_getLsbD_eq
      intro j hj
      simp only [BitVec.getLsbD_and, BitVec.getLsbD_shiftLeft, BitVec.getLsbD_zero]
      by_cases hji : j = i
      · subst hji; simp [hx]
      · rcases Nat.lt_or_ge j i with h1 | h1
        · simp [h1]
        · have : ¬ j - i = 0 := by omega
          simp [BitVec.getLsbD_one, this]
    · rfl
  · intro h h0
    have h1 := congrArg (fun z : BitVec 32 => z.getLsbD i) h0
    simp only [BitVec.getLsbD_and, BitVec.getLsbD_shiftLeft, BitVec.getLsbD_zero, h] at h1
    have hi : i < 32 := by
      rcases Nat.lt_or_ge i 32 with hlt | hge
      · exact hlt
      · rw [BitVec.getLsbD_of_ge _ _ hge] at h; cases h
    simp [hi] at h1
theorem w_eq0 (x : BitVec 32) : (wN x == 0) = (x == w0) := by
  rw [Bool.eq_iff_iff, beq_iff_eq, beq_iff_eq]
  exact ⟨fun h => wN_inj h, fun h => by rw [h]; rfl⟩
theorem w_ne0 (x : BitVec 32) : (wN x != 0) = (x != w0) := by rw [bne, bne, w_eq0]
theorem w_eq1 (x : BitVec 32) : (wN x == 1) = (x == w1) := by
  rw [Bool.eq_iff_iff, beq_iff_eq, beq_iff_eq]
  exact ⟨fun h => wN_inj h, fun h => by rw [h]; rfl⟩
theorem w_eq (x y : BitVec 32) : (wN x == wN y) = (x == y) := by
  rw [Bool.eq_iff_iff, beq_iff_eq, beq_iff_eq]
  exact ⟨fun h => wN_inj h, fun h => by rw [h]⟩
theorem w_ne (x y : BitVec 32) : (wN x != wN y) = (x != y) := by rw [bne, bne, w_eq]

/-- The word at a place; 0 behind the end. -/
def lw (l : List (BitVec 32)) (j : Nat) : BitVec 32 := l.getD j w0
theorem lw_at (l : List (BitVec 32)) (k : Nat) (h : k < l.length) : lw l k = l[k] := getD_at l k h w0
/-! ### Bit by bit -/
theorem w_ext {x y : BitVec 32} (h : ∀ m, m < 32 → x.getLsbD m = y.getLsbD m) : x = y := BitVec.eq_of_getLsbD_eq fun i hi => h i hi
theorem b_ge (x : BitVec 32) {m : Nat} (h : 32 ≤ m) : x.getLsbD m = false := BitVec.getLsbD_of_ge _ _ h
theorem b_and (x y : BitVec 32) (m : Nat) : (wAnd x y).getLsbD m = (x.getLsbD m && y.getLsbD m) := BitVec.getLsbD_and
theorem b_or (x y : BitVec 32) (m : Nat) : (wOr x y).getLsbD m = (x.getLsbD m || y.getLsbD m) := BitVec.getLsbD_or
theorem b_xor (x y : BitVec 32) (m : Nat) : (wXor x y).getLsbD m = (x.getLsbD m ^^ y.getLsbD m) := BitVec.getLsbD_xor
theorem b_but (x y : BitVec 32) (m : Nat) : (wBut x y).getLsbD m = (x.getLsbD m && !y.getLsbD m) := by
  unfold wBut
  rw [BitVec.getLsbD_and, BitVec.getLsbD_not]
  rcases Nat.lt_or_ge m 32 with h | h
  · simp [h]
  · simp [BitVec.getLsbD_of_ge _ _ h]
theorem b_0 (m : Nat) : w0.getLsbD m = false := by simp [w0]
theorem b_1 (m : Nat) : w1.getLsbD m = decide (m = 0) := by
  unfold w1
  rw [BitVec.getLsbD_one]
  simp
theorem b_shl (x : BitVec 32) (n m : Nat) : (wShl x n).getLsbD m = (decide (m < 32) && !decide (m < n) && x.getLsbD (m - n)) := by
  unfold wShl
  rw [BitVec.getLsbD_shiftLeft]
theorem b_shr (x : BitVec 32) (n m : Nat) : (wShr x n).getLsbD m = x.getLsbD (n + m) := by
  unfold wShr
  rw [BitVec.getLsbD_ushiftRight]
theorem b_one (n m : Nat) : (wShl w1 n).getLsbD m = (decide (m < 32) && decide (m = n)) := by
  rw [b_shl, b_1]
  rcases Nat.lt_or_ge m n with h | h
  · have : ¬ m = n := by omega
    simp [h, this]
  · have e : (m - n = 0) = (m = n) := by simp only [eq_iff_iff]; omega
    have : ¬ m < n := by omega
    simp [this, e]
theorem wN_shl1 {n : Nat} (h : n < 32) : (wShl w1 n).toNat = 2 ^ n := by
  unfold wShl w1
  rw [BitVec.toNat_shiftLeft, Nat.shiftLeft_eq]
  have : 2 ^ n < 2 ^ 32 := Nat.pow_lt_pow_right (by omega) h
  rw [Nat.mod_eq_of_lt]
  · simp
  · simpa using this
def maskW (n : Nat) : BitVec 32 := wSub (wShl w1 n) w1
theorem toNat_mask {n : Nat} (h : n < 32) : (maskW n).toNat = 2 ^ n - 1 := by
  unfold maskW wSub
  rw [BitVec.toNat_sub, wN_shl1 h]
  have h1 : 2 ^ n < 2 ^ 32 := Nat.pow_lt_pow_right (by omega) h
  have h2 : 0 < 2 ^ n := Nat.two_pow_pos n
  have h3 : w1.toNat = 1 := rfl
  rw [h3]
  omega
theorem b_mask {n : Nat} (h : n < 32) (m : Nat) : (maskW n).getLsbD m = decide (m < n) := by
  rw [BitVec.getLsbD, toNat_mask h, Nat.testBit_two_pow_sub_one]
theorem shr_zero_iff (x : BitVec 32) (n : Nat) : (wShr x n != w0) = decide (2 ^ n ≤ x.toNat) := by
  have h : (wShr x n).toNat = x.toNat / 2 ^ n := by
    unfold wShr
    rw [BitVec.toNat_ushiftRight, Nat.shiftRight_eq_div_pow]
  rw [Bool.eq_iff_iff, bne_iff_ne, decide_eq_true_iff]
  constructor
  · intro hne
    rcases Nat.lt_or_ge x.toNat (2 ^ n) with hlt | hge
    · exfalso
      apply hne
      apply BitVec.eq_of_toNat_eq
      rw [h, Nat.div_eq_of_lt hlt]
      rfl
    · exact hge
  · intro hge he
    rw [he] at h
    have : 0 < x.toNat / 2 ^ n := Nat.div_pos hge (Nat.two_pow_pos n)
    have h0 : w0.toNat = 0 := rfl
    omega
theorem bit_lt {x : BitVec 32} {n m : Nat} (h : x.toNat < 2 ^ n) (hm : n ≤ m) : x.getLsbD m = false := by
  rw [BitVec.getLsbD]
  exact Nat.testBit_lt_two_pow (Nat.lt_of_lt_of_le h (Nat.pow_le_pow_right (by omega) hm))
theorem b_add {x : BitVec 32} {n : Nat} (hx : x.getLsbD n = false) (m : Nat) : (wAdd x (wShl w1 n)).getLsbD m = (x.getLsbD m || (wShl w1 n).getLsbD m) := by
  have h : x &&& wShl w1 n = 0#32 := by
    apply w_ext
    intro j hj
    have := b_and x (wShl w1 n) j
    unfold wAnd at this
    rw [this, b_one]
    by_cases hjn : j = n
    · subst hjn; simp [hx]
    · simp [hjn]
  unfold wAdd
  rw [BitVec.add_eq_or_of_and_eq_zero _ _ h]
  exact b_or x _ m
end Go.Proofs.Ytdinknpagklkjaa

/- What Bit, Size and OnesCount32 compute of a word. Conditions: none. -/
namespace Go.Proofs.Ytdinknpagklkjaa
open Go.RowKit
attribute [local go_sem ↓] w_and w_or w_xor w_andNot w_and1 w_and255 w_xor1 w_or0 w_shl w_shl1 w_shr w_sub w_add w_sub1 w_add1
attribute [local go_sem] w_eq0 w_ne0 w_eq1 w_eq w_ne

theorem Bit_any (x : BitVec 32) (i : Int) (w : World) :
    Calls Try.prog 15 #[.int .u32 (wN x), .int .i64 i] w fun e w' => e = .returned (.bool (bitB x i)) ∧ w = w' := by
  by_cases h0 : 0 ≤ i
  · by_cases h1 : i < 32
    · obtain ⟨n, rfl⟩ := Int.eq_ofNat_of_zero_le h0
      go_enter Try.func15, Try.ntmps15
      go_wp2
      go_ret
      refine ⟨ret_bool ?_, rfl⟩
      rw [bitB_nat]
      exact and_shl_ne x n
    · go_enter Try.func15, Try.ntmps15
      go_wp2
      go_ret
      refine ⟨ret_bool ?_, rfl⟩
      have : bitB x i = false := by
        unfold bitB
        rw [BitVec.getLsbD_of_ge _ _ (by omega)]
        simp
      rw [this]
  · go_enter Try.func15, Try.ntmps15
    go_wp2
    go_ret
    refine ⟨ret_bool ?_, rfl⟩
    have : bitB x i = false := by
      unfold bitB
      rw [decide_eq_false (by omega)]; rfl
    rw [this]

/-- How many of the first k bits are set; of all. -/
def popTo (x : BitVec 32) (k : Nat) : Nat := (List.range k).countP fun i => x.getLsbD i
def pop (x : BitVec 32) : Nat := popTo x 32
theorem popTo_succ (x : BitVec 32) (k : Nat) : popTo x (k + 1) = popTo x k + if bitB x k = true then 1 else 0 := by
  unfold popTo
  rw [List.range_succ, List.countP_append, bitB_nat]
  simp [List.countP_cons]
theorem popTo_le (x : BitVec 32) (k : Nat) : popTo x k ≤ k := by
  have := List.countP_le_length (p := fun i => x.getLsbD i) (l := List.range k)
  simpa [popTo] using this

theorem Size_any (x : BitVec 32) (w : World) :
    Calls Try.prog 27 #[.int .u32 (wN x)] w fun e w' => e = .returned (.int .i64 (pop x)) ∧ w = w' := by
  go_enter Try.func27, Try.ntmps27
  go_wp2_with fail
  go_loop [3, 4] (fun n i => ∃ k : Nat, k ≤ 32 ∧ i = .int .i64 k ∧ n = .int .i64 (popTo x k)) (fun _ i => 32 - (intOf i).toNat)
  case atStart => exact ⟨0, by omega, rfl, rfl⟩
  case round =>
    obtain ⟨k, hk, rfl, rfl⟩ := hrel
    have hp := popTo_le x k
    have HS := Lib.hid (popTo_succ x k)
    by_cases hlt : k < 32
    · go_wp2_with (go_at_call 15; refine (Bit_any x k _).mono ?_; rintro e w' ⟨rfl, rfl⟩)
      all_goals
        go_round
        case rel => exact ⟨k + 1, by omega, by go_num, by rw [HS.out]; first | (rw [if_pos ‹_›]; go_num) | (rw [if_neg (by simp [‹_›])]; go_num)⟩
        case measure => simp [intOf]; omega
    · obtain rfl : k = 32 := by omega
      go_wp2_with fail
      go_ret
      exact ⟨rfl, rfl⟩

def PopTab (s : ByteArray) : Prop := s.size = 256 ∧ ∀ i : Fin 256, (s.data[i.val]?.getD 0).toNat = pop (BitVec.ofNat 32 i.val)
theorem popTab_lit : PopTab ⟨#[0, 1, 1, 2, 1, 2, 2, 3, 1, 2, 2, 3, 2, 3, 3, 4, 1, 2, 2, 3, 2, 3, 3, 4, 2, 3, 3, 4, 3, 4, 4, 5, 1, 2, 2, 3, 2, 3, 3, 4, 2, 3, 3, 4, 3, 4, 4, 5, 2, 3, 3, 4, 3, 4, 4, 5, 3, 4, 4, 5, 4, 5, 5, 6, 1, 2, 2, 3, 2, 3, 3, 4, 2, 3, 3, 4, 3, 4, 4, 5, 2, 3, 3, 4, 3, 4, 4, 5, 3, 4, 4, 5, 4, 5, 5, 6, 2, 3, 3, 4, 3, 4, 4, 5, 3, 4, 4, 5, 4, 5, 5, 6, 3, 4, 4, 5, 4, 5, 5, 6, 4, 5, 5, 6, 5, 6, 6, 7, 1, 2, 2, 3, 2, 3, 3, 4, 2, 3, 3, 4, 3, 4, 4, 5, 2, 3, 3, 4, 3, 4, 4, 5, 3, 4, 4, 5, 4, 5, 5, 6, 2, 3, 3, 4, 3, 4, 4, 5, 3, 4, 4, 5, 4, 5, 5, 6, 3, 4, 4, 5, 4, 5, 5, 6, 4, 5, 5, 6, 5, 6, 6, 7, 2, 3, 3, 4, 3, 4, 4, 5, 3, 4, 4, 5, 4, 5, 5, 6, 3, 4, 4, 5, 4, 5, 5, 6, 4, 5, 5, 6, 5, 6, 6, 7, 3, 4, 4, 5, 4, 5, 5, 6, 4, 5, 5, 6, 5, 6, 6, 7, 4, 5, 5, 6, 5, 6, 6, 7, 5, 6, 6, 7, 6, 7, 7, 8]⟩ := ⟨by decide +kernel, by decide +kernel⟩
theorem pop_index {P : Program} (t : TypeId) (s : ByteArray) (y : BitVec 32) (w : World) (ht : P.underlying t = some .string) (hs : PopTab s) (hy : y.toNat < 256) :
    (Instr.index t (.string s) (.int .u32 (wN y))).run P w = .ok (.int .u8 (pop y)) w := by
  have hz := hs.1
  have hy' : wN y < 256 := by show (y.toNat : Int) < 256; omega
  have hb : 0 ≤ wN y ∧ wN y < s.size := ⟨wN_nonneg y, by rw [hz]; exact hy'⟩
  rw [run_index_string w t s .u32 _ ht, dif_pos hb]
  congr 2
  have h := hs.2 ⟨y.toNat, hy⟩
  have e : (wN y).toNat = y.toNat := by unfold wN; omega
  have hlt : y.toNat < s.data.size := by have h1 : s.data.size = 256 := hz; omega
  simp only [Array.getElem?_eq_getElem hlt, Option.getD_some, BitVec.ofNat_toNat, BitVec.setWidth_eq] at h
  rw [← h]
  simp only [e]
  rfl
theorem byte_lt (x : BitVec 32) : (wAnd x w255).toNat < 256 := by
  unfold wAnd w255
  rw [BitVec.toNat_and]
  exact Nat.lt_of_le_of_lt Nat.and_le_right (by decide)
theorem top_lt (x : BitVec 32) : (wShr x 24).toNat < 256 := by
  unfold wShr
  rw [BitVec.toNat_ushiftRight, Nat.shiftRight_eq_div_pow]
  have := x.isLt
  omega
theorem w255_bit (i : Nat) : w255.getLsbD i = decide (i < 8) := Nat.testBit_two_pow_sub_one 8 i
theorem byte_bit (x : BitVec 32) (s i : Nat) : (wAnd (wShr x s) w255).getLsbD i = (x.getLsbD (s + i) && decide (i < 8)) := by
  unfold wAnd wShr
  rw [BitVec.getLsbD_and, BitVec.getLsbD_ushiftRight, w255_bit]
theorem pop_byte (x : BitVec 32) (s : Nat) : pop (wAnd (wShr x s) w255) = (List.range 8).countP fun i => x.getLsbD (s + i) := by
  show (List.range (8 + 24)).countP _ = _
  rw [List.range_add, List.countP_append, List.countP_map]
  rw [show (List.countP ((fun i => (wAnd (wShr x s) w255).getLsbD i) ∘ fun x => 8 + x) (List.range 24)) = 0 from by
    rw [List.countP_eq_zero]
    intro a _
    simp [byte_bit]]
  rw [Nat.add_zero]
  refine List.countP_congr fun i hi => ?_
  have : i < 8 := List.mem_range.1 hi
  simp [byte_bit, this]
theorem pop_low (x : BitVec 32) : pop (wAnd x w255) = (List.range 8).countP fun i => x.getLsbD i := by
  have h := pop_byte x 0
  have e : wShr x 0 = x := by unfold wShr; simp
  rw [e] at h
  simpa using h
theorem pop_top (x : BitVec 32) : pop (wShr x 24) = (List.range 8).countP fun i => x.getLsbD (24 + i) := by
  show (List.range (8 + 24)).countP _ = _
  rw [List.range_add, List.countP_append, List.countP_map]
  rw [show (List.countP ((fun i => (wShr x 24).getLsbD i) ∘ fun x => 8 + x) (List.range 24)) = 0 from by
    rw [List.countP_eq_zero]
    intro a _
    simp only [Function.comp, wShr, BitVec.getLsbD_ushiftRight]
    rw [BitVec.getLsbD_of_ge _ _ (by omega)]
    simp]
  rw [Nat.add_zero]
  refine List.countP_congr fun i hi => ?_
  simp only [wShr, BitVec.getLsbD_ushiftRight]
theorem pop_split (x : BitVec 32) : pop x = pop (wShr x 24) + pop (wAnd (wShr x 16) w255) + pop (wAnd (wShr x 8) w255) + pop (wAnd x w255) := by
  rw [pop_top, pop_byte, pop_byte, pop_low]
  show (List.range (8 + (8 + (8 + 8)))).countP _ = _
  rw [List.range_add, List.countP_append, List.countP_map, List.range_add, List.countP_append, List.countP_map, List.range_add, List.countP_append, List.countP_map]
  simp only [Function.comp_def, ← Nat.add_assoc, Nat.reduceAdd]
  show List.countP (fun i => x.getLsbD i) (List.range 8) + _ + _ + _ = _
  omega
theorem pop_le (x : BitVec 32) : pop x ≤ 32 := popTo_le x 32

end Go.Proofs.Ytdinknpagklkjaa

/- The smallest cut: both walk the words, one up, one down. Conditions: the arcs read as a list; the net and the nodes are right. -/
namespace Go.Proofs.Ytdinknpagklkjaa
open Go.RowKit
attribute [local go_sem ↓] w_and w_or w_xor w_andNot w_and1 w_and255 w_xor1 w_or0 w_shl w_shl1 w_shr w_sub w_add w_sub1 w_add1
attribute [local go_sem] w_eq0 w_ne0 w_eq1 w_eq w_ne

def cutAt (x : BitVec 32) (a : Arc) : Bool := bitB x a.f && !bitB x a.t
def cutSum (x : BitVec 32) : List Arc → Int
  | [] => 0
  | a :: l => (if cutAt x a then a.m else 0) + cutSum x l
theorem cutSum_app (x : BitVec 32) (l r : List Arc) : cutSum x (l ++ r) = cutSum x l + cutSum x r := by
  induction l with
  | nil => simp [cutSum]
  | cons a l ih => simp only [List.cons_append, cutSum, ih]; omega
theorem cutSum_succ (x : BitVec 32) (l : List Arc) (k : Nat) (hk : k < l.length) : cutSum x (l.take (k + 1)) = cutSum x (l.take k) + if cutAt x l[k] then l[k].m else 0 := by
  rw [List.take_succ_eq_append_getElem hk, cutSum_app]
  simp [cutSum]
theorem cutSum_bounds (x : BitVec 32) (l : List Arc) (h : ∀ a ∈ l, 0 ≤ a.m ∧ a.m ≤ 1048576) : 0 ≤ cutSum x l ∧ cutSum x l ≤ 1048576 * l.length := by
  induction l with
  | nil => simp [cutSum]
  | cons a l ih =>
    have h1 := ih fun b hb => h b (by simp [hb])
    have h2 := h a (by simp)
    simp only [cutSum, List.length_cons]
    split <;> omega
structure NetOk (N : Nat) (l : List Arc) : Prop where
  small : N ≤ 10
  few : l.length ≤ 30
  arcs : ∀ a ∈ l, 0 ≤ a.f ∧ a.f < N ∧ 0 ≤ a.t ∧ a.t < N ∧ a.f ≠ a.t ∧ 0 ≤ a.m ∧ a.m ≤ 1048576 ∧ -1048576 ≤ a.e ∧ a.e ≤ 1048576
theorem arcLoop_ok {N : Int} : ∀ {l : List Arc}, arcLoop N l = 0 → ∀ a ∈ l, 0 ≤ a.f ∧ a.f < N ∧ 0 ≤ a.t ∧ a.t < N ∧ a.f ≠ a.t ∧ 0 ≤ a.m ∧ a.m ≤ 1048576 ∧ -1048576 ≤ a.e ∧ a.e ≤ 1048576
  | [], _, a, ha => by simp at ha
  | b :: l, h, a, ha => by
    rw [arcLoop] at h
    split at h
    · omega
    · split at h
      · omega
      · split at h
        · omega
        · rcases List.mem_cons.1 ha with rfl | ha
          · omega
          · exact arcLoop_ok h a ha
theorem net_ok {N : Int} {l : List Arc} (h : netCheck N l = 0) : ∃ M : Nat, N = M ∧ NetOk M l := by
  unfold netCheck at h
  split at h
  · omega
  · refine ⟨N.toNat, by omega, by omega, by omega, fun a ha => ?_⟩
    have := arcLoop_ok h a ha
    omega
theorem ends_ok {N : Int} {l : List Arc} {s t : Int} (h : endsCheck N l s t = 0) : netCheck N l = 0 ∧ ∃ M a b : Nat, N = M ∧ s = a ∧ t = b ∧ a < M ∧ b < M ∧ a ≠ b := by
  unfold endsCheck at h
  split at h
  · rename_i h0
    split at h
    · omega
    · obtain ⟨M, rfl, _⟩ := net_ok h0
      exact ⟨h0, M, s.toNat, t.toNat, rfl, by omega, by omega, by omega, by omega, by omega⟩
  · omega

set_option maxRecDepth 100000 in
set_option maxHeartbeats 1000000 in
theorem ref_CutSize (N : Nat) (x : BitVec 32) (A : Option Addr) (n c : Nat) (l : List Arc) (w : World) (hl : l.length = n) (hok : NetOk N l) (hr : Els w w.heap.size 4 Arc.cells A l) :
    Calls Try.prog 62 #[.agg #[.int .i64 N, .slice A n c], .int .u32 (wN x)] w fun e w' => e = .returned (.int .i64 (cutSum x l)) ∧ Below w.heap.size w w' := by
  have hn30 : n ≤ 30 := by rw [← hl]; exact hok.few
  have HL := Lib.hid hl
  have HOK := Lib.hid hok
  clear hl hok
  go_enter Try.func62, Try.ntmps62
  go_wp2_with fail
  go_loopw [11, 5] (fun i v wr => ∃ k : Nat, k ≤ n ∧ i = .int .i64 k ∧ v = .int .i64 (cutSum x (l.take k)) ∧ Below w.heap.size w wr) (fun i _ _ => n - (intOf i).toNat)
  case atStart => exact ⟨0, by omega, rfl, rfl, (Below.refl _ _).alloc (Nat.le_refl _) _⟩
  case round =>
    obtain ⟨k, hk, rfl, rfl, hb⟩ := hrel
    have hsz := hb.size
    by_cases hlt : k < n
    · have hkl : k < l.length := by rw [HL.out]; exact hlt
      obtain ⟨b, off, rfl, hbb, g0, g1, g2, g3⟩ := (hr.below hb).at4 hkl
      have hst := cutSum_succ x l k hkl
      have hbd := cutSum_bounds x (l.take k) fun a ha => by have := HOK.out.arcs a (List.mem_of_mem_take ha); omega
      have hlen : (l.take k).length = k := by simp; omega
      have harc := HOK.out.arcs l[k] (List.getElem_mem hkl)
      obtain ⟨a, ha⟩ : ∃ a, a = l[k] := ⟨_, rfl⟩
      rw [← ha] at g0 g1 g2 g3 hst harc
      obtain ⟨af, at_, am, ae⟩ := a
      simp only at g0 g1 g2 g3 harc
      rw [hlen] at hbd
      obtain ⟨z, hz⟩ : ∃ z, z = cutSum x (l.take k) := ⟨_, rfl⟩
      rw [← hz] at hst hbd ⊢
      have HST := Lib.hid hst
      have HB := Lib.hid hb
      clear ha hst hz hb hlen
      rcases q1 : bitB x af with _ | _
      · have HC : Hid (cutSum x (l.take (k + 1)) = z) := by
          show cutSum x (l.take (k + 1)) = z
          rw [HST.out]
          simp [cutAt, q1]
        have H1 := Lib.hid q1
        clear q1
        go_wp2_with fail
        refine (Bit_any x af _).mono ?_
        rintro e w' ⟨rfl, rfl⟩
        rw [H1.out]
        go_wp2_with fail
        go_roundw
        case rel => exact ⟨k + 1, by omega, by go_num, by rw [HC.out], HB.out.alloc hsz _⟩
        case measure => simp [intOf]; omega
      · rcases q2 : bitB x at_ with _ | _
        · have HC : Hid (cutSum x (l.take (k + 1)) = z + am) := by
            show cutSum x (l.take (k + 1)) = z + am
            rw [HST.out]
            simp [cutAt, q1, q2]
          have H1 := Lib.hid q1
          have H2 := Lib.hid q2
          clear q1 q2
          go_wp2_with fail
          refine (Bit_any x af _).mono ?_
          rintro e w' ⟨rfl, rfl⟩
          rw [H1.out]
          go_wp2_with fail
          refine (Bit_any x at_ _).mono ?_
          rintro e w' ⟨rfl, rfl⟩
          rw [H2.out]
          go_wp2_with fail
          go_roundw
          case rel => exact ⟨k + 1, by omega, by go_num, by rw [HC.out], HB.out.alloc hsz _⟩
          case measure => simp [intOf]; omega
        · have HC : Hid (cutSum x (l.take (k + 1)) = z) := by
            show cutSum x (l.take (k + 1)) = z
            rw [HST.out]
            simp [cutAt, q1, q2]
          have H1 := Lib.hid q1
          have H2 := Lib.hid q2
          clear q1 q2
          go_wp2_with fail
          refine (Bit_any x af _).mono ?_
          rintro e w' ⟨rfl, rfl⟩
          rw [H1.out]
          go_wp2_with fail
          refine (Bit_any x at_ _).mono ?_
          rintro e w' ⟨rfl, rfl⟩
          rw [H2.out]
          go_wp2_with fail
          go_roundw
          case rel => exact ⟨k + 1, by omega, by go_num, by rw [HC.out], HB.out.alloc hsz _⟩
          case measure => simp [intOf]; omega
    · obtain rfl : k = n := by omega
      have hall : l.take k = l := List.take_of_length_le (by rw [HL.out]; omega)
      rw [hall]
      clear hall
      go_wp2_with fail
      go_ret
      exact ⟨rfl, hb⟩
end Go.Proofs.Ytdinknpagklkjaa
