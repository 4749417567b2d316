/- Words of 32 bits that lie in an int: the operations on '.int .i64' as operations on BitVec 32; what Has answers. Conditions: none. -/
import Derived.Test.YtbbdiondhnmnaaaDoorProg
import Derived.Test.YtbbdiondhnmnaaaDoorSpanMany2
import Derived.Test.YtbbdiondhnmnaaaDoorSpanMany5
namespace Go.Proofs.YtbbdiondhnmnaaaDoor
open Go.RowKit

def sN (x : BitVec 32) : Int := (x.toNat : Int)
theorem ofInt_s (x : BitVec 32) : BitVec.ofInt 64 (x.toNat : Int) = x.setWidth 64 := by
  rw [BitVec.ofInt_natCast]
  apply BitVec.eq_of_toNat_eq
  simp
theorem wrap_s (x : BitVec 32) : IntKind.i64.wrap (x.toNat : Int) = (x.toNat : Int) := by
  have := x.isLt
  rw [IntKind.wrap_i64]
  omega
theorem sw_toNat (z : BitVec 32) : (z.setWidth 64).toNat = z.toNat := by
  rw [BitVec.toNat_setWidth, Nat.mod_eq_of_lt (by have := z.isLt; omega)]
theorem s_and (x y : BitVec 32) : Op.intBits .and .i64 (sN x) (sN y) = pure (.int .i64 (sN (wAnd x y))) := by
  show pure (Value.int .i64 (IntKind.i64.wrap ((BitVec.ofInt 64 (x.toNat : Int) &&& BitVec.ofInt 64 (y.toNat : Int)).toNat : Int))) = _
  rw [ofInt_s, ofInt_s, show (BitVec.setWidth 64 x &&& BitVec.setWidth 64 y).toNat = (x &&& y).toNat from by rw [BitVec.toNat_and, sw_toNat, sw_toNat, BitVec.toNat_and], wrap_s]
  rfl
theorem s_or (x y : BitVec 32) : Op.intBits .or .i64 (sN x) (sN y) = pure (.int .i64 (sN (wOr x y))) := by
  show pure (Value.int .i64 (IntKind.i64.wrap ((BitVec.ofInt 64 (x.toNat : Int) ||| BitVec.ofInt 64 (y.toNat : Int)).toNat : Int))) = _
  rw [ofInt_s, ofInt_s, show (BitVec.setWidth 64 x ||| BitVec.setWidth 64 y).toNat = (x ||| y).toNat from by rw [BitVec.toNat_or, sw_toNat, sw_toNat, BitVec.toNat_or], wrap_s]
  rfl
theorem s_but (x y : BitVec 32) : Op.intBits .andNot .i64 (sN x) (sN y) = pure (.int .i64 (sN (wBut x y))) := by
  show pure (Value.int .i64 (IntKind.i64.wrap ((BitVec.ofInt 64 (x.toNat : Int) &&& ~~~BitVec.ofInt 64 (y.toNat : Int)).toNat : Int))) = _
  rw [ofInt_s, ofInt_s]
  have h : (BitVec.setWidth 64 x &&& ~~~BitVec.setWidth 64 y) = BitVec.setWidth 64 (x &&& ~~~y) := by
    apply BitVec.eq_of_getLsbD_eq
    intro i hi
    simp only [BitVec.getLsbD_and, BitVec.getLsbD_not, BitVec.getLsbD_setWidth]
    rcases Nat.lt_or_ge i 32 with h | h
    · simp [hi, h]
    · simp [BitVec.getLsbD_of_ge x i h]
  rw [h, sw_toNat, wrap_s]
  rfl
theorem s_and1 (x : BitVec 32) : Op.intBits .and .i64 (sN x) 1 = pure (.int .i64 (sN (wAnd x w1))) := s_and x 1#32
theorem s_shr (x : BitVec 32) (k : IntKind) (n : Int) (h : 0 ≤ n) : Op.shift .shr .i64 (sN x) k n = pure (.int .i64 (sN (wShr x n.toNat))) := by
  rw [shift_shr_any _ _ _ _ h]
  congr 2
  show (x.toNat : Int) / 2 ^ min n.toNat 64 = ((x >>> n.toNat).toNat : Int)
  rw [BitVec.toNat_ushiftRight, Nat.shiftRight_eq_div_pow]
  rcases Nat.lt_or_ge n.toNat 64 with hlt | hge
  · rw [Nat.min_eq_left (by omega), Int.natCast_ediv, Int.natCast_pow]
    rfl
  · rw [Nat.min_eq_right hge]
    have hx := x.isLt
    have h1 : x.toNat / 2 ^ n.toNat = 0 := Nat.div_eq_of_lt (Nat.lt_of_lt_of_le hx (Nat.pow_le_pow_right (by omega) (by omega)))
    rw [h1]
    have h2 : ((x.toNat : Int)) / 2 ^ 64 = 0 := by omega
    exact h2
theorem s_shl1 (k : IntKind) (n : Int) (h : 0 ≤ n) (h1 : n < 32) : Op.shift .shl .i64 1 k n = pure (.int .i64 (sN (wShl w1 n.toNat))) := by
  rw [shift_shl_any _ _ _ _ h]
  congr 2
  show IntKind.i64.wrap (1 * 2 ^ min n.toNat 64) = ((wShl w1 n.toNat).toNat : Int)
  rw [wN_shl1 (by omega), Nat.min_eq_left (by omega), IntKind.wrap_i64, Int.natCast_pow, Int.one_mul]
  have h2 : (2 : Int) ^ n.toNat < 2 ^ 32 := Int.pow_lt_pow_of_lt (by decide) (by omega)
  have h3 : (0 : Int) < 2 ^ n.toNat := Int.pow_pos (by decide)
  have h4 : (2 : Int) ^ 32 = 4294967296 := rfl
  show _ = (2 : Int) ^ n.toNat
  omega
theorem sN_inj {x y : BitVec 32} (h : sN x = sN y) : x = y := by
  apply BitVec.eq_of_toNat_eq; unfold sN at h; omega
theorem sN_0 : sN w0 = 0 := rfl
theorem s_eq0 (x : BitVec 32) : (sN x == 0) = (x == w0) := by
  rw [Bool.eq_iff_iff, beq_iff_eq, beq_iff_eq]
  exact ⟨fun h => sN_inj h, fun h => by rw [h]; rfl⟩
theorem s_ne0 (x : BitVec 32) : (sN x != 0) = (x != w0) := by rw [bne, bne, s_eq0]
theorem s_eq1 (x : BitVec 32) : (sN x == 1) = (x == w1) := by
  rw [Bool.eq_iff_iff, beq_iff_eq, beq_iff_eq]
  exact ⟨fun h => sN_inj h, fun h => by rw [h]; rfl⟩

/-- 'w>>i&1 == 1'. -/
theorem shr_and1 (x : BitVec 32) (i : Nat) : (wAnd (wShr x i) w1 == w1) = x.getLsbD i := by
  rw [Bool.eq_iff_iff, beq_iff_eq]
  constructor
  · intro h
    have := congrArg (fun z : BitVec 32 => z.getLsbD 0) h
    rw [b_and, b_shr, b_1] at this
    simpa using this
  · intro h
    apply w_ext
    intro m _
    rw [b_and, b_shr, b_1]
    by_cases hm : m = 0
    · subst hm; simp [h]
    · simp [hm]
theorem shr_and0 (x : BitVec 32) (i : Nat) : (wAnd (wShr x i) w1 == w0) = !x.getLsbD i := by
  rw [Bool.eq_iff_iff, beq_iff_eq]
  constructor
  · intro h
    have := congrArg (fun z : BitVec 32 => z.getLsbD 0) h
    rw [b_and, b_shr, b_1, b_0] at this
    simpa using this
  · intro h
    apply w_ext
    intro m _
    rw [b_and, b_shr, b_1, b_0]
    by_cases hm : m = 0
    · subst hm; simpa using h
    · simp [hm]

abbrev icell (x : Int) : List Value := [.int .i64 x]
def hasB (l : List Int) (x : Int) : Bool := l.any fun y => x == y
end Go.Proofs.YtbbdiondhnmnaaaDoor

/- The cells of a word, of a number. Conditions: none. -/
namespace Go.Proofs.YtbbdiondhnmnaaaDoor
abbrev wcell (x : BitVec 32) : List Value := [.int .u32 (wN x)]
theorem lw_set (t : List (BitVec 32)) {i k : Nat} (x : BitVec 32) (hi : i < t.length) : lw (t.set i x) k = if i = k then x else lw t k := by
  unfold lw
  by_cases h : i = k
  · subst h; simp [List.getD_eq_getElem?_getD, hi]
  · simp [List.getD_eq_getElem?_getD, List.getElem?_set, h]
theorem lw_rep (n k : Nat) : lw (List.replicate n w0) k = w0 := by
  unfold lw
  by_cases h : k < n <;> simp [List.getD_eq_getElem?_getD, h]
/-- A list that grows by one is told by its element k. -/
theorem map_range_succ {α : Type} (f : Nat → α) (k : Nat) : (List.range (k + 1)).map f = (List.range k).map f ++ [f k] := by simp [List.range_succ]
end Go.Proofs.YtbbdiondhnmnaaaDoor
