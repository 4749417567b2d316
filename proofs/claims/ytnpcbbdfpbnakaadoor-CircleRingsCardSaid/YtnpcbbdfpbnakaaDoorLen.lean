/- What Len32 computes of a word. Conditions: none. -/
import Derived.Test.YtnpcbbdfpbnakaaDoorCrowdP
namespace Go.Proofs.YtnpcbbdfpbnakaaDoor
open Go.RowKit
attribute [local go_sem ↓] w_and w_or w_xor w_andNot w_and1 w_and255 w_xor1 w_or0 w_shl w_shl1 w_shr w_sub w_add w_sub1 w_add1
attribute [local go_sem] w_eq0 w_ne0 w_eq1 w_eq w_ne

abbrev blTab : ByteArray := ⟨#[0, 1, 2, 2, 3, 3, 3, 3, 4, 4, 4, 4, 4, 4, 4, 4, 5, 5, 5, 5, 5, 5, 5, 5, 5, 5, 5, 5, 5, 5, 5, 5, 6, 6, 6, 6, 6, 6, 6, 6, 6, 6, 6, 6, 6, 6, 6, 6, 6, 6, 6, 6, 6, 6, 6, 6, 6, 6, 6, 6, 6, 6, 6, 6, 7, 7, 7, 7, 7, 7, 7, 7, 7, 7, 7, 7, 7, 7, 7, 7, 7, 7, 7, 7, 7, 7, 7, 7, 7, 7, 7, 7, 7, 7, 7, 7, 7, 7, 7, 7, 7, 7, 7, 7, 7, 7, 7, 7, 7, 7, 7, 7, 7, 7, 7, 7, 7, 7, 7, 7, 7, 7, 7, 7, 7, 7, 7, 7, 8, 8, 8, 8, 8, 8, 8, 8, 8, 8, 8, 8, 8, 8, 8, 8, 8, 8, 8, 8, 8, 8, 8, 8, 8, 8, 8, 8, 8, 8, 8, 8, 8, 8, 8, 8, 8, 8, 8, 8, 8, 8, 8, 8, 8, 8, 8, 8, 8, 8, 8, 8, 8, 8, 8, 8, 8, 8, 8, 8, 8, 8, 8, 8, 8, 8, 8, 8, 8, 8, 8, 8, 8, 8, 8, 8, 8, 8, 8, 8, 8, 8, 8, 8, 8, 8, 8, 8, 8, 8, 8, 8, 8, 8, 8, 8, 8, 8, 8, 8, 8, 8, 8, 8, 8, 8, 8, 8, 8, 8, 8, 8, 8, 8, 8, 8, 8, 8, 8, 8, 8, 8, 8, 8, 8, 8, 8, 8]⟩
theorem blTab_size : blTab.size = 256 := by decide +kernel
theorem blTab_fin : ∀ i : Fin 256, (blTab[i.val]'(by rw [blTab_size]; exact i.isLt)).toNat = bl i.val := by decide +kernel
theorem blTab_at {i : Nat} (h : i < blTab.size) : (blTab[i]'h).toNat = bl i := blTab_fin ⟨i, by rw [blTab_size] at h; exact h⟩
theorem bl_le {n k : Nat} (h : n < 2 ^ k) : bl n ≤ k := by
  rcases Nat.eq_zero_or_pos n with rfl | hp
  · simp [bl]
  · have h2 := bl_ge (n := n) (by omega)
    have h4 := bl_pos (n := n) (by omega)
    have := (Nat.pow_lt_pow_iff_right (by omega : 1 < 2)).1 (Nat.lt_of_le_of_lt h2 h)
    omega
theorem shr_nat (x : BitVec 32) (k : Nat) : (wShr x k).toNat = x.toNat / 2 ^ k := by
  unfold wShr
  rw [BitVec.toNat_ushiftRight, Nat.shiftRight_eq_div_pow]
theorem byte_at (y : BitVec 32) (h : y.toNat < 256) : (wN y % 256).toNat = y.toNat := by
  unfold wN
  omega
theorem wrap_small (n : Nat) (h : n ≤ 64) : wrap64 (n : Int) = n := by
  unfold wrap64
  omega
set_option maxRecDepth 100000 in
theorem Len32_any (x : BitVec 32) (w : World) :
    Calls Tryd.prog 100 #[.int .u32 (wN x)] w fun e w' => e = .returned (.int .i64 (bl x.toNat)) ∧ w = w' := by
  have hx := x.isLt
  have e0 : wN x = (x.toNat : Int) := rfl
  have s1 := shr_nat x 16
  have s2 := shr_nat x 8
  have s3 := shr_nat (wShr x 16) 8
  have e1 : wN (wShr x 16) = ((wShr x 16).toNat : Int) := rfl
  have b1 := @bl_shift x.toNat 16
  have b2 := @bl_shift x.toNat 8
  have b3 := @bl_shift (wShr x 16).toNat 8
  rw [← s1] at b1
  rw [← s2] at b2
  rw [← s3] at b3
  by_cases h1 : 65536 ≤ wN x
  · by_cases h2 : 256 ≤ wN (wShr x 16)
    · have h3 : (wShr (wShr x 16) 8).toNat < 256 := by omega
      have h4 := bl_le (n := (wShr (wShr x 16) 8).toNat) (k := 8) (by omega)
      have hb : bl x.toNat = 24 + bl (wShr (wShr x 16) 8).toNat := by rw [b1 (by omega), b3 (by omega)]; omega
      have HB := Lib.hid hb
      have H3 := Lib.hid h3
      clear hb b1 b2 b3 e0 e1 s1 s2 s3 hx h3
      go_enter Tryd.func100, Tryd.ntmps100
      go_wp2_with fail
      go_ret
      refine ⟨ret_i64 ?_, rfl⟩
      rw [blTab_at, byte_at _ H3.out, wrap_small _ (by omega), HB.out]
      unfold wrap64
      omega
    · have h3 : (wShr x 16).toNat < 256 := by omega
      have h4 := bl_le (n := (wShr x 16).toNat) (k := 8) (by omega)
      have hb : bl x.toNat = 16 + bl (wShr x 16).toNat := by rw [b1 (by omega)]; omega
      have HB := Lib.hid hb
      have H3 := Lib.hid h3
      clear hb b1 b2 b3 e0 e1 s1 s2 s3 hx h3
      go_enter Tryd.func100, Tryd.ntmps100
      go_wp2_with fail
      go_ret
      refine ⟨ret_i64 ?_, rfl⟩
      rw [blTab_at, byte_at _ H3.out, wrap_small _ (by omega), HB.out]
      unfold wrap64
      omega
  · by_cases h2 : 256 ≤ wN x
    · have h3 : (wShr x 8).toNat < 256 := by omega
      have h4 := bl_le (n := (wShr x 8).toNat) (k := 8) (by omega)
      have hb : bl x.toNat = 8 + bl (wShr x 8).toNat := by rw [b2 (by omega)]; omega
      have HB := Lib.hid hb
      have H3 := Lib.hid h3
      clear hb b1 b2 b3 e0 e1 s1 s2 s3 hx h3
      have hd : decide (65536 ≤ wN x) = false := decide_eq_false h1
      clear h1
      go_enter Tryd.func100, Tryd.ntmps100
      go_wp2_with fail
      go_ret
      refine ⟨ret_i64 ?_, rfl⟩
      rw [blTab_at, byte_at _ H3.out, wrap_small _ (by omega), HB.out]
      unfold wrap64
      omega
    · have h3 : x.toNat < 256 := by omega
      have h4 := bl_le (n := x.toNat) (k := 8) (by omega)
      have H3 := Lib.hid h3
      clear b1 b2 b3 e0 e1 s1 s2 s3 hx h3
      have hd : decide (65536 ≤ wN x) = false := decide_eq_false h1
      clear h1
      go_enter Tryd.func100, Tryd.ntmps100
      go_wp2_with fail
      go_ret
      refine ⟨ret_i64 ?_, rfl⟩
      rw [blTab_at, byte_at _ H3.out, wrap_small _ (by omega)]
      unfold wrap64
      omega
end Go.Proofs.YtnpcbbdfpbnakaaDoor
