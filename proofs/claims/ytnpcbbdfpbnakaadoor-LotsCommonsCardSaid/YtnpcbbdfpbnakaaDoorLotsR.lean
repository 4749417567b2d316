/- What words are told to be wrong; sums; the rank of a set; whether it is free: the reference. Conditions: the words read as a list. -/
import Derived.Test.YtnpcbbdfpbnakaaDoorLotsB
namespace Go.Proofs.YtnpcbbdfpbnakaaDoor
open Go.RowKit
attribute [local go_sem ↓] w_and w_or w_xor w_andNot w_and1 w_and255 w_xor1 w_or0 w_shl w_shl1 w_shr w_sub w_add w_sub1 w_add1
attribute [local go_sem] w_eq0 w_ne0 w_eq1 w_eq w_ne

theorem lotBad_iff (x : BitVec 32) : lotBad x = decide (1024 ≤ wN x) := by
  unfold lotBad
  rw [shr_zero_iff]
  unfold wN
  rw [Bool.eq_iff_iff, decide_eq_true_iff, decide_eq_true_iff]
  omega
set_option maxRecDepth 100000 in
theorem ref_LotsCheck (A : Option Addr) (n c : Nat) (l : List (BitVec 32)) (w : World) (hl : l.length = n) (hn : n ≤ maxLen) (hr : Els w w.heap.size 1 wcell A l) :
    Calls Tryd.prog 28 #[.slice A n c] w fun e w' => e = .returned (.int .i64 (lotsCheck l)) ∧ w = w' := by
  have HN : Hid (lotsCheck l = if 10 < n then 1 else if l.any lotBad then 4 else 0) := by subst hl; rfl
  have HL := Lib.hid hl
  unfold maxLen at hn
  clear hl
  by_cases h10 : 10 < n
  · go_enter Tryd.func28, Tryd.ntmps28
    go_wp2_with fail
    go_ret
    exact ⟨ret_i64 (by rw [HN.out, if_pos h10]), rfl⟩
  · go_enter Tryd.func28, Tryd.ntmps28
    go_wp2_with fail
    go_loop [10] (fun i => ∃ k : Nat, k ≤ n ∧ i = .int .i64 k ∧ (l.take k).any lotBad = false) (fun i => n - (intOf i).toNat)
    case atStart => exact ⟨0, by omega, rfl, rfl⟩
    case round =>
      obtain ⟨k, hk, rfl, hno⟩ := hrel
      have HK := Lib.hid hno
      clear hno
      by_cases hlt : k < n
      · have hkl : k < l.length := by rw [HL.out]; exact hlt
        obtain ⟨b, off, rfl, hbb, g0⟩ := hr.at1 hkl
        obtain ⟨x, hx⟩ : ∃ x, x = l[k] := ⟨_, rfl⟩
        rw [← hx] at g0
        have HX := Lib.hid hx
        have hxw := lotBad_iff x
        clear hx
        by_cases hw : 1024 ≤ wN x
        · rw [decide_eq_true hw] at hxw
          have HW := Lib.hid hxw
          clear hxw
          go_wp2_with fail
          go_ret
          exact ⟨ret_i64 (by rw [HN.out, if_neg h10, if_pos (any_of_get hkl (by rw [← HX.out]; exact HW.out))]), rfl⟩
        · rw [decide_eq_false hw] at hxw
          have HW := Lib.hid hxw
          clear hxw
          go_wp2_with fail
          go_round
          case rel => exact ⟨k + 1, by omega, by go_num, by rw [any_take_succ _ _ _ hkl, HK.out, ← HX.out]; exact HW.out⟩
          case measure => simp [intOf]; omega
      · have hno := Lib.hid (any_take_all (by rw [HL.out]; omega) HK.out)
        go_wp2_with fail
        go_ret
        exact ⟨ret_i64 (by rw [HN.out, if_neg h10, if_neg (by rw [hno.out]; simp)]), rfl⟩
/-- The sum of those of a set among the first k. -/
def sumW (l : List (BitVec 32)) (s : BitVec 32) (k : Nat) : BitVec 32 := xsum (lw l) (fun j => s.getLsbD j) (List.range k)
theorem sumW_succ (l : List (BitVec 32)) (s : BitVec 32) (k : Nat) : sumW l s (k + 1) = if bitB s k = true then wXor (sumW l s k) (lw l k) else sumW l s k := by
  unfold sumW
  rw [List.range_succ, xsum_snoc, bitB_nat]
  split
  · rw [x_comm]
  · rfl
set_option maxRecDepth 100000 in
theorem ref_sum (A : Option Addr) (n c : Nat) (l : List (BitVec 32)) (s : BitVec 32) (w : World) (hl : l.length = n) (hn : n ≤ 32) (hr : Els w w.heap.size 1 wcell A l) :
    Calls Tryd.prog 64 #[.slice A n c, .int .u32 (wN s)] w fun e w' => e = .returned (.int .u32 (wN (sumW l s n))) ∧ w = w' := by
  have HL := Lib.hid hl
  clear hl
  go_enter Tryd.func64, Tryd.ntmps64
  go_wp2_with fail
  go_loopw [10, 5] (fun i x wr => ∃ k : Nat, k ≤ n ∧ i = .int .i64 k ∧ x = .int .u32 (wN (sumW l s k)) ∧ w = wr) (fun i _ _ => n - (intOf i).toNat)
  case atStart => exact ⟨0, by omega, rfl, rfl, rfl⟩
  case round =>
    rename World => wr
    obtain ⟨k, hk, rfl, rfl, rfl⟩ := hrel
    by_cases hlt : k < n
    · have hkl : k < l.length := by rw [HL.out]; exact hlt
      obtain ⟨b, off, rfl, hbb, g0⟩ := hr.at1 hkl
      rw [← lw_at l k hkl] at g0
      have HS := Lib.hid (sumW_succ l s k)
      go_wp2_with fail
      refine (Bit_any s k _).mono ?_
      rintro e w' ⟨rfl, rfl⟩
      cases hb : bitB s k with
      | true =>
        rw [hb] at HS
        clear hb
        go_wp2_with fail
        go_roundw
        case rel => exact ⟨k + 1, by omega, by go_num, by rw [HS.out]; rfl, trivial⟩
        case measure => simp [intOf]; omega
      | false =>
        rw [hb] at HS
        clear hb
        go_wp2_with fail
        go_roundw
        case rel => exact ⟨k + 1, by omega, by go_num, by rw [HS.out]; rfl, trivial⟩
        case measure => simp [intOf]; omega
    · obtain rfl : k = n := by omega
      go_wp2_with fail
      go_ret
      exact ⟨rfl, rfl⟩
end Go.Proofs.YtnpcbbdfpbnakaaDoor
