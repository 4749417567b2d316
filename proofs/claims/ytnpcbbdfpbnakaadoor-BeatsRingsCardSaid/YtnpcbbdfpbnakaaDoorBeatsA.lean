/- What players are told to be wrong: the program and the reference compute the one function beatsCheck. Conditions: the words read as a list. -/
import Derived.Test.YtnpcbbdfpbnakaaDoorBit
import Derived.Test.YtnpcbbdfpbnakaaDoorCells
namespace Go.Proofs.YtnpcbbdfpbnakaaDoor
open Go.RowKit
attribute [local go_sem ↓] w_and w_or w_xor w_andNot w_and1 w_and255 w_xor1 w_or0 w_shl w_shl1 w_shr w_sub w_add w_sub1 w_add1
attribute [local go_sem] w_eq0 w_ne0 w_eq1 w_eq w_ne

abbrev W := BitVec 32
/-- Who beats player i, of the first j. -/
def backTo (l : List W) (i : Nat) : Nat → W
  | 0 => w0
  | j + 1 => wOr (backTo l i j) (wShl (wAnd (wShr (lw l j) i) w1) j)
def rowBad (l : List W) (i : Nat) : Bool :=
  wAnd (lw l i) (backTo l i l.length) != w0 || wOr (lw l i) (backTo l i l.length) != wBut (maskW l.length) (wShl w1 i)
def pairBad (l : List W) (i j : Nat) : Bool :=
  i == j && bitB (lw l i) i || i != j && (bitB (lw l i) j == bitB (lw l j) i)
def wide (n : Nat) (x : W) : Bool := wShr x n != w0
def beatsCheck (l : List W) : Int :=
  if 8 < l.length then 1 else if l.any (wide l.length) then 2 else if (List.range l.length).any (rowBad l) then 3 else 0

set_option maxRecDepth 100000 in
set_option maxHeartbeats 1000000 in
theorem beats_Check (A : Option Addr) (n c : Nat) (l : List W) (w : World) (hl : l.length = n) (hn : n ≤ maxLen) (hr : Els w w.heap.size 1 wcell A l) :
    Calls Tryd.prog 58 #[.slice A n c] w fun e w' => e = .returned (.int .i64 (beatsCheck l)) ∧ ∃ m, w' = w.drewN m := by
  unfold maxLen at hn
  have HN : Hid (beatsCheck l = if 8 < n then 1 else if l.any (wide n) then 2 else if (List.range n).any (rowBad l) then 3 else 0) := by subst hl; rfl
  have HL := Lib.hid hl
  clear hl
  by_cases h8 : 8 < n
  · go_enter Tryd.func58, Tryd.ntmps58
    go_wp2_with fail
    go_ret
    exact ⟨ret_i64 (by rw [HN.out, if_pos h8]), 0, rfl⟩
  · go_enter Tryd.func58, Tryd.ntmps58
    go_wp2_with fail
    go_loop [15] (fun i => ∃ k : Nat, k ≤ n ∧ i = .int .i64 k ∧ (l.take k).any (wide n) = false) (fun i => n - (intOf i).toNat)
    case atStart => exact ⟨0, by omega, rfl, rfl⟩
    case round =>
      obtain ⟨k, hk, rfl, hno⟩ := hrel
      have HK := Lib.hid hno
      clear hno
      by_cases hlt : k < n
      · have hkl : k < l.length := by rw [HL.out]; exact hlt
        obtain ⟨b, off, rfl, hbb, g0⟩ := hr.at1 hkl
        obtain ⟨x, hx⟩ : ∃ x, x = l[k] := ⟨_, rfl⟩
        rw [← hx] at g0
        have HX := Lib.hid hx
        clear hx
        by_cases hw : (wShr x n != w0) = true
        · go_wp2_with fail
          go_ret
          exact ⟨ret_i64 (by rw [HN.out, if_neg h8, if_pos (any_of_get hkl (by rw [← HX.out]; exact hw))]), 0, rfl⟩
        · have hw' : (wShr x n != w0) = false := by simpa using hw
          clear hw
          go_wp2_with fail
          go_round
          case rel => exact ⟨k + 1, by omega, by go_num, by rw [any_take_succ _ _ _ hkl, HK.out, ← HX.out]; exact hw'⟩
          case measure => simp [intOf]; omega
      · have hno := Lib.hid (any_take_all (by rw [HL.out]; omega) HK.out)
        clear HK
        go_wp2_with fail
        go_loopw [27] (fun i wr => ∃ k m : Nat, k ≤ n ∧ i = .int .i64 k ∧ wr = w.drewN m ∧ (List.range k).any (rowBad l) = false) (fun i _ => n - (intOf i).toNat)
        case atStart => exact ⟨0, 0, by omega, rfl, rfl, rfl⟩
        case round =>
          obtain ⟨i, m, hi, rfl, rfl, hno2⟩ := hrel
          have HK := Lib.hid hno2
          clear hno2
          by_cases hlt : i < n
          · have hil : i < l.length := by rw [HL.out]; exact hlt
            obtain ⟨b, off, rfl, hbb, g0⟩ := (hr.drewN m).at1 hil
            obtain ⟨x, hx⟩ : ∃ x, x = l[i] := ⟨_, rfl⟩
            rw [← hx] at g0
            have HX := Lib.hid hx
            clear hx
            go_wp2_with fail
            go_loop [7, 34] (fun b j => ∃ k : Nat, k ≤ n ∧ j = .int .i64 k ∧ b = .int .u32 (wN (backTo l i k))) (fun _ j => n - (intOf j).toNat)
            case atStart => exact ⟨0, by omega, rfl, rfl⟩
            case round =>
              obtain ⟨k, hk, rfl, rfl⟩ := hrel
              by_cases hlk : k < n
              · have hkl : k < l.length := by rw [HL.out]; exact hlk
                obtain ⟨b', off', he, _, g1⟩ := (hr.drewN m).at1 hkl
                obtain ⟨rfl, rfl⟩ : b = b' ∧ off = off' := by simpa using he
                clear he
                obtain ⟨y, hy⟩ : ∃ y, y = l[k] := ⟨_, rfl⟩
                rw [← hy] at g1
                have HS : Hid (backTo l i (k + 1) = wOr (backTo l i k) (wShl (wAnd (wShr y i) w1) k)) := by
                  rw [hy, ← lw_at l k hkl]
                  rfl
                clear hy
                go_wp2_with fail
                go_round
                case rel => exact ⟨k + 1, by omega, by go_num, by rw [HS.out]⟩
                case measure => simp [intOf]; omega
              · obtain rfl : k = n := by omega
                have HR : Hid (rowBad l i = (wAnd x (backTo l i k) != w0 || wOr x (backTo l i k) != wBut (wSub (wShl w1 k) w1) (wShl w1 i))) := by
                  unfold rowBad maskW
                  rw [HL.out, lw_at l i hil, ← HX.out]
                  rfl
                by_cases hg : (wAnd x (backTo l i k) != w0) = true
                · go_wp2_with fail
                  go_quiet (fail)
                  go_wp2_with fail
                  go_ret
                  refine ⟨ret_i64 ?_, m + nq, by first | rfl | rw [World.drewN_drewN]⟩
                  rw [HN.out, if_neg h8, if_neg (by rw [hno.out]; simp), if_pos (any_range_of hlt (by rw [HR.out, hg]; rfl))]
                · have hg' : (wAnd x (backTo l i k) != w0) = false := by simpa using hg
                  clear hg
                  go_wp2_with fail
                  go_quiet (fail)
                  go_wp2_with fail
                  all_goals first
                    | (have hne := ‹(wOr x (backTo l i k) != wBut (wSub (wShl w1 k) w1) (wShl w1 i)) = true›
                       go_ret
                       refine ⟨ret_i64 ?_, m + nq, by first | rfl | rw [World.drewN_drewN]⟩
                       rw [HN.out, if_neg h8, if_neg (by rw [hno.out]; simp), if_pos (any_range_of hlt (by rw [HR.out, hne, Bool.or_true]))])
                    | (have hne := ‹(wOr x (backTo l i k) != wBut (wSub (wShl w1 k) w1) (wShl w1 i)) = false›
                       refine ⟨⟨i + 1, m + nq, by omega, by go_num, rfl, ?_⟩, by simp [intOf]; omega⟩
                       rw [any_range_succ, HK.out, HR.out, hg', hne]
                       rfl)
          · obtain rfl : i = n := by omega
            go_wp2_with fail
            go_ret
            exact ⟨ret_i64 (by rw [HN.out, if_neg h8, if_neg (by rw [hno.out]; simp), if_neg (by rw [HK.out]; simp)]), m, rfl⟩
end Go.Proofs.YtnpcbbdfpbnakaaDoor
