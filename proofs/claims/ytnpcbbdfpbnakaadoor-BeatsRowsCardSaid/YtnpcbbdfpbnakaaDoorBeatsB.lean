/- The reference's check of players computes the one function beatsCheck. Conditions: the words read as a list. -/
import Derived.Test.YtnpcbbdfpbnakaaDoorBeatsA
namespace Go.Proofs.YtnpcbbdfpbnakaaDoor
open Go.RowKit
attribute [local go_sem ↓] w_and w_or w_xor w_andNot w_and1 w_and255 w_xor1 w_or0 w_shl w_shl1 w_shr w_sub w_add w_sub1 w_add1
attribute [local go_sem] w_eq0 w_ne0 w_eq1 w_eq w_ne

def pairsBad (l : List W) (i : Nat) : Bool := (List.range l.length).any (pairBad l i)
def beatsRef (l : List W) : Int :=
  if 8 < l.length then 1 else if l.any (fun x => decide (wN (wShl w1 l.length) ≤ wN x)) then 2 else if (List.range l.length).any (pairsBad l) then 3 else 0

set_option maxRecDepth 100000 in
set_option maxHeartbeats 1000000 in
theorem ref_BeatsCheck (A : Option Addr) (n c : Nat) (l : List W) (w : World) (hl : l.length = n) (hn : n ≤ maxLen) (hr : Els w w.heap.size 1 wcell A l) :
    Calls Tryd.prog 24 #[.slice A n c] w fun e w' => e = .returned (.int .i64 (beatsRef l)) ∧ ∃ m, w' = w.drewN m := by
  unfold maxLen at hn
  have HN : Hid (beatsRef l = if 8 < n then 1 else if l.any (fun x => decide (wN (wShl w1 n) ≤ wN x)) then 2 else if (List.range n).any (pairsBad l) then 3 else 0) := by subst hl; rfl
  have HL := Lib.hid hl
  clear hl
  by_cases h8 : 8 < n
  · go_enter Tryd.func24, Tryd.ntmps24
    go_wp2_with fail
    go_ret
    exact ⟨ret_i64 (by rw [HN.out, if_pos h8]), 0, rfl⟩
  · go_enter Tryd.func24, Tryd.ntmps24
    go_wp2_with fail
    go_loop [12] (fun i => ∃ k : Nat, k ≤ n ∧ i = .int .i64 k ∧ (l.take k).any (fun x => decide (wN (wShl w1 n) ≤ wN x)) = false) (fun i => n - (intOf i).toNat)
    case atStart => exact ⟨0, by omega, rfl, rfl⟩
    case round =>
      obtain ⟨k, hk, rfl, hno⟩ := hrel
      have HK := Lib.hid hno
      clear hno
      by_cases hlt : k < n
      · have hkl : k < l.length := by rw [HL.out]; exact hlt
        obtain ⟨b, off, rfl, hbb, g0⟩ := hr.at1 hkl
        obtain ⟨x, hx⟩ : ∃ x, x = l[k] := ⟨_, rfl⟩
        rw [← hx] at g0
        have HX := Lib.hid hx
        clear hx
        by_cases hw : wN (wShl w1 n) ≤ wN x
        · go_wp2_with fail
          go_ret
          exact ⟨ret_i64 (by rw [HN.out, if_neg h8, if_pos (any_of_get hkl (by rw [← HX.out]; simpa using hw))]), 0, rfl⟩
        · go_wp2_with fail
          go_round
          case rel => exact ⟨k + 1, by omega, by go_num, by rw [any_take_succ _ _ _ hkl, HK.out, ← HX.out]; simpa using hw⟩
          case measure => simp [intOf]; omega
      · have hno := Lib.hid (any_take_all (by rw [HL.out]; omega) HK.out)
        clear HK
        go_wp2_with fail
        go_loopw [5] (fun i wr => ∃ k m : Nat, k ≤ n ∧ i = .int .i64 k ∧ wr = w.drewN m ∧ (List.range k).any (pairsBad l) = false) (fun i _ => n - (intOf i).toNat)
        case atStart => exact ⟨0, 0, by omega, rfl, rfl, rfl⟩
        case round =>
          obtain ⟨i, m, hi, rfl, rfl, hno2⟩ := hrel
          have HK := Lib.hid hno2
          clear hno2
          by_cases hlt : i < n
          · have hil : i < l.length := by rw [HL.out]; exact hlt
            go_wp2_with fail
            go_loopw [6] (fun j wr => ∃ k m : Nat, k ≤ n ∧ j = .int .i64 k ∧ wr = w.drewN m ∧ (List.range k).any (pairBad l i) = false) (fun j _ => n - (intOf j).toNat)
            case atStart => exact ⟨0, m, by omega, rfl, rfl, rfl⟩
            case round =>
              obtain ⟨j, m, hj, rfl, rfl, hno3⟩ := hrel
              have HJ := Lib.hid hno3
              clear hno3
              by_cases hlj : j < n
              · have hjl : j < l.length := by rw [HL.out]; exact hlj
                obtain ⟨b, off, rfl, hbb, g0⟩ := (hr.drewN m).at1 hil
                obtain ⟨b', off', he, _, g1⟩ := (hr.drewN m).at1 hjl
                obtain ⟨rfl, rfl⟩ : b = b' ∧ off = off' := by simpa using he
                clear he
                obtain ⟨x, hx⟩ : ∃ x, x = l[i] := ⟨_, rfl⟩
                obtain ⟨y, hy⟩ : ∃ y, y = l[j] := ⟨_, rfl⟩
                rw [← hx] at g0
                rw [← hy] at g1
                have HP : Hid (pairBad l i j = (i == j && bitB x i || i != j && (bitB x j == bitB y i))) := by
                  unfold pairBad
                  rw [lw_at l i hil, lw_at l j hjl, ← hx, ← hy]
                  rfl
                clear hx hy
                have g2 : w.cell? ⟨b, off + i, none⟩ = some (.int .u32 (wN x)) := g0
                have g3 : w.cell? ⟨b, off + j, none⟩ = some (.int .u32 (wN y)) := g1
                have hbad : pairBad l i j = true → beatsRef l = 3 := fun h => by
                  rw [HN.out, if_neg h8, if_neg (by rw [hno.out]; simp), if_pos (any_range_of hlt (by unfold pairsBad; rw [HL.out]; exact any_range_of hlj h))]
                have HB := Lib.hid hbad
                clear hbad
                by_cases hij : i = j
                · subst hij
                  rcases hb : bitB x i with _ | _
                  · go_wp2_with fail
                    go_quiet ((go_at_call 60; first | exact quietAL (Bit_any _ _ _) | exact quietL (Bit_any _ _ _)))
                    go_wp2_with fail
                    refine ⟨⟨i + 1, m + nq, by omega, by go_num, rfl, ?_⟩, by simp [intOf]; omega⟩
                    rw [any_range_succ, HJ.out, HP.out, hb]
                    simp
                  · go_wp2_with fail
                    go_quiet ((go_at_call 60; first | exact quietAL (Bit_any _ _ _) | exact quietL (Bit_any _ _ _)))
                    go_wp2_with fail
                    go_ret
                    exact ⟨ret_i64 (HB.out (by rw [HP.out, hb]; simp)).symm, m + nq, by first | rfl | rw [World.drewN_drewN]⟩
                · have h1 : ((i : Int) == (j : Int)) = false := by simp; omega
                  have h2 : ((i : Int) != (j : Int)) = true := by simp; omega
                  rcases hb : (bitB x j == bitB y i) with _ | _
                  · go_wp2_with fail
                    go_quiet ((go_at_call 60; first | exact quietAL (Bit_any _ _ _) | exact quietL (Bit_any _ _ _)))
                    go_wp2_with fail
                    refine ⟨⟨j + 1, m + nq, by omega, by go_num, rfl, ?_⟩, by simp [intOf]; omega⟩
                    rw [any_range_succ, HJ.out, HP.out, hb]
                    simp [hij]
                  · go_wp2_with fail
                    go_quiet ((go_at_call 60; first | exact quietAL (Bit_any _ _ _) | exact quietL (Bit_any _ _ _)))
                    go_wp2_with fail
                    go_ret
                    exact ⟨ret_i64 (HB.out (by rw [HP.out, hb]; simp [hij])).symm, m + nq, by first | rfl | rw [World.drewN_drewN]⟩
              · obtain rfl : j = n := by omega
                go_wp2_with fail
                refine ⟨⟨i + 1, m, by omega, by go_num, rfl, ?_⟩, by simp [intOf]; omega⟩
                rw [any_range_succ, HK.out]
                unfold pairsBad
                rw [HL.out, HJ.out]
                rfl
          · obtain rfl : i = n := by omega
            go_wp2_with fail
            go_ret
            exact ⟨ret_i64 (by rw [HN.out, if_neg h8, if_neg (by rw [hno.out]; simp), if_neg (by rw [HK.out]; simp)]), m, rfl⟩
end Go.Proofs.YtnpcbbdfpbnakaaDoor
