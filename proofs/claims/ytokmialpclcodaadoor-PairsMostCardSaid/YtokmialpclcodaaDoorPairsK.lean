/- Pairs: what is wrong with the words. Conditions: the words read as a list. -/
import Derived.Test.YtokmialpclcodaaDoorIdx
import Derived.Test.YtokmialpclcodaaDoorBit
import Derived.Test.YtokmialpclcodaaDoorRegC
import Derived.Test.YtokmialpclcodaaDoorCells
namespace Go.Proofs.YtokmialpclcodaaDoor
open Go.RowKit Go.Shelf
attribute [local go_sem ↓] w_and w_or w_xor w_andNot w_and1 w_and255 w_xor1 w_or0 w_shl w_shl1 w_shr w_sub w_add w_sub1 w_add1
attribute [local go_sem] w_eq0 w_ne0 w_eq1 w_eq w_ne

def wide8 (x : BitVec 32) : Bool := wShr x 8 != w0
def pairsCheck (l : List (BitVec 32)) : Int := if 8 < l.length then 1 else if l.any wide8 then 2 else 0
theorem wide8_iff (x : BitVec 32) : wide8 x = decide (256 ≤ wN x) := by
  unfold wide8
  rw [shr_zero_iff]
  congr 1
  rw [eq_iff_iff]
  unfold wN
  omega

theorem pairs_check1 (x : BitVec 32) (w : World) :
    Calls Tryd.prog 65 #[.int .u32 (wN x)] w fun e w' => e = .returned (.bool (wide8 x)) ∧ w = w' := by
  go_enter Tryd.func65, Tryd.ntmps65
  go_wp2_with fail
  go_ret
  exact ⟨rfl, rfl⟩
set_option maxRecDepth 100000 in
theorem pairs_check (A : Option Addr) (n c : Nat) (l : List (BitVec 32)) (w : World) (hl : l.length = n) (hn : n ≤ maxLen) (hr : Els w w.heap.size 1 wcell A l) :
    Calls Tryd.prog 30 #[.slice A n c] w fun e w' => e = .returned (.int .i64 (pairsCheck l)) ∧ Below w.heap.size w w' := by
  have HC := Lib.hid (ContainsFunc_words 65 (enters_of Tryd.func65 (by kernel_rfl) rfl) #[] wide8 A n c l w hl hn hr fun a wx _ _ => (pairs_check1 a wx).mono fun e w' ⟨h1, h2⟩ => ⟨h1, h2 ▸ Below.refl _ _⟩)
  have HN : Hid (pairsCheck l = if 8 < n then 1 else if l.any wide8 then 2 else 0) := by subst hl; exact Lib.hid rfl
  clear hl hr
  unfold maxLen at hn
  by_cases h8 : 8 < n
  · go_enter Tryd.func30, Tryd.ntmps30
    go_wp2_with fail
    go_ret
    exact ⟨ret_i64 (by rw [HN.out, if_pos h8]), Below.refl _ _⟩
  · go_enter Tryd.func30, Tryd.ntmps30
    go_wp2_with fail
    refine HC.out.mono ?_
    clear HC
    rintro e w' ⟨rfl, hb⟩
    have HB := Lib.hid hb
    clear hb
    rcases ha : l.any wide8 with _ | _
    all_goals
      have HA := Lib.hid ha
      clear ha
      go_wp2_with fail
      go_ret
      exact ⟨ret_i64 (by rw [HN.out, if_neg h8, HA.out]; rfl), HB.out⟩
set_option maxRecDepth 100000 in
theorem ref_PairsCheck (A : Option Addr) (n c : Nat) (l : List (BitVec 32)) (w : World) (hl : l.length = n) (hn : n ≤ maxLen) (hr : Els w w.heap.size 1 wcell A l) :
    Calls Tryd.prog 12 #[.slice A n c] w fun e w' => e = .returned (.int .i64 (pairsCheck l)) ∧ w = w' := by
  have HN : Hid (pairsCheck l = if 8 < n then 1 else if l.any wide8 then 2 else 0) := by subst hl; exact Lib.hid rfl
  have HL := Lib.hid hl
  clear hl
  unfold maxLen at hn
  by_cases h8 : 8 < n
  · go_enter Tryd.func12, Tryd.ntmps12
    go_wp2_with fail
    go_ret
    exact ⟨ret_i64 (by rw [HN.out, if_pos h8]), rfl⟩
  · go_enter Tryd.func12, Tryd.ntmps12
    go_wp2_with fail
    go_loop [10] (fun i => ∃ k : Nat, k ≤ n ∧ i = .int .i64 k ∧ (l.take k).any wide8 = false) (fun i => n - (intOf i).toNat)
    case atStart => exact ⟨0, by omega, rfl, rfl⟩
    case round =>
      obtain ⟨k, hk, rfl, hno⟩ := hrel
      have HK := Lib.hid hno
      clear hno
      by_cases hlt : k < n
      · have hkl : k < l.length := by rw [HL.out]; exact hlt
        obtain ⟨b, off, rfl, hbb, g0⟩ := hr.at1 hkl
        obtain ⟨x, hx⟩ : ∃ x, x = l[k] := ⟨_, rfl⟩
        rw [← hx] at g0
        have HX := Lib.hid hx
        clear hx
        have HW := Lib.hid (wide8_iff x)
        by_cases hw : 256 ≤ wN x
        · go_wp2_with fail
          go_ret
          exact ⟨ret_i64 (by rw [HN.out, if_neg h8, if_pos (any_of_get hkl (by rw [← HX.out, HW.out]; simpa using hw))]), rfl⟩
        · go_wp2_with fail
          go_round
          case rel => exact ⟨k + 1, by omega, by go_num, by rw [any_take_succ _ _ _ hkl, HK.out, ← HX.out, HW.out]; simpa using hw⟩
          case measure => simp [intOf]; omega
      · have hno := Lib.hid (any_take_all (by rw [HL.out]; omega) HK.out)
        clear HK
        go_wp2_with fail
        go_ret
        exact ⟨ret_i64 (by rw [HN.out, if_neg h8, hno.out]; rfl), rfl⟩
end Go.Proofs.YtokmialpclcodaaDoor
