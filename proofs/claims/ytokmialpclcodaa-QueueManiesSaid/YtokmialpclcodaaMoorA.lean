/- slices.Max of some numbers. Conditions: at least one. -/
import Derived.Test.YtokmialpclcodaaMoorP
import Derived.Test.YtokmialpclcodaaOwn
import Derived.Test.YtokmialpclcodaaIdx
namespace Go.Proofs.Ytokmialpclcodaa
open Go.RowKit

def maxTo (l : List Int) : Nat → Int
  | 0 => l.getD 0 0
  | k + 1 => if maxTo l k < l.getD (k + 1) 0 then l.getD (k + 1) 0 else maxTo l k
theorem maxTo_ge (l : List Int) : ∀ k j, j ≤ k → l.getD j 0 ≤ maxTo l k
  | 0, j, h => by rw [show j = 0 by omega]; exact Int.le_refl _
  | k + 1, j, h => by
    rw [maxTo]
    by_cases hj : j = k + 1
    · subst hj; split <;> omega
    · have := maxTo_ge l k j (by omega)
      split <;> omega
theorem maxTo_is (l : List Int) : ∀ k, ∃ j, j ≤ k ∧ maxTo l k = l.getD j 0
  | 0 => ⟨0, Nat.le_refl _, rfl⟩
  | k + 1 => by
    rw [maxTo]
    obtain ⟨j, h1, h2⟩ := maxTo_is l k
    split
    · exact ⟨k + 1, Nat.le_refl _, rfl⟩
    · exact ⟨j, by omega, h2⟩
set_option maxRecDepth 100000 in
theorem Max_longs (A : Option Addr) (n c : Nat) (l : List Int) (B : Nat) (w : World) (hl : l.length = n) (h1 : 1 ≤ n) (hn : n ≤ 65536) (hr : Els w B 1 icell A l) :
    Calls Try.prog 37 #[.slice A n c] w fun e w' => e = .returned (.int .i64 (maxTo l (n - 1))) ∧ w = w' := by
  have HL := Lib.hid hl
  obtain ⟨b, o, hA, _, z0⟩ := hr.at1 (f := fun x : Int => .int .i64 x) (show 0 < l.length by omega)
  subst hA
  rw [← getD_at l 0 (by omega) 0] at z0
  have HR := Lib.hid hr
  obtain ⟨m0, hm0⟩ : ∃ m, m = l.getD 0 0 := ⟨_, rfl⟩
  rw [← hm0, Nat.add_zero] at z0
  have HM0 := Lib.hid hm0
  have hge : ¬ ((n : Int) < 1) := by omega
  have hpos : (0 : Int) < (n : Int) := by omega
  have hposN : 0 < n := by omega
  clear hl hr hm0
  go_enter Try.func37, Try.ntmps37
  go_wp2_with fail
  go_loop [4, 3] (fun s4 s3 => ∃ k : Nat, 1 ≤ k ∧ k ≤ n ∧ s4 = .int .i64 k ∧ s3 = .int .i64 (maxTo l (k - 1))) (fun s4 _ => n - (intOf s4).toNat)
  case atStart => exact ⟨1, Nat.le_refl _, h1, rfl, by rw [HM0.out]; rfl⟩
  case round =>
    obtain ⟨k, hk1, hk, rfl, rfl⟩ := hrel
    by_cases hkn : k < n
    · obtain ⟨b', o', hA, _, t0⟩ := HR.out.at1 (f := fun x : Int => .int .i64 x) (show k < l.length by rw [HL.out]; omega)
      obtain ⟨rfl, rfl⟩ : b = b' ∧ o = o' := by simpa using hA
      rw [← getD_at l k (by rw [HL.out]; omega) 0] at t0
      have hs : maxTo l k = if maxTo l (k - 1) < l.getD k 0 then l.getD k 0 else maxTo l (k - 1) := by
        obtain ⟨q, rfl⟩ : ∃ q, k = q + 1 := ⟨k - 1, by omega⟩
        rfl
      obtain ⟨y, hy⟩ : ∃ y, y = l.getD k 0 := ⟨_, rfl⟩
      obtain ⟨x, hx⟩ : ∃ x, x = maxTo l (k - 1) := ⟨_, rfl⟩
      rw [← hy] at t0 hs
      rw [← hx] at hs ⊢
      by_cases hlt : x < y
      · rw [if_pos hlt] at hs
        have HS := Lib.hid hs
        clear hs hy hx hA z0
        go_wp2_with fail
        go_round
        case rel => exact ⟨k + 1, by omega, by omega, by go_num, by rw [Nat.add_sub_cancel, HS.out]⟩
        case measure => simp [intOf]; omega
      · rw [if_neg hlt] at hs
        have HS := Lib.hid hs
        clear hs hy hx hA z0
        go_wp2_with fail
        go_round
        case rel => exact ⟨k + 1, by omega, by omega, by go_num, by rw [Nat.add_sub_cancel, HS.out]⟩
        case measure => simp [intOf]; omega
    · obtain rfl : k = n := by omega
      obtain ⟨x, hx⟩ : ∃ x, x = maxTo l (k - 1) := ⟨_, rfl⟩
      rw [← hx]
      have HX := Lib.hid hx
      clear hx z0
      go_wp2_with fail
      go_ret
      exact ⟨ret_i64 HX.out, rfl⟩
set_option maxRecDepth 100000 in
theorem Index_longs (x : Int) (A : Option Addr) (n c : Nat) (l : List Int) (B : Nat) (w : World) (hl : l.length = n) (hn : n ≤ maxLen) (hr : Els w B 1 icell A l) :
    Calls Try.prog 38 #[.slice A n c, .int .i64 x] w fun e w' => e = .returned (.int .i64 (idxF (fun y => x == y) l)) ∧ w = w' := by
  unfold maxLen at hn
  have HL := Lib.hid hl
  clear hl
  go_enter Try.func38, Try.ntmps38
  go_wp2_with fail
  go_loop [8] (fun i => ∃ k : Nat, k ≤ n ∧ i = .int .i64 k ∧ (l.take k).any (fun y => x == y) = false) (fun i => n - (intOf i).toNat)
  case atStart => exact ⟨0, by omega, rfl, rfl⟩
  case round =>
    obtain ⟨k, hk, rfl, hno⟩ := hrel
    have HK := Lib.hid hno
    clear hno
    by_cases hlt : k < n
    · have hkl : k < l.length := by rw [HL.out]; exact hlt
      obtain ⟨b, off, rfl, hbb, g0⟩ := hr.at1 hkl
      obtain ⟨y, hy⟩ : ∃ y, y = l[k] := ⟨_, rfl⟩
      rw [← hy] at g0
      have HY := Lib.hid hy
      clear hy
      rcases hxy : (x == y) with _ | _
      · go_wp2_with fail
        go_round
        case rel => exact ⟨k + 1, by omega, by go_num, by rw [any_take_succ _ _ _ hkl, HK.out, ← HY.out, hxy]; rfl⟩
        case measure => simp [intOf]; omega
      · go_wp2_with fail
        go_ret
        exact ⟨ret_i64 (idxF_at hkl HK.out (by rw [← HY.out]; exact hxy)).symm, rfl⟩
    · go_wp2_with fail
      go_ret
      exact ⟨ret_i64 (idxF_none (any_take_all (by rw [HL.out]; omega) HK.out)).symm, rfl⟩
end Go.Proofs.Ytokmialpclcodaa
