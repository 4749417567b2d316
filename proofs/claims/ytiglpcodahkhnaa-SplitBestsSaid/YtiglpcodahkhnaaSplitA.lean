/- Work for many hands: what is told to be wrong; all places. Conditions: the times read as a list. -/
import Derived.Test.YtiglpcodahkhnaaSplitP
import Derived.Test.YtiglpcodahkhnaaIdx
import Derived.Test.YtiglpcodahkhnaaCells
namespace Go.Proofs.Ytiglpcodahkhnaa
open Go.RowKit

theorem ent_swrong1 : Ent Try.prog 88 := ent_of Try.func88 (by kernel_rfl) rfl
theorem split_wrong1 (x : Int) (w : World) :
    Calls Try.prog 88 #[.int .i64 x] w fun e w' => e = .returned (.bool (handBad x)) ∧ w = w' := by
  by_cases h0 : x < 0
  · have HE : Hid (handBad x = true) := by show handBad x = true; simp [handBad, h0]
    go_enter Try.func88, Try.ntmps88
    go_wp2_with fail
    go_ret
    exact ⟨ret_bool (by rw [HE.out]), rfl⟩
  · have HE : Hid (handBad x = decide (1048576 < x)) := by show handBad x = _; simp [handBad, h0]
    go_enter Try.func88, Try.ntmps88
    go_wp2_with fail
    go_ret
    exact ⟨ret_bool (by rw [HE.out]), rfl⟩

set_option maxRecDepth 100000 in
theorem split_wrong (sz : List Int) (hands : Int) (A : Option Addr) (n c : Nat) (w : World) (hl : sz.length = n) (hn : n ≤ maxLen) (hr : Els w w.heap.size 1 icell A sz) :
    Calls Try.prog 54 #[.slice A n c, .int .i64 hands] w fun e w' => e = .returned (.int .i64 (splitCheck sz hands)) ∧ Below w.heap.size w w' := by
  have HN : Hid (splitCheck sz hands = if 8 < n then 1 else if hands < 1 ∨ 4 < hands then 4 else if sz.any handBad then 4 else 0) := by subst hl; rfl
  have HC := Lib.hid (ContainsFunc_longs 88 ent_swrong1 #[] handBad A n c sz w hl hn hr
    (fun a wx _ hb => by simpa using (split_wrong1 a wx).mono fun e w' ⟨he, hw⟩ => ⟨he, by subst hw; exact Below.refl _ _⟩))
  unfold maxLen at hn
  clear hl hr
  by_cases h8 : 8 < n
  · have HM := Lib.hid (HN.out.trans (if_pos h8))
    go_enter Try.func54, Try.ntmps54
    go_wp2_with fail
    go_ret
    exact ⟨ret_i64 (by rw [HM.out]), Below.refl _ _⟩
  by_cases h1 : hands < 1
  · have HM := Lib.hid ((HN.out.trans (if_neg h8)).trans (if_pos (.inl h1)))
    go_enter Try.func54, Try.ntmps54
    go_wp2_with fail
    go_ret
    exact ⟨ret_i64 (by rw [HM.out]), Below.refl _ _⟩
  by_cases h2 : 4 < hands
  · have HM := Lib.hid ((HN.out.trans (if_neg h8)).trans (if_pos (.inr h2)))
    go_enter Try.func54, Try.ntmps54
    go_wp2_with fail
    go_ret
    exact ⟨ret_i64 (by rw [HM.out]), Below.refl _ _⟩
  have HM := Lib.hid ((HN.out.trans (if_neg h8)).trans (if_neg (by omega)))
  clear HN
  rcases ha : sz.any handBad with _ | _
  all_goals
    have HA := Lib.hid ha
    clear ha
    go_enter Try.func54, Try.ntmps54
    go_wp2_with fail
    refine HC.out.mono ?_
    rintro e w' ⟨rfl, hb⟩
    rw [HA.out]
    go_wp2_with fail
    go_ret
    exact ⟨ret_i64 (by rw [HM.out, HA.out]; rfl), hb⟩

set_option maxRecDepth 100000 in
theorem ref_SplitCheck (sz : List Int) (hands : Int) (A : Option Addr) (n c : Nat) (w : World) (hl : sz.length = n) (hn : n ≤ maxLen) (hr : Els w w.heap.size 1 icell A sz) :
    Calls Try.prog 16 #[.slice A n c, .int .i64 hands] w fun e w' => e = .returned (.int .i64 (splitCheck sz hands)) ∧ w = w' := by
  have HN : Hid (splitCheck sz hands = if 8 < n then 1 else if hands < 1 ∨ 4 < hands then 4 else if sz.any handBad then 4 else 0) := by subst hl; rfl
  have HL := Lib.hid hl
  unfold maxLen at hn
  clear hl
  by_cases h8 : 8 < n
  · have HM := Lib.hid (HN.out.trans (if_pos h8))
    go_enter Try.func16, Try.ntmps16
    go_wp2_with fail
    go_ret
    exact ⟨ret_i64 (by rw [HM.out]), rfl⟩
  by_cases h1 : hands < 1
  · have HM := Lib.hid ((HN.out.trans (if_neg h8)).trans (if_pos (.inl h1)))
    go_enter Try.func16, Try.ntmps16
    go_wp2_with fail
    go_ret
    exact ⟨ret_i64 (by rw [HM.out]), rfl⟩
  by_cases h2 : 4 < hands
  · have HM := Lib.hid ((HN.out.trans (if_neg h8)).trans (if_pos (.inr h2)))
    go_enter Try.func16, Try.ntmps16
    go_wp2_with fail
    go_ret
    exact ⟨ret_i64 (by rw [HM.out]), rfl⟩
  have HM := Lib.hid ((HN.out.trans (if_neg h8)).trans (if_neg (by omega)))
  clear HN
  go_enter Try.func16, Try.ntmps16
  go_wp2_with fail
  go_loop [18] (fun i => ∃ k : Nat, k ≤ n ∧ i = .int .i64 k ∧ (sz.take k).any handBad = false) (fun i => n - (intOf i).toNat)
  case atStart => exact ⟨0, by omega, rfl, rfl⟩
  case round =>
    obtain ⟨k, hk, rfl, hno⟩ := hrel
    have HK := Lib.hid hno
    clear hno
    by_cases hlt : k < n
    · have hkl : k < sz.length := by rw [HL.out]; exact hlt
      obtain ⟨b, off, rfl, hbb, g0⟩ := hr.at1 hkl
      obtain ⟨x, hx⟩ : ∃ x, x = sz[k] := ⟨_, rfl⟩
      rw [← hx] at g0
      have HX := Lib.hid hx
      clear hx
      by_cases h0 : x < 0
      · have HB : Hid (handBad x = true) := by show handBad x = true; simp [handBad, h0]
        go_wp2_with fail
        go_ret
        exact ⟨ret_i64 (by rw [HM.out, if_pos (any_of_get hkl (by rw [← HX.out]; exact HB.out))]), rfl⟩
      · by_cases h12 : 1048576 < x
        · have HB : Hid (handBad x = true) := by show handBad x = true; simp [handBad, h12]
          go_wp2_with fail
          go_ret
          exact ⟨ret_i64 (by rw [HM.out, if_pos (any_of_get hkl (by rw [← HX.out]; exact HB.out))]), rfl⟩
        · have HB : Hid (handBad x = false) := by show handBad x = false; simp [handBad]; omega
          go_wp2_with fail
          go_round
          case rel => exact ⟨k + 1, by omega, by go_num, by rw [any_take_succ _ _ _ hkl, HK.out, ← HX.out, HB.out]; rfl⟩
          case measure => simp [intOf]; omega
    · go_wp2_with fail
      go_ret
      exact ⟨ret_i64 (by rw [HM.out, any_take_all (by rw [HL.out]; omega) HK.out]; rfl), rfl⟩

end Go.Proofs.Ytiglpcodahkhnaa
