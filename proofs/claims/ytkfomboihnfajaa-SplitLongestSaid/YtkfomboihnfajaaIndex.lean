/- slices.Index, Min, Max at numbers. Conditions: the slice reads as a list. -/
import Derived.Test.YtkfomboihnfajaaProg
import Derived.Test.YtkfomboihnfajaaCells
import Derived.Test.YtkfomboihnfajaaSplitP
namespace Go.Proofs.Ytkfomboihnfajaa
open Go.RowKit

set_option maxRecDepth 100000 in
theorem Index_longs (x : Int) (A : Option Addr) (n c : Nat) (l : List Int) (B : Nat) (w : World) (hl : l.length = n) (hn : n ≤ maxLen) (hr : Els w B 1 icell A l) :
    Calls Try.prog 33 #[.slice A n c, .int .i64 x] w fun e w' => e = .returned (.int .i64 (idxF (fun y => x == y) l)) ∧ w = w' := by
  unfold maxLen at hn
  have HL := Lib.hid hl
  clear hl
  go_enter Try.func33, Try.ntmps33
  go_wp2_with fail
  go_loop [8] (fun i => ∃ k : Nat, k ≤ n ∧ i = .int .i64 k ∧ (l.take k).any (fun y => x == y) = false) (fun i => n - (intOf i).toNat)
  case atStart => exact ⟨0, by omega, rfl, rfl⟩
  case round =>
    obtain ⟨k, hk, rfl, hno⟩ := hrel
    have HK := Lib.hid hno
    clear hno
    by_cases hlt : k < n
    · have hkl : k < l.length := by rw [HL.out]; exact hlt
      obtain ⟨b, off, rfl, hbb, g0⟩ := hr.at1 hkl
      obtain ⟨y, hy⟩ : ∃ y, y = l[k] := ⟨_, rfl⟩
      rw [← hy] at g0
      have HY := Lib.hid hy
      clear hy
      rcases hxy : (x == y) with _ | _
      · go_wp2_with fail
        go_round
        case rel => exact ⟨k + 1, by omega, by go_num, by rw [any_take_succ _ _ _ hkl, HK.out, ← HY.out, hxy]; rfl⟩
        case measure => simp [intOf]; omega
      · go_wp2_with fail
        go_ret
        exact ⟨ret_i64 (idxF_at hkl HK.out (by rw [← HY.out]; exact hxy)).symm, rfl⟩
    · go_wp2_with fail
      go_ret
      exact ⟨ret_i64 (idxF_none (any_take_all (by rw [HL.out]; omega) HK.out)).symm, rfl⟩


set_option maxRecDepth 100000 in
theorem Min_longs (A : Option Addr) (n c : Nat) (l : List Int) (B : Nat) (w : World) (hl : l.length = n) (h0 : 0 < n) (hn : n ≤ maxLen) (hr : Els w B 1 icell A l) :
    Calls Try.prog 34 #[.slice A n c] w fun e w' => e = .returned (.int .i64 (l.getD (amF (fun j => l.getD j 0) (n - 1)) 0)) ∧ w = w' := by
  unfold maxLen at hn
  have HL := Lib.hid hl
  obtain ⟨b, off, rfl, _, g0⟩ := hr.at1 (k := 0) (by omega)
  rw [← getD_at l 0 (by omega) 0, Nat.add_zero] at g0
  have HZ : Hid (l.getD 0 0 = l.getD (amF (fun j => l.getD j 0) 0) 0) := rfl
  generalize l.getD 0 0 = z at g0 HZ
  clear hl
  have h1 : ¬ ((n : Int) < 1) := by omega
  go_enter Try.func34, Try.ntmps34
  go_wp2_with fail
  go_loop [4, 3] (fun i m => ∃ q : Nat, q + 1 ≤ n ∧ i = .int .i64 ((q + 1 : Nat) : Int) ∧ m = .int .i64 (l.getD (amF (fun j => l.getD j 0) q) 0)) (fun i _ => n - (intOf i).toNat)
  case atStart => exact ⟨0, by omega, rfl, by rw [HZ.out]⟩
  case round =>
    clear g0
    obtain ⟨q, hq, rfl, rfl⟩ := hrel
    by_cases hlt : q + 1 < n
    · have hkl : q + 1 < l.length := by rw [HL.out]; exact hlt
      obtain ⟨b', off', hA, _, g1⟩ := hr.at1 hkl
      obtain ⟨rfl, rfl⟩ : b = b' ∧ off = off' := by simpa using hA
      rw [← getD_at l (q + 1) hkl 0] at g1
      have hs : l.getD (amF (fun j => l.getD j 0) (q + 1)) 0 = if l.getD (q + 1) 0 < l.getD (amF (fun j => l.getD j 0) q) 0 then l.getD (q + 1) 0 else l.getD (amF (fun j => l.getD j 0) q) 0 := by
        rw [amF]
        split <;> rfl
      generalize l.getD (q + 1) 0 = x at g1 hs
      generalize l.getD (amF (fun j => l.getD j 0) q) 0 = y at hs
      have HS := Lib.hid hs
      clear hs hA
      go_wp2_with fail
      all_goals
        go_round
        case rel => exact ⟨q + 1, by omega, by go_num, by have h := HS.out; first | (rw [h]; done) | (rw [h]; congr 1; done) | (rw [h]; congr 1; split <;> omega)⟩
        case measure => simp [intOf]; omega
    · obtain rfl : n = q + 1 := by omega
      go_wp2_with fail
      go_ret
      exact ⟨rfl, rfl⟩

set_option maxRecDepth 100000 in
theorem Max_longs (A : Option Addr) (n c : Nat) (l : List Int) (B : Nat) (w : World) (hl : l.length = n) (h0 : 0 < n) (hn : n ≤ maxLen) (hpos : ∀ j, 0 ≤ l.getD j 0) (hr : Els w B 1 icell A l) :
    Calls Try.prog 35 #[.slice A n c] w fun e w' => e = .returned (.int .i64 (mxF (fun j => l.getD j 0) n)) ∧ w = w' := by
  unfold maxLen at hn
  have HL := Lib.hid hl
  obtain ⟨b, off, rfl, _, g0⟩ := hr.at1 (k := 0) (by omega)
  rw [← getD_at l 0 (by omega) 0, Nat.add_zero] at g0
  have hz : mxF (fun j => l.getD j 0) 1 = l.getD 0 0 := mxF_one _ (hpos 0)
  have HZ := Lib.hid hz
  clear hz
  generalize l.getD 0 0 = z at g0 HZ
  clear hl hpos
  have h1 : ¬ ((n : Int) < 1) := by omega
  go_enter Try.func35, Try.ntmps35
  go_wp2_with fail
  go_loop [4, 3] (fun i m => ∃ q : Nat, q + 1 ≤ n ∧ i = .int .i64 ((q + 1 : Nat) : Int) ∧ m = .int .i64 (mxF (fun j => l.getD j 0) (q + 1))) (fun i _ => n - (intOf i).toNat)
  case atStart => exact ⟨0, by omega, rfl, by rw [HZ.out]⟩
  case round =>
    clear g0
    obtain ⟨q, hq, rfl, rfl⟩ := hrel
    by_cases hlt : q + 1 < n
    · have hkl : q + 1 < l.length := by rw [HL.out]; exact hlt
      obtain ⟨b', off', hA, _, g1⟩ := hr.at1 hkl
      obtain ⟨rfl, rfl⟩ : b = b' ∧ off = off' := by simpa using hA
      rw [← getD_at l (q + 1) hkl 0] at g1
      have hs : mxF (fun j => l.getD j 0) (q + 1 + 1) = if mxF (fun j => l.getD j 0) (q + 1) < l.getD (q + 1) 0 then l.getD (q + 1) 0 else mxF (fun j => l.getD j 0) (q + 1) := rfl
      generalize l.getD (q + 1) 0 = x at g1 hs
      generalize mxF (fun j => l.getD j 0) (q + 1) = y at hs
      have HS := Lib.hid hs
      clear hs hA
      go_wp2_with fail
      all_goals
        go_round
        case rel => exact ⟨q + 1, by omega, by go_num, by have h := HS.out; first | (rw [h]; done) | (rw [h]; congr 1; done) | (rw [h]; congr 1; split <;> omega)⟩
        case measure => simp [intOf]; omega
    · obtain rfl : n = q + 1 := by omega
      go_wp2_with fail
      go_ret
      exact ⟨rfl, rfl⟩
end Go.Proofs.Ytkfomboihnfajaa
