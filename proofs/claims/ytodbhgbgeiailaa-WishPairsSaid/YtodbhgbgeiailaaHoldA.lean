/- What the program and the reference ask of one list: rank, rather, owner. Conditions: the slices read as lists. -/
import Derived.Test.YtodbhgbgeiailaaHoldP
namespace Go.Proofs.Ytodbhgbgeiailaa
open Go.RowKit

theorem bool_cases (b : Bool) : b = false ∨ b = true := by cases b <;> simp
set_option maxRecDepth 100000 in
theorem Index_ints (x : Int) (A : Option Addr) (n c : Nat) (l : List Int) (B : Nat) (w : World) (hl : l.length = n) (hn : n ≤ maxLen) (hr : Els w B 1 icell A l) :
    Calls Try.prog 79 #[.slice A n c, .int .i64 x] w fun e w' => e = .returned (.int .i64 (idxI x l)) ∧ w = w' := by
  unfold maxLen at hn
  have HL := Lib.hid hl
  clear hl
  go_enter Try.func79, Try.ntmps79
  go_wp2_with fail
  go_loop [8] (fun i => ∃ k : Nat, k ≤ n ∧ i = .int .i64 k ∧ (l.take k).any (fun y => x == y) = false) (fun i => n - (intOf i).toNat)
  case atStart => exact ⟨0, by omega, rfl, rfl⟩
  case round =>
    obtain ⟨k, hk, rfl, hno⟩ := hrel
    have HK := Lib.hid hno
    clear hno
    by_cases hlt : k < n
    · have hkl : k < l.length := by rw [HL.out]; exact hlt
      obtain ⟨b, off, rfl, hbb, g0⟩ := hr.at1 hkl
      obtain ⟨y, hy⟩ : ∃ y, y = l[k] := ⟨_, rfl⟩
      rw [← hy] at g0
      have HY := Lib.hid hy
      clear hy
      rcases hxy : (x == y) with _ | _
      · go_wp2_with fail
        go_round
        case rel => exact ⟨k + 1, by omega, by go_num, by rw [any_take_succ _ _ _ hkl, HK.out, ← HY.out, hxy]; rfl⟩
        case measure => simp [intOf]; omega
      · go_wp2_with fail
        go_ret
        exact ⟨ret_i64 (idxF_at hkl HK.out (by rw [← HY.out]; exact hxy)).symm, rfl⟩
    · go_wp2_with fail
      go_ret
      exact ⟨ret_i64 (idxF_none (any_take_all (by rw [HL.out]; omega) HK.out)).symm, rfl⟩
set_option maxRecDepth 100000 in
theorem wish_rank (x : Int) (A : Option Addr) (n c : Nat) (l : List Int) (B : Nat) (w : World) (hl : l.length = n) (hn : n ≤ maxLen) (hr : Els w B 1 icell A l) :
    Calls Try.prog 50 #[.slice A n c, .int .i64 x] w fun e w' => e = .returned (.int .i64 (rankI x l)) ∧ w = w' := by
  have HI := Lib.hid (Index_ints x A n c l B w hl hn hr)
  have HR : Hid (rankI x l = if 0 ≤ idxI x l then idxI x l else 8) := Lib.hid rfl
  clear hl hn hr
  go_enter Try.func50, Try.ntmps50
  go_wp2_with fail
  refine HI.out.mono ?_
  rintro e w' ⟨rfl, rfl⟩
  obtain ⟨k, hk⟩ : ∃ k, k = idxI x l := ⟨_, rfl⟩
  rw [← hk] at HR ⊢
  clear hk HI
  by_cases h : 0 ≤ k
  · go_wp2_with fail
    go_ret
    exact ⟨ret_i64 (by rw [HR.out, if_pos h]), rfl⟩
  · go_wp2_with fail
    go_ret
    exact ⟨ret_i64 (by rw [HR.out, if_neg (by omega)]), rfl⟩
set_option maxRecDepth 100000 in
theorem ref_owner (x : Int) (A : Option Addr) (n c : Nat) (l : List Int) (B : Nat) (w : World) (hl : l.length = n) (hn : n ≤ maxLen) (hr : Els w B 1 icell A l) :
    Calls Try.prog 109 #[.slice A n c, .int .i64 x] w fun e w' => e = .returned (.int .i64 (idxI x l)) ∧ w = w' := by
  unfold maxLen at hn
  have HL := Lib.hid hl
  clear hl
  go_enter Try.func109, Try.ntmps109
  go_wp2_with fail
  go_loop [9] (fun i => ∃ k : Nat, k ≤ n ∧ i = .int .i64 k ∧ (l.take k).any (fun y => x == y) = false) (fun i => n - (intOf i).toNat)
  case atStart => exact ⟨0, by omega, rfl, rfl⟩
  case round =>
    obtain ⟨k, hk, rfl, hno⟩ := hrel
    have HK := Lib.hid hno
    clear hno
    by_cases hlt : k < n
    · have hkl : k < l.length := by rw [HL.out]; exact hlt
      obtain ⟨b, off, rfl, hbb, g0⟩ := hr.at1 hkl
      obtain ⟨y, hy⟩ : ∃ y, y = l[k] := ⟨_, rfl⟩
      rw [← hy] at g0
      have HY := Lib.hid hy
      have hc : (x == y) = (y == x) := by rw [Bool.eq_iff_iff]; simp; exact eq_comm
      have HC := Lib.hid hc
      clear hy hc
      rcases hxy : (y == x) with _ | _
      · have HXY := Lib.hid hxy
        go_wp2_with fail
        go_round
        case rel => exact ⟨k + 1, by omega, by go_num, by rw [any_take_succ _ _ _ hkl, HK.out, ← HY.out, HC.out, HXY.out]; rfl⟩
        case measure => simp [intOf]; omega
      · have HXY := Lib.hid hxy
        go_wp2_with fail
        go_ret
        exact ⟨ret_i64 (idxF_at hkl HK.out (by rw [← HY.out, HC.out]; exact HXY.out)).symm, rfl⟩
    · go_wp2_with fail
      go_ret
      exact ⟨ret_i64 (idxF_none (any_take_all (by rw [HL.out]; omega) HK.out)).symm, rfl⟩
set_option maxRecDepth 100000 in
theorem ref_rather (a b : Int) (A : Option Addr) (n c : Nat) (l : List Int) (B : Nat) (w : World) (hl : l.length = n) (hn : n ≤ maxLen) (hr : Els w B 1 icell A l) :
    Calls Try.prog 51 #[.slice A n c, .int .i64 a, .int .i64 b] w fun e w' => e = .returned (.bool (ratherB a b l)) ∧ w = w' := by
  unfold maxLen at hn
  have HL := Lib.hid hl
  clear hl
  go_enter Try.func51, Try.ntmps51
  go_wp2_with fail
  go_loop [11] (fun i => ∃ k : Nat, k ≤ n ∧ i = .int .i64 k ∧ ratherB a b (l.drop k) = ratherB a b l) (fun i => n - (intOf i).toNat)
  case atStart => exact ⟨0, by omega, rfl, rfl⟩
  case round =>
    obtain ⟨k, hk, rfl, hno⟩ := hrel
    have HK := Lib.hid hno
    clear hno
    by_cases hlt : k < n
    · have hkl : k < l.length := by rw [HL.out]; exact hlt
      obtain ⟨b', off, rfl, hbb, g0⟩ := hr.at1 hkl
      have hd := drop_at l k hkl
      obtain ⟨y, hy⟩ : ∃ y, y = l[k] := ⟨_, rfl⟩
      rw [← hy] at g0 hd
      have HD : Hid (ratherB a b (l.drop k) = if y = b then false else if y = a then true else ratherB a b (l.drop (k + 1))) := Lib.hid (by rw [hd, ratherB])
      clear hy hd
      by_cases h1 : y = b
      · have h1' : (y == b) = true := by simpa using h1
        have HE := Lib.hid (show ratherB a b l = false by rw [← HK.out, HD.out, if_pos h1])
        clear h1
        go_wp2_with fail
        go_ret
        exact ⟨ret_bool HE.out.symm, rfl⟩
      · have h1' : (y == b) = false := by simpa using h1
        by_cases h2 : y = a
        · have h2' : (y == a) = true := by simpa using h2
          have HE := Lib.hid (show ratherB a b l = true by rw [← HK.out, HD.out, if_neg h1, if_pos h2])
          clear h1 h2
          go_wp2_with fail
          go_ret
          exact ⟨ret_bool HE.out.symm, rfl⟩
        · have h2' : (y == a) = false := by simpa using h2
          have HE := Lib.hid (show ratherB a b (l.drop (k + 1)) = ratherB a b l by rw [← HK.out, HD.out, if_neg h1, if_neg h2])
          clear h1 h2
          go_wp2_with fail
          go_round
          case rel => exact ⟨k + 1, by omega, by go_num, HE.out⟩
          case measure => simp [intOf]; omega
    · have HE := Lib.hid (show ratherB a b l = false by rw [← HK.out, List.drop_eq_nil_of_le (by rw [HL.out]; omega)]; rfl)
      go_wp2_with fail
      go_ret
      exact ⟨ret_bool HE.out.symm, rfl⟩
end Go.Proofs.Ytodbhgbgeiailaa
