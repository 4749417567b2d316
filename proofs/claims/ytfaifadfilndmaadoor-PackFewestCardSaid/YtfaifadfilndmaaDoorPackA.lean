/- Things and boxes: what is told to be wrong; the places of all things. Conditions: the sizes read as a list. -/
import Derived.Test.YtfaifadfilndmaaDoorIdx
import Derived.Test.YtfaifadfilndmaaDoorOwn
import Derived.Test.YtfaifadfilndmaaDoorPackP
namespace Go.Proofs.YtfaifadfilndmaaDoor
open Go.RowKit

abbrev zcell (x : Int) : List Value := [.int .i64 x]
def sizeBad (room x : Int) : Bool := decide (x < 0) || decide (room < x)
def packCheck (sz : List Int) (room : Int) : Int := if 8 < sz.length then 1 else if room < 1 ∨ 1048576 < room then 4 else if sz.any (sizeBad room) then 4 else 0
theorem ent_wrong1 : Ent Tryd.prog 81 := ent_of Tryd.func81 (by kernel_rfl) rfl
theorem pack_wrong1 (x room : Int) (g : Nat) (w : World) (h : Blk w g 2 #[.int .i64 room]) :
    Calls Tryd.prog 81 #[.int .i64 x, .pointer (some ⟨g, 0, none⟩)] w fun e w' => e = .returned (.bool (sizeBad room x)) ∧ w = w' := by
  have c0 := h.cell 0
  clear h
  by_cases h0 : x < 0
  · have HE : Hid (sizeBad room x = true) := by show sizeBad room x = true; simp [sizeBad, h0]
    go_enter Tryd.func81, Tryd.ntmps81
    go_wp2_with fail
    go_ret
    exact ⟨ret_bool (by rw [HE.out]), rfl⟩
  · have HE : Hid (sizeBad room x = decide (room < x)) := by show sizeBad room x = _; simp [sizeBad, h0]
    go_enter Tryd.func81, Tryd.ntmps81
    go_wp2_with fail
    go_ret
    exact ⟨ret_bool (by rw [HE.out]), rfl⟩

set_option maxRecDepth 100000 in
theorem pack_wrong (sz : List Int) (room : Int) (A : Option Addr) (n c : Nat) (w : World) (hl : sz.length = n) (hn : n ≤ maxLen) (hr : Els w w.heap.size 1 zcell A sz) :
    Calls Tryd.prog 58 #[.slice A n c, .int .i64 room] w fun e w' => e = .returned (.int .i64 (packCheck sz room)) ∧ Below w.heap.size w w' := by
  have HN : Hid (packCheck sz room = if 8 < n then 1 else if room < 1 ∨ 1048576 < room then 4 else if sz.any (sizeBad room) then 4 else 0) := by subst hl; rfl
  have HB := Lib.hid ((Below.refl w.heap.size w).alloc (Nat.le_refl _) (.cells #[.int .i64 room] 2))
  have HC := Lib.hid (ContainsFunc_longs 81 ent_wrong1 #[.pointer (some ⟨w.heap.size, 0, none⟩)] (sizeBad room) A n c sz (w.alloc (.cells #[.int .i64 room] 2)) hl hn ((hr.alloc (Nat.le_refl _) _).more (by rw [size_alloc']; omega))
    (fun a wx _ hb => by
      have h := (Blk.new w 2 #[.int .i64 room]).below hb (by rw [size_alloc']; omega)
      simpa using (pack_wrong1 a room _ wx h).mono fun e w' ⟨he, hw⟩ => ⟨he, by subst hw; exact Below.refl _ _⟩))
  unfold maxLen at hn
  clear hl hr
  by_cases h8 : 8 < n
  · have HM := Lib.hid (HN.out.trans (if_pos h8))
    go_enter Tryd.func58, Tryd.ntmps58
    go_wp2_with fail
    go_ret
    exact ⟨ret_i64 (by rw [HM.out]), HB.out⟩
  by_cases h1 : room < 1
  · have HM := Lib.hid ((HN.out.trans (if_neg h8)).trans (if_pos (.inl h1)))
    go_enter Tryd.func58, Tryd.ntmps58
    go_wp2_with fail
    go_ret
    exact ⟨ret_i64 (by rw [HM.out]), HB.out⟩
  by_cases h2 : 1048576 < room
  · have HM := Lib.hid ((HN.out.trans (if_neg h8)).trans (if_pos (.inr h2)))
    go_enter Tryd.func58, Tryd.ntmps58
    go_wp2_with fail
    go_ret
    exact ⟨ret_i64 (by rw [HM.out]), HB.out⟩
  have HM := Lib.hid ((HN.out.trans (if_neg h8)).trans (if_neg (by omega)))
  clear HN
  rcases ha : sz.any (sizeBad room) with _ | _
  all_goals
    have HA := Lib.hid ha
    clear ha
    go_enter Tryd.func58, Tryd.ntmps58
    go_wp2_with fail
    refine HC.out.mono ?_
    rintro e w' ⟨rfl, hb⟩
    rw [HA.out]
    go_wp2_with fail
    go_ret
    exact ⟨ret_i64 (by rw [HM.out, HA.out]; rfl), HB.out.trans (hb.mono (by rw [size_alloc']; omega))⟩

set_option maxRecDepth 100000 in
theorem ref_PackCheck (sz : List Int) (room : Int) (A : Option Addr) (n c : Nat) (w : World) (hl : sz.length = n) (hn : n ≤ maxLen) (hr : Els w w.heap.size 1 zcell A sz) :
    Calls Tryd.prog 27 #[.slice A n c, .int .i64 room] w fun e w' => e = .returned (.int .i64 (packCheck sz room)) ∧ w = w' := by
  have HN : Hid (packCheck sz room = if 8 < n then 1 else if room < 1 ∨ 1048576 < room then 4 else if sz.any (sizeBad room) then 4 else 0) := by subst hl; rfl
  have HL := Lib.hid hl
  unfold maxLen at hn
  clear hl
  by_cases h8 : 8 < n
  · have HM := Lib.hid (HN.out.trans (if_pos h8))
    go_enter Tryd.func27, Tryd.ntmps27
    go_wp2_with fail
    go_ret
    exact ⟨ret_i64 (by rw [HM.out]), rfl⟩
  by_cases h1 : room < 1
  · have HM := Lib.hid ((HN.out.trans (if_neg h8)).trans (if_pos (.inl h1)))
    go_enter Tryd.func27, Tryd.ntmps27
    go_wp2_with fail
    go_ret
    exact ⟨ret_i64 (by rw [HM.out]), rfl⟩
  by_cases h2 : 1048576 < room
  · have HM := Lib.hid ((HN.out.trans (if_neg h8)).trans (if_pos (.inr h2)))
    go_enter Tryd.func27, Tryd.ntmps27
    go_wp2_with fail
    go_ret
    exact ⟨ret_i64 (by rw [HM.out]), rfl⟩
  have HM := Lib.hid ((HN.out.trans (if_neg h8)).trans (if_neg (by omega)))
  clear HN
  go_enter Tryd.func27, Tryd.ntmps27
  go_wp2_with fail
  go_loop [18] (fun i => ∃ k : Nat, k ≤ n ∧ i = .int .i64 k ∧ (sz.take k).any (sizeBad room) = false) (fun i => n - (intOf i).toNat)
  case atStart => exact ⟨0, by omega, rfl, rfl⟩
  case round =>
    obtain ⟨k, hk, rfl, hno⟩ := hrel
    have HK := Lib.hid hno
    clear hno
    by_cases hlt : k < n
    · have hkl : k < sz.length := by rw [HL.out]; exact hlt
      obtain ⟨b, off, rfl, hbb, g0⟩ := hr.at1 hkl
      obtain ⟨x, hx⟩ : ∃ x, x = sz[k] := ⟨_, rfl⟩
      rw [← hx] at g0
      have HX := Lib.hid hx
      clear hx
      by_cases h0 : x < 0
      · have HB : Hid (sizeBad room x = true) := by show sizeBad room x = true; simp [sizeBad, h0]
        go_wp2_with fail
        go_ret
        exact ⟨ret_i64 (by rw [HM.out, if_pos (any_of_get hkl (by rw [← HX.out]; exact HB.out))]), rfl⟩
      · by_cases h12 : room < x
        · have HB : Hid (sizeBad room x = true) := by show sizeBad room x = true; simp [sizeBad, h12]
          go_wp2_with fail
          go_ret
          exact ⟨ret_i64 (by rw [HM.out, if_pos (any_of_get hkl (by rw [← HX.out]; exact HB.out))]), rfl⟩
        · have HB : Hid (sizeBad room x = false) := by show sizeBad room x = false; simp [sizeBad]; omega
          go_wp2_with fail
          go_round
          case rel => exact ⟨k + 1, by omega, by go_num, by rw [any_take_succ _ _ _ hkl, HK.out, ← HX.out, HB.out]; rfl⟩
          case measure => simp [intOf]; omega
    · go_wp2_with fail
      go_ret
      exact ⟨ret_i64 (by rw [HM.out, any_take_all (by rw [HL.out]; omega) HK.out]; rfl), rfl⟩

end Go.Proofs.YtfaifadfilndmaaDoor
