/- What workers and tasks are told to be wrong: the program and the reference compute the one function placeCheck. Conditions: the workers read as a list. -/
import Derived.Test.YthopiaggnbkjbaaDoorIdx
import Derived.Test.YthopiaggnbkjbaaDoorOpen
namespace Go.Proofs.YthopiaggnbkjbaaDoor
open Go.RowKit

abbrev Wk := Int × BitVec 32
abbrev wkcell (a : Wk) : List Value := [.int .i64 a.1, .int .u32 (wN a.2)]
def badRoom (a : Wk) : Bool := decide (a.1 < 0) || decide (12 < a.1)
def placeCheck (ws : List Wk) (m : Nat) : Int := if 6 < ws.length ∨ 12 < m then 1 else if ws.any badRoom then 4 else 0

theorem ent_place1 : Ent Tryd.prog 68 := ent_of Tryd.func68 (by kernel_rfl) rfl
theorem place_Check1 (a : Wk) (w : World) :
    Calls Tryd.prog 68 #[.agg #[.int .i64 a.1, .int .u32 (wN a.2)]] w fun e w' => e = .returned (.bool (badRoom a)) ∧ Below w.heap.size w w' := by
  obtain ⟨r, h⟩ := a
  by_cases h0 : r < 0
  · have e : badRoom (r, h) = true := by simp [badRoom, h0]
    have HE := Lib.hid e
    clear e
    go_enter Tryd.func68, Tryd.ntmps68
    go_wp2_with fail
    go_ret
    exact ⟨ret_bool (by rw [HE.out]), (Below.refl _ _).alloc (Nat.le_refl _) _⟩
  · have e : badRoom (r, h) = decide (12 < r) := by simp [badRoom, h0]
    have HE := Lib.hid e
    clear e
    go_enter Tryd.func68, Tryd.ntmps68
    go_wp2_with fail
    go_ret
    exact ⟨ret_bool (by rw [HE.out]), (Below.refl _ _).alloc (Nat.le_refl _) _⟩

theorem place_Check (A B : Option Addr) (n c m d : Nat) (ws : List Wk) (w : World) (hl : ws.length = n) (hn : n ≤ maxLen) (hr : Els w w.heap.size 2 wkcell A ws) (hm : m ≤ maxLen) :
    Calls Tryd.prog 50 #[.slice A n c, .slice B m d] w fun e w' => e = .returned (.int .i64 (placeCheck ws m)) ∧ Below w.heap.size w w' := by
  have HC := Lib.hid (ContainsFunc_workers 68 ent_place1 #[] badRoom A n c ws w hl hn hr (fun a wx _ hb => by simpa using (place_Check1 a wx).mono fun e w' ⟨he, hw⟩ => ⟨he, hw.mono hb.size⟩))
  have HN : Hid (placeCheck ws m = if 6 < n ∨ 12 < m then 1 else if ws.any badRoom then 4 else 0) := by subst hl; rfl
  unfold maxLen at hn hm
  clear hl hr
  by_cases h1 : 6 < n
  · go_enter Tryd.func50, Tryd.ntmps50
    go_wp2_with fail
    go_ret
    exact ⟨ret_i64 (by rw [HN.out, if_pos (.inl h1)]), Below.refl _ _⟩
  · by_cases h2 : 12 < m
    · go_enter Tryd.func50, Tryd.ntmps50
      go_wp2_with fail
      go_ret
      exact ⟨ret_i64 (by rw [HN.out, if_pos (.inr h2)]), Below.refl _ _⟩
    · have HN2 := HN.out
      rw [if_neg (by omega)] at HN2
      have HM := Lib.hid HN2
      clear HN2 HN
      rcases ha : ws.any badRoom with _ | _
      all_goals
        have HA := Lib.hid ha
        clear ha
        go_enter Tryd.func50, Tryd.ntmps50
        go_wp2_with fail
        refine HC.out.mono ?_
        rintro e w' ⟨rfl, hb⟩
        rw [HA.out]
        go_wp2_with fail
        go_ret
        exact ⟨ret_i64 (by rw [HM.out, HA.out]; rfl), hb⟩

set_option maxRecDepth 100000 in
theorem ref_PlaceCheck (A B : Option Addr) (n c m d : Nat) (ws : List Wk) (w : World) (hl : ws.length = n) (hn : n ≤ maxLen) (hr : Els w w.heap.size 2 wkcell A ws) (hm : m ≤ maxLen) :
    Calls Tryd.prog 25 #[.slice A n c, .slice B m d] w fun e w' => e = .returned (.int .i64 (placeCheck ws m)) ∧ Below w.heap.size w w' := by
  have HN : Hid (placeCheck ws m = if 6 < n ∨ 12 < m then 1 else if ws.any badRoom then 4 else 0) := by subst hl; rfl
  have HL := Lib.hid hl
  unfold maxLen at hn hm
  clear hl
  by_cases h1 : 6 < n
  · go_enter Tryd.func25, Tryd.ntmps25
    go_wp2_with fail
    go_ret
    exact ⟨ret_i64 (by rw [HN.out, if_pos (.inl h1)]), Below.refl _ _⟩
  · by_cases h2 : 12 < m
    · go_enter Tryd.func25, Tryd.ntmps25
      go_wp2_with fail
      go_ret
      exact ⟨ret_i64 (by rw [HN.out, if_pos (.inr h2)]), Below.refl _ _⟩
    · have HN2 := HN.out
      rw [if_neg (by omega)] at HN2
      have HM := Lib.hid HN2
      clear HN2 HN
      go_enter Tryd.func25, Tryd.ntmps25
      go_wp2_with fail
      go_loopw [17] (fun i wr => ∃ k : Nat, k ≤ n ∧ i = .int .i64 k ∧ Below w.heap.size w wr ∧ (ws.take k).any badRoom = false) (fun i _ => n - (intOf i).toNat)
      case atStart => exact ⟨0, by omega, rfl, Below.refl _ _, rfl⟩
      case round =>
        obtain ⟨k, hk, rfl, hb, hno⟩ := hrel
        have HK := Lib.hid hno
        clear hno
        by_cases hlt : k < n
        · have hkl : k < ws.length := by rw [HL.out]; exact hlt
          obtain ⟨b, off, rfl, hbb, g0, g1⟩ := (hr.below hb).at2 hkl
          obtain ⟨x, hx⟩ : ∃ x, x = ws[k] := ⟨_, rfl⟩
          rw [← hx] at g0 g1
          have HX := Lib.hid hx
          clear hx
          have hsz := hb.size
          by_cases h0 : x.1 < 0
          · have HB : Hid (badRoom x = true) := by show badRoom x = true; simp [badRoom, h0]
            go_wp2_with fail
            go_ret
            exact ⟨ret_i64 (by rw [HM.out, if_pos (any_of_get hkl (by rw [← HX.out]; exact HB.out))]), hb.alloc hsz _⟩
          · by_cases h12 : 12 < x.1
            · have HB : Hid (badRoom x = true) := by show badRoom x = true; simp [badRoom, h12]
              go_wp2_with fail
              go_ret
              exact ⟨ret_i64 (by rw [HM.out, if_pos (any_of_get hkl (by rw [← HX.out]; exact HB.out))]), hb.alloc hsz _⟩
            · have HB : Hid (badRoom x = false) := by show badRoom x = false; simp [badRoom]; omega
              go_wp2_with fail
              go_roundw
              case rel => exact ⟨k + 1, by omega, by go_num, hb.alloc hsz _, by rw [any_take_succ _ _ _ hkl, HK.out, ← HX.out, HB.out]; rfl⟩
              case measure => simp [intOf]; omega
        · go_wp2_with fail
          go_ret
          exact ⟨ret_i64 (by rw [HM.out, any_take_all (by rw [HL.out]; omega) HK.out]; rfl), hb⟩

end Go.Proofs.YthopiaggnbkjbaaDoor
