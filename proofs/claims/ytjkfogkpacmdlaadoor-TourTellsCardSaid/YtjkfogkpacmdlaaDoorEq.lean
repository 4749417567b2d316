/- The reference's comparisons answer true of two slices that read as the same list. Conditions: both read so. -/
import Derived.Test.YtjkfogkpacmdlaaDoorProg
import Derived.Test.YtjkfogkpacmdlaaDoorWords
namespace Go.Proofs.YtjkfogkpacmdlaaDoor
open Go.RowKit
attribute [local go_sem] w_eq0 w_ne0 w_eq1 w_eq w_ne


set_option maxRecDepth 100000 in
theorem Ints_same (A A' : Option Addr) (n c c' : Nat) (l : List (Int)) (B B' : Nat) (w : World) (hl : l.length = n) (hn : n ≤ maxLen) (hr : Els w B 1 (fun a => [.int .i64 a]) A l) (hr' : Els w B' 1 (fun a => [.int .i64 a]) A' l) :
    Calls Tryd.prog 8 #[.slice A n c, .slice A' n c'] w fun e w' => e = .returned (.bool true) ∧ ∃ m, w' = w.drewN m := by
  unfold maxLen at hn
  have HL := Lib.hid hl
  clear hl
  go_enter Tryd.func8, Tryd.ntmps8
  go_wp2_with fail
  go_loopw [5] (fun i wr => ∃ k m : Nat, k ≤ n ∧ i = .int .i64 k ∧ wr = w.drewN m) (fun i _ => n - (intOf i).toNat)
  case atStart => exact ⟨0, 0, by omega, rfl, rfl⟩
  case round =>
    obtain ⟨k, m, hk, rfl, rfl⟩ := hrel
    by_cases hlt : k < n
    · have hkl : k < l.length := by rw [HL.out]; exact hlt
      obtain ⟨b, off, rfl, _, g0⟩ := hr.at1 hkl
      obtain ⟨b', off', rfl, _, g1⟩ := hr'.at1 hkl
      generalize l[k] = x at g0 g1
      clear hr hr'
      have hx : (x != x) = false := by simp
      go_wp2_with fail
      go_quiet (fail)
      go_wp2_with fail
      refine ⟨⟨k + 1, m + nq, by omega, by go_num, by first | rfl | rw [World.drewN_drewN]⟩, by simp [intOf]; omega⟩
    · obtain rfl : k = n := by omega
      go_wp2_with fail
      go_ret
      exact ⟨rfl, m, rfl⟩


end Go.Proofs.YtjkfogkpacmdlaaDoor
