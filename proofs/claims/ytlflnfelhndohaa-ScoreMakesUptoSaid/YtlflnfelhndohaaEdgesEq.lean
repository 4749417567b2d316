/- The comparison of two lists of edges that are the same. Conditions: both read as the list. -/
import Derived.Test.YtlflnfelhndohaaGraphA
import Derived.BigQuiet
namespace Go.Proofs.Ytlflnfelhndohaa
open Go.RowKit

set_option maxRecDepth 100000 in
theorem Edges_same (A A' : Option Addr) (n c c' : Nat) (l : List Ed) (B B' : Nat) (w : World) (hl : l.length = n) (hn : n ≤ maxLen) (hr : Els w B 3 Ed.cells A l) (hr' : Els w B' 3 Ed.cells A' l) :
    Calls Try.prog 23 #[.slice A n c, .slice A' n c'] w fun e w' => e = .returned (.bool true) ∧ ∃ m, w' = w.drewN m := by
  unfold maxLen at hn
  have HL := Lib.hid hl
  clear hl
  go_enter Try.func23, Try.ntmps23
  go_wp2_with fail
  go_loopw [5] (fun i wr => ∃ k m : Nat, k ≤ n ∧ i = .int .i64 k ∧ wr = w.drewN m) (fun i _ => n - (intOf i).toNat)
  case atStart => exact ⟨0, 0, by omega, rfl, rfl⟩
  case round =>
    obtain ⟨k, m, hk, rfl, rfl⟩ := hrel
    by_cases hlt : k < n
    · have hkl : k < l.length := by rw [HL.out]; exact hlt
      obtain ⟨b, off, rfl, _, g0, g1, g2⟩ := hr.at3 hkl
      obtain ⟨b', off', rfl, _, f0, f1, f2⟩ := hr'.at3 hkl
      obtain ⟨e, he⟩ : ∃ e, e = l[k] := ⟨_, rfl⟩
      rw [← he] at g0 g1 g2 f0 f1 f2
      generalize e.a = ea at g0 f0
      generalize e.b = eb at g1 f1
      generalize e.w = ew at g2 f2
      clear hr hr' he
      go_wp2_with fail
      go_quiet (fail)
      go_wp2_with fail
      refine ⟨⟨k + 1, m + nq, by omega, by go_num, by first | rfl | rw [World.drewN_drewN]⟩, by simp [intOf]; omega⟩
    · obtain rfl : k = n := by omega
      go_wp2_with fail
      go_ret
      exact ⟨rfl, m, rfl⟩
end Go.Proofs.Ytlflnfelhndohaa
