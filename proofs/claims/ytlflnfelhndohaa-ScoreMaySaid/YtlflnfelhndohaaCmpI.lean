/- Comparing two numbers, and the first that is not 0. Conditions: none. -/
import Derived.Test.YtlflnfelhndohaaProg
import Derived.Test.YtlflnfelhndohaaWords
namespace Go.Proofs.Ytlflnfelhndohaa
open Go.RowKit

def cmpI (a b : Int) : Int := if a < b then -1 else if b < a then 1 else 0
def orI (a b : Int) : Int := if a = 0 then b else a
set_option maxRecDepth 100000 in
theorem isNaN_int (a : Int) (w : World) : Calls Try.prog 97 #[.int .i64 a] w fun e w' => e = .returned (.bool false) ∧ w' = w := by
  have h : (a != a) = false := by simp
  go_enter Try.func97, Try.ntmps97
  go_wp2_with fail
  go_ret
  exact ⟨rfl, rfl⟩
set_option maxRecDepth 100000 in
theorem compare_int (a b : Int) (w : World) : Calls Try.prog 67 #[.int .i64 a, .int .i64 b] w fun e w' => e = .returned (.int .i64 (cmpI a b)) ∧ w' = w := by
  have HA := Lib.hid (isNaN_int a w)
  have HB := Lib.hid (isNaN_int b w)
  go_enter Try.func67, Try.ntmps67
  go_wp2_with fail
  refine HA.out.mono ?_
  rintro e w1 ⟨rfl, rfl⟩
  go_wp2_with fail
  refine HB.out.mono ?_
  rintro e w2 ⟨rfl, rfl⟩
  by_cases h1 : a < b
  · have h1' := decide_eq_true h1
    have HC : Hid (cmpI a b = -1) := Lib.hid (by unfold cmpI; rw [if_pos h1])
    go_wp2_with fail
    go_ret
    exact ⟨by rw [HC.out]; rfl, rfl⟩
  · have h1' := decide_eq_false h1
    by_cases h2 : b < a
    · have h2' := decide_eq_true h2
      have HC : Hid (cmpI a b = 1) := Lib.hid (by unfold cmpI; rw [if_neg h1, if_pos h2])
      go_wp2_with fail
      go_ret
      exact ⟨by rw [HC.out]; rfl, rfl⟩
    · have h2' := decide_eq_false h2
      have HC : Hid (cmpI a b = 0) := Lib.hid (by unfold cmpI; rw [if_neg h1, if_neg h2])
      go_wp2_with fail
      go_ret
      exact ⟨by rw [HC.out]; rfl, rfl⟩
set_option maxRecDepth 100000 in
set_option maxHeartbeats 1000000 in
theorem or_two (a b : Int) (g : Nat) (w : World) (h : Blk w g 3 #[.int .i64 a, .int .i64 b]) : Calls Try.prog 66 #[.slice (some ⟨g, 0, none⟩) 2 2] w fun e w' => e = .returned (.int .i64 (orI a b)) ∧ w' = w := by
  have c0 := h.cell 0
  have c1 := h.cell 1
  clear h
  go_enter Try.func66, Try.ntmps66
  go_wp2_with fail
  go_loopw [8] (fun s8 wr => ∃ k : Nat, k ≤ 2 ∧ s8 = .int .i64 k ∧ wr = w ∧ (0 < k → a = 0) ∧ (1 < k → b = 0)) (fun s8 _ => 2 - (intOf s8).toNat)
  case atStart => exact ⟨0, by omega, rfl, rfl, fun h => absurd h (by omega), fun h => absurd h (by omega)⟩
  case round =>
    obtain ⟨k, hk, rfl, rfl, ha, hb⟩ := hrel
    have HA := Lib.hid ha
    have HB := Lib.hid hb
    clear ha hb
    match k, hk with
    | 0, _ =>
      by_cases h0 : a = 0
      · have hne : (a != 0) = false := by simp [h0]
        have H0 := Lib.hid h0
        clear h0
        go_wp2_with fail
        refine ⟨⟨1, by omega, by go_num, trivial, fun _ => H0.out, fun h => absurd h (by omega)⟩, by simp [intOf]⟩
      · have hne : (a != 0) = true := by simpa using h0
        have HO : Hid (orI a b = a) := Lib.hid (by unfold orI; rw [if_neg h0])
        clear h0
        go_wp2_with fail
        go_ret
        exact ⟨by rw [HO.out]; rfl, rfl⟩
    | 1, _ =>
      have ha0 := HA.out (by omega)
      by_cases h0 : b = 0
      · have hne : (b != 0) = false := by simp [h0]
        have H0 := Lib.hid h0
        have H1 := Lib.hid ha0
        clear h0 ha0
        go_wp2_with fail
        refine ⟨⟨2, by omega, by go_num, trivial, fun _ => H1.out, fun _ => H0.out⟩, by simp [intOf]⟩
      · have hne : (b != 0) = true := by simpa using h0
        have HO : Hid (orI a b = b) := Lib.hid (by unfold orI; rw [if_pos ha0])
        clear h0 ha0
        go_wp2_with fail
        go_ret
        exact ⟨by rw [HO.out]; rfl, rfl⟩
    | 2, _ =>
      have HO : Hid (orI a b = 0) := Lib.hid (by unfold orI; rw [if_pos (HA.out (by omega)), HB.out (by omega)])
      go_wp2_with fail
      go_ret
      exact ⟨by rw [HO.out]; rfl, rfl⟩
end Go.Proofs.Ytlflnfelhndohaa
