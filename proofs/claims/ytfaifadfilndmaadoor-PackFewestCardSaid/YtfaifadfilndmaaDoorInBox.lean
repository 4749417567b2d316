/- What is in a box: the reference's walk. Conditions: the sizes and the boxes read as lists. -/
import Derived.Test.YtfaifadfilndmaaDoorPackP
import Derived.Test.YtfaifadfilndmaaDoorCells
import Derived.IntWalk
namespace Go.Proofs.YtfaifadfilndmaaDoor
open Go.RowKit

set_option maxRecDepth 100000 in
theorem ref_inBoxI (sz R : List Int) (j : Int) (A B : Option Addr) (n m c d : Nat) (BA BB : Nat) (w : World) (hn : sz.length = n) (hm : R.length = m) (hmn : m ≤ n) (h8 : n ≤ 8) (hb : ∀ i, 0 ≤ sz.getD i 0 ∧ sz.getD i 0 ≤ 1048576) (hr : Els w BA 1 icell A sz) (hR : Els w BB 1 icell B R) :
    Calls Tryd.prog 84 #[.slice A n c, .slice B m d, .int .i64 j] w fun e w' => e = .returned (.int .i64 (inB sz R j)) ∧ w = w' := by
  have HN := Lib.hid hn
  have HM := Lib.hid hm
  have HB := Lib.hid hb
  have HI : Hid (inB sz R j = inTo sz R j m) := by
    show inB sz R j = _
    unfold inB
    rw [hm]
  clear hn hm hb
  go_enter Tryd.func84, Tryd.ntmps84
  go_wp2_with fail
  go_loop [12, 7] (fun i v => ∃ k : Nat, k ≤ m ∧ i = .int .i64 k ∧ v = .int .i64 (inTo sz R j k)) (fun i _ => m - (intOf i).toNat)
  case atStart => exact ⟨0, by omega, rfl, rfl⟩
  case round =>
    obtain ⟨k, hk, rfl, rfl⟩ := hrel
    by_cases hlt : k < m
    · have hkR : k < R.length := by rw [HM.out]; exact hlt
      have hks : k < sz.length := by rw [HN.out]; omega
      obtain ⟨b, off, rfl, _, g0⟩ := hR.at1 hkR
      obtain ⟨b', off', rfl, _, g1⟩ := hr.at1 hks
      have e0 : R.getD k 0 = R[k] := getD_at R k hkR 0
      have e1 : sz.getD k 0 = sz[k] := getD_at sz k hks 0
      rw [← e0] at g0
      rw [← e1] at g1
      have hst : inTo sz R j (k + 1) = inTo sz R j k + if R.getD k 0 = j then sz.getD k 0 else 0 := rfl
      have hbd := inTo_bounds sz R j 1048576 HB.out k
      have hb1 := HB.out k
      generalize R.getD k 0 = r at g0 hst
      generalize sz.getD k 0 = s at g1 hst hb1
      generalize inTo sz R j k = z at hst hbd
      have HST := Lib.hid hst
      clear hst e0 e1
      by_cases hrj : r = j
      · have h1 : (r == j) = true := by simpa using hrj
        have HC := Lib.hid (HST.out.trans (by rw [if_pos hrj]))
        clear hrj
        go_wp2_with fail
        go_round
        case rel => exact ⟨k + 1, by omega, by go_num, by rw [HC.out]⟩
        case measure => simp [intOf]; omega
      · have h1 : (r == j) = false := by simpa using hrj
        have HC := Lib.hid (HST.out.trans (by rw [if_neg hrj]))
        clear hrj
        go_wp2_with fail
        go_round
        case rel => exact ⟨k + 1, by omega, by go_num, by rw [HC.out, Int.add_zero]⟩
        case measure => simp [intOf]; omega
    · obtain rfl : k = m := by omega
      go_wp2_with fail
      go_ret
      exact ⟨ret_i64 (by rw [HI.out]), rfl⟩

end Go.Proofs.YtfaifadfilndmaaDoor
