/- The law QueueWorths: both tell the same. Conditions: the jobs read so. -/
import Derived.Test.YtpinhmhempbmoaaQueB
import Derived.Test.YtpinhmhempbmoaaQueR
import Derived.Test.YtpinhmhempbmoaaEq
namespace Go.Proofs.Ytpinhmhempbmoaa
open Go.RowKit

set_option maxRecDepth 100000 in
set_option maxHeartbeats 2000000 in
theorem law_QueueWorths (n : Nat) (A : Option Addr) (ca : Nat) (l : List Jb) (w : World) (hA : Els w w.heap.size 4 Jb.cells A l) (hal : l.length = n) (hn : n ≤ maxLen) :
    Calls Try.prog 5 #[.slice A n ca] w fun e w' => e = .returned (.bool true) ∧ Below w.heap.size w w' := by
  have HQ := Lib.hid (queue_Worth n A ca l w hA hal hn)
  have HA := Lib.hid hA
  have HAL := Lib.hid hal
  have HN := Lib.hid hn
  unfold maxLen at hn
  clear hA hal
  go_enter Try.func5, Try.ntmps5
  go_wp2_with fail
  refine HQ.out.mono ?_
  clear HQ
  rintro e w1 ⟨hb1, hs⟩
  have hA1 := (HA.out.below hb1).more hb1.size
  have HC := Lib.hid (ref_QueueCheck0 n A ca l w1 hA1 HAL.out HN.out)
  have HA1 := Lib.hid hA1
  have HW1 := Lib.hid hb1
  clear HA hA1 hb1
  unfold QueSaid at hs
  obtain ⟨tc, htc⟩ : ∃ tc, tc = queCheck Jb.y l := ⟨_, rfl⟩
  rw [← htc] at hs HC
  by_cases h0 : tc = 0
  · subst h0
    rw [if_pos rfl] at hs
    obtain ⟨A', cap, q, x, rfl, hbf, hels⟩ := hs
    obtain ⟨k7, hok⟩ := que_ok htc.symm
    have k7' : n ≤ 7 := by rw [← HAL.out]; exact k7
    have HBF := Lib.hid hbf
    have HELS := Lib.hid hels
    have HOK := Lib.hid hok
    clear hbf hels hok htc k7
    go_wp2_with fail
    refine HC.out.mono ?_
    clear HC
    rintro e w2 ⟨rfl, hb2⟩
    have hz2 := hb2.size
    have HB := Lib.hid (ref_best0 n A ca l w2 ((HA1.out.below hb2).more hz2) HAL.out k7' HOK.out)
    have HW2 := Lib.hid (HW1.out.trans (hb2.mono HW1.out.size))
    have HX2 := Lib.hid ((HELS.out.below hb2).more hz2)
    clear hb2 HELS
    go_wp2_with fail
    refine HB.out.mono ?_
    clear HB
    rintro e w3 ⟨A9, c9, q', y, rfl, hb3, hbf', he9⟩
    have hbq := hbf'
    rw [HBF.out] at hbf'
    obtain ⟨rfl, rfl⟩ : q = q' ∧ x = y := by simpa using hbf'
    have hql : (intsOf q).length = n := by
      rw [intsOf, List.length_map]
      exact (perms_ok (n := n) n [] (by simp) (by simp) q (bestF_mem _ hbq)).1
    have HI := Lib.hid (Ints_same A' A9 n cap c9 (intsOf q) _ _ w3 hql HN.out (HX2.out.below hb3) he9)
    have HW3 := Lib.hid (HW2.out.trans (hb3.mono HW2.out.size))
    clear hb3 hbf' hbq hql he9
    go_wp2_with fail
    refine HI.out.mono ?_
    clear HI
    rintro e w' ⟨rfl, md, rfl⟩
    go_wp2_with fail
    go_ret
    exact ⟨rfl, below_drewN HW3.out _⟩
  · rw [if_neg h0] at hs
    subst hs
    have h1 : (tc == 0) = false := by simpa using h0
    clear htc
    go_wp2_with fail
    refine HC.out.mono ?_
    clear HC
    rintro e w2 ⟨rfl, hb2⟩
    have HW2 := Lib.hid (HW1.out.trans (hb2.mono HW1.out.size))
    clear hb2
    go_wp2_with fail
    go_ret
    exact ⟨rfl, HW2.out⟩
theorem QueueWorths_row (s : Sls (Int × Sls Int × Int × Int)) (w : World) (h : s.Good w w.heap.size 4 jobCells (fun p => OkI p.1 ∧ p.2.1.Good w w.heap.size 1 (fun n : Int => [.int .i64 n]) OkI ∧ OkI p.2.2.1 ∧ OkI p.2.2.2)) :
    Calls Try.prog 5 #[s.val] w fun e w' => e = .returned (.bool true) ∧ Below w.heap.size w w' :=
  law_QueueWorths s.l.length s.A s.c (s.l.map Jb.of) w (h.2.2.1.map_ Jb.of fun _ _ => rfl) (by simp) h.1
end Go.Proofs.Ytpinhmhempbmoaa
