/- The law QueueManies: both tell the same. Conditions: the jobs read so. -/
import Derived.Test.YtokmialpclcodaaMoorD
import Derived.Test.YtokmialpclcodaaMoorE
import Derived.Test.YtokmialpclcodaaQueC
namespace Go.Proofs.Ytokmialpclcodaa
open Go.RowKit

set_option maxRecDepth 100000 in
set_option maxHeartbeats 1000000 in
theorem law_QueueManies (n : Nat) (A : Option Addr) (ca : Nat) (l : List Jb) (w : World) (hA : Els w w.heap.size 4 Jb.cells A l) (hal : l.length = n) (hn : n ≤ maxLen) :
    Calls Try.prog 3 #[.slice A n ca] w fun e w' => e = .returned (.bool true) ∧ Below w.heap.size w w' := by
  have HQ := Lib.hid (queue_Many n A ca l w hA hal hn)
  have HA := Lib.hid hA
  have HAL := Lib.hid hal
  have HN := Lib.hid hn
  unfold maxLen at hn
  clear hA hal
  go_enter Try.func3, Try.ntmps3
  go_wp2_with fail
  refine HQ.out.mono ?_
  clear HQ
  rintro e w1 ⟨hb1, hs⟩
  have hA1 := (HA.out.below hb1).more hb1.size
  have HC := Lib.hid (ref_QueueCheck1 n A ca l w1 hA1 HAL.out HN.out)
  have HA1 := Lib.hid hA1
  have HW1 := Lib.hid hb1
  clear HA hA1 hb1
  obtain ⟨tc, htc⟩ : ∃ tc, tc = queCheck Jb.x l := ⟨_, rfl⟩
  rw [← htc] at hs HC
  rcases hs with ⟨h0, K, hK, rfl⟩ | ⟨h0, rfl⟩
  · subst h0
    obtain ⟨k7, hok⟩ := que_ok htc.symm
    have k7' : n ≤ 7 := by rw [← HAL.out]; exact k7
    have HOK := Lib.hid hok
    have hbt := bestTo_is l (by omega) hK
    rw [HAL.out] at hbt
    have hKn := hK.sub.length_le
    rw [jobsS_length, HAL.out] at hKn
    obtain ⟨m, hm⟩ : ∃ m, m = K.length := ⟨_, rfl⟩
    rw [← hm] at hbt hKn ⊢
    have HBT := Lib.hid hbt
    clear hok htc k7 hbt hm
    go_wp2_with fail
    refine HC.out.mono ?_
    clear HC
    rintro e w2 ⟨rfl, hb2⟩
    have hz2 := hb2.size
    have HO := Lib.hid (ref_OnTime n A ca l w2 ((HA1.out.below hb2).more hz2) HAL.out k7' HOK.out)
    rw [HBT.out] at HO
    have HW2 := Lib.hid (HW1.out.trans (hb2.mono HW1.out.size))
    clear hb2
    go_wp2_with fail
    refine HO.out.mono ?_
    clear HO
    rintro e w3 ⟨rfl, hb3⟩
    have HW3 := Lib.hid (HW2.out.trans (hb3.mono HW2.out.size))
    clear hb3
    go_wp2_with fail
    go_ret
    exact ⟨rfl, HW3.out⟩
  · have h1 : (tc == 0) = false := by simpa using h0
    have h2 : (tc != 0) = true := by simpa using h0
    clear htc h0
    go_wp2_with fail
    refine HC.out.mono ?_
    clear HC
    rintro e w2 ⟨rfl, hb2⟩
    have HW2 := Lib.hid (HW1.out.trans (hb2.mono HW1.out.size))
    clear hb2
    go_wp2_with fail
    go_ret
    exact ⟨rfl, HW2.out⟩
theorem QueueManies_row (s : Sls (Int × Sls Int × Int × Int)) (w : World) (h : s.Good w w.heap.size 4 jobCells (fun p => OkI p.1 ∧ p.2.1.Good w w.heap.size 1 (fun n : Int => [.int .i64 n]) OkI ∧ OkI p.2.2.1 ∧ OkI p.2.2.2)) :
    Calls Try.prog 3 #[s.val] w fun e w' => e = .returned (.bool true) ∧ Below w.heap.size w w' :=
  law_QueueManies s.l.length s.A s.c (s.l.map Jb.of) w (h.2.2.1.map_ Jb.of fun _ _ => rfl) (by simp) h.1
end Go.Proofs.Ytokmialpclcodaa
