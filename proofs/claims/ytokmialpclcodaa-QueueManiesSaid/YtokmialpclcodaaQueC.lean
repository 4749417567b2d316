/- Jobs: what the reference tells to be wrong with their times and when they are due. Conditions: the jobs read so. -/
import Derived.Test.YtokmialpclcodaaQueP
import Derived.Test.YtokmialpclcodaaCells
import Derived.IntWalk
namespace Go.Proofs.Ytokmialpclcodaa
open Go.RowKit

theorem anyJ_take_succ {p : Jb → Bool} (a : List Jb) {k : Nat} (h : k < a.length) : (a.take (k + 1)).any p = ((a.take k).any p || p (jAt a k)) := by
  unfold jAt
  rw [List.take_add_one, List.getElem?_eq_getElem h, Option.toList_some, List.any_append, List.getD_eq_getElem?_getD, List.getElem?_eq_getElem h]
  simp

set_option maxRecDepth 100000 in
set_option maxHeartbeats 1000000 in
theorem ref_QueueCheck1 (n : Nat) (A : Option Addr) (ca : Nat) (l : List Jb) (w : World) (hA : Els w w.heap.size 4 Jb.cells A l) (hal : l.length = n) (hn : n ≤ maxLen) :
    Calls Try.prog 10 #[.slice A n ca, .int .i64 1] w fun e w' => e = .returned (.int .i64 (queCheck Jb.x l)) ∧ Below w.heap.size w w' := by
  have HTC : Hid (queCheck Jb.x l = if 7 < n then 1 else if l.any (badJ Jb.x) then 4 else 0) := Lib.hid (by unfold queCheck; rw [hal])
  have HA := Lib.hid hA
  have HAL := Lib.hid hal
  clear hA hal
  unfold maxLen at hn
  go_enter Try.func10, Try.ntmps10
  by_cases h7 : 7 < n
  · have hd : decide ((7 : Int) < (n : Int)) = true := decide_eq_true (by omega)
    rw [if_pos h7] at HTC
    go_wp2_with fail
    go_ret
    exact ⟨by rw [HTC.out]; rfl, Below.refl _ _⟩
  have hd : decide ((7 : Int) < (n : Int)) = false := decide_eq_false (by omega)
  rw [if_neg h7] at HTC
  go_wp2_with fail
  go_loopw [13] (fun s5 wr => ∃ k : Nat, k ≤ n ∧ s5 = .int .i64 k ∧ Below w.heap.size w wr ∧ (l.take k).any (badJ Jb.x) = false) (fun s5 _ => n - (intOf s5).toNat)
  case atStart => exact ⟨0, by omega, rfl, Below.refl _ _, rfl⟩
  case round =>
    obtain ⟨k, hk, rfl, hb, hta⟩ := hrel
    have HB := Lib.hid hb
    by_cases hlt : k < n
    · have hka : k < l.length := by rw [HAL.out]; exact hlt
      have HSA := Lib.hid (anyJ_take_succ (p := badJ Jb.x) l hka)
      rw [hta, Bool.false_or] at HSA
      obtain ⟨ba, oa, rfl, _, g1, g2, g3, g4⟩ := (HA.out.below hb).at4 (k := k) hka
      have hgd : l[k] = jAt l k := (getD_at l k hka _).symm
      have HMA : Hid (jAt l k ∈ l) := Lib.hid (by rw [← hgd]; exact List.getElem_mem hka)
      rw [hgd] at g1 g2 g3 g4
      obtain ⟨x, hx⟩ : ∃ x, x = jAt l k := ⟨_, rfl⟩
      rw [← hx] at g1 g2 g3 g4 HSA HMA
      clear hx hta hgd hka
      have BAD : Hid (badJ Jb.x x = true → queCheck Jb.x l = 4) := Lib.hid (fun h => by rw [HTC.out, if_pos (List.any_eq_true.2 ⟨x, HMA.out, h⟩)])
      obtain ⟨t, sl, xx, yy⟩ := x
      simp only at g1 g2 g3 g4
      have HB1 := Lib.hid (hb.trans (((Below.refl wr.heap.size wr).alloc (Nat.le_refl _) (.cells #[.int .i64 t, sl.val, .int .i64 xx, .int .i64 yy] 77)).mono hb.size))
      clear hb
      by_cases x0 : t < 0
      · have BD : Hid (queCheck Jb.x l = 4) := Lib.hid (BAD.out (by simp [badJ, outB, x0]))
        go_wp2_with fail
        go_ret
        exact ⟨by rw [BD.out]; rfl, HB1.out⟩
      by_cases x1 : 1048576 < t
      · have BD : Hid (queCheck Jb.x l = 4) := Lib.hid (BAD.out (by simp [badJ, outB, x1]))
        go_wp2_with fail
        go_ret
        exact ⟨by rw [BD.out]; rfl, HB1.out⟩
      by_cases y0 : xx < 0
      · have BD : Hid (queCheck Jb.x l = 4) := Lib.hid (BAD.out (by simp [badJ, outB, y0]))
        go_wp2_with fail
        go_ret
        exact ⟨by rw [BD.out]; rfl, HB1.out⟩
      by_cases y1 : 1048576 < xx
      · have BD : Hid (queCheck Jb.x l = 4) := Lib.hid (BAD.out (by simp [badJ, outB, y1]))
        go_wp2_with fail
        go_ret
        exact ⟨by rw [BD.out]; rfl, HB1.out⟩
      have FA : Hid ((l.take (k + 1)).any (badJ Jb.x) = false) := Lib.hid (by rw [HSA.out]; simp [badJ, outB]; omega)
      go_wp2_with fail
      refine ⟨⟨k + 1, by omega, by go_num, HB1.out, FA.out⟩, by simp [intOf]; omega⟩
    · obtain rfl : k = n := by omega
      have HT : Hid (queCheck Jb.x l = 0) := Lib.hid (by
        rw [List.take_of_length_le (by rw [HAL.out]; exact Nat.le_refl _)] at hta
        rw [HTC.out, hta]; rfl)
      clear hta
      go_wp2_with fail
      go_ret
      exact ⟨by rw [HT.out]; rfl, HB.out⟩

end Go.Proofs.Ytokmialpclcodaa
