/- The comparison of two tables that hold the same. Conditions: both tables. -/
import Derived.Test.YtdleajoagcopgaaDoorMat
import Derived.Test.YtdleajoagcopgaaDoorEq
import Derived.BigQuiet
namespace Go.Proofs.YtdleajoagcopgaaDoor
open Go.RowKit

set_option maxRecDepth 100000 in
set_option maxHeartbeats 1000000 in
theorem Lists_same (N : Nat) (A A' : Option Addr) (c c' B B' : Nat) (P P' : List (Nat × Nat)) (M M' : Nat → Nat → Int) (w : World) (hP : P.length = N) (hP' : P'.length = N) (hN : N ≤ 10) (h : Mat w B N A c P M) (h' : Mat w B' N A' c' P' M')
    (he : ∀ i j, i < N → j < N → M i j = M' i j) :
    Calls Tryd.prog 10 #[.slice A N c, .slice A' N c'] w fun e w' => e = .returned (.bool true) ∧ ∃ m, w' = w.drewN m := by
  have HM := Lib.hid h
  have HM' := Lib.hid h'
  have HE := Lib.hid he
  have HP := Lib.hid hP
  have HP' := Lib.hid hP'
  clear h h' he hP hP'
  go_enter Tryd.func10, Tryd.ntmps10
  go_wp2_with fail
  go_loopw [5] (fun i wr => ∃ k m : Nat, k ≤ N ∧ i = .int .i64 k ∧ wr = w.drewN m) (fun i _ => N - (intOf i).toNat)
  case atStart => exact ⟨0, 0, by omega, rfl, rfl⟩
  case round =>
    obtain ⟨k, m, hk, rfl, rfl⟩ := hrel
    by_cases hlt : k < N
    · obtain ⟨g, rfl, _, _, _, e1, _, _, _⟩ := HM.out.at_ (i := k) (by rw [HP.out]; exact hlt)
      obtain ⟨g', rfl, _, _, _, e2, _, _, _⟩ := HM'.out.at_ (i := k) (by rw [HP'.out]; exact hlt)
      have hr := HM.out.row k (by rw [HP.out]; exact hlt)
      have hr' := HM'.out.row k (by rw [HP'.out]; exact hlt)
      rw [show rowL N (M' k) = rowL N (M k) from mapR_congr fun j hj => (HE.out k j hlt hj).symm] at hr'
      obtain ⟨p, hp⟩ : ∃ p, p = pAt P k := ⟨_, rfl⟩
      obtain ⟨p', hp'⟩ : ∃ p', p' = pAt P' k := ⟨_, rfl⟩
      rw [← hp] at e1 hr
      rw [← hp'] at e2 hr'
      obtain ⟨ga, ca⟩ := p
      obtain ⟨gb, cb⟩ := p'
      simp only at e1 e2 hr hr'
      have HI : Hid (∀ q, Calls Tryd.prog 13 #[.slice (some ⟨ga, 0, none⟩) N ca, .slice (some ⟨gb, 0, none⟩) N cb] (w.drewN q) fun e w' => e = .returned (.bool true) ∧ ∃ m, w' = (w.drewN q).drewN m) := Lib.hid (fun q =>
        Ints_same _ _ N ca cb (rowL N (M k)) w.heap.size w.heap.size (w.drewN q) (rowL_len _ _) (by unfold maxLen; omega) (hr.els.drewN q) (hr'.els.drewN q))
      clear hr hr' hp hp'
      go_wp2_with fail
      go_quiet ((go_at_call 13; have h := HI.out; first | with_reducible exact quietAN (h _) | with_reducible exact quietN (h _)))
      go_wp2_with fail
      refine ⟨⟨k + 1, m + nq, by omega, by go_num, by first | rfl | rw [World.drewN_drewN]⟩, by simp [intOf]; omega⟩
    · obtain rfl : k = N := by omega
      go_wp2_with fail
      go_ret
      exact ⟨rfl, m, rfl⟩
end Go.Proofs.YtdleajoagcopgaaDoor
