/- The program's check of wishes computes the one function wishCheck. Conditions: the lists read as lists. -/
import Derived.Test.YtodbhgbgeiailaaWishA
namespace Go.Proofs.Ytodbhgbgeiailaa
open Go.RowKit

set_option maxRecDepth 100000 in
set_option maxHeartbeats 1000000 in
theorem wish_Check (AL AR : Option Addr) (nL cL nR cR : Nat) (L R : List (Sls Int)) (w : World) (hL : L.length = nL) (hR : R.length = nR) (hnL : nL ≤ maxLen) (hnR : nR ≤ maxLen)
    (hrL : Els w w.heap.size 1 rcell AL L) (hgL : ∀ s ∈ L, s.Good w w.heap.size 1 icell OkI) (hrR : Els w w.heap.size 1 rcell AR R) (hgR : ∀ s ∈ R, s.Good w w.heap.size 1 icell OkI) :
    Calls Try.prog 48 #[.agg #[.slice AL nL cL, .slice AR nR cR]] w fun e w' => e = .returned (.int .i64 (wishCheck L R)) ∧ Below w.heap.size w w' := by
  have HN : Hid (wishCheck L R = if 8 < nL ∨ 8 < nR then 1 else if nL ≠ nR then 3 else if sideBad nL L || sideBad nL R then 2 else 0) := by subst hL hR; rfl
  have hgood : ∀ (W : World) (ls : List (Sls Int)), Below w.heap.size w W → (∀ s ∈ ls, s.Good w w.heap.size 1 icell OkI) → (∀ s ∈ ls, s.Good W W.heap.size 1 icell OkI) := fun W ls hb h s hs =>
    ⟨(h s hs).1, (h s hs).2.1, ((h s hs).2.2.1.below hb).more hb.size, (h s hs).2.2.2⟩
  have HG := Lib.hid hgood
  have HL := Lib.hid hL
  have HR := Lib.hid hR
  have HGL := Lib.hid hgL
  have HGR := Lib.hid hgR
  have HML := Lib.hid hnL
  have HMR := Lib.hid hnR
  unfold maxLen at hnL hnR
  clear hL hR hgL hgR hgood
  have hbox := (Below.refl w.heap.size w).alloc (Nat.le_refl _) (.cells #[.slice AL nL cL, .slice AR nR cR] 38)
  have HBX := Lib.hid hbox
  clear hbox
  by_cases h1 : 8 < nL
  · go_enter Try.func48, Try.ntmps48
    go_wp2_with fail
    all_goals
      go_ret
      exact ⟨ret_i64 (by rw [HN.out, if_pos (.inl h1)]), HBX.out⟩
  · by_cases h2 : 8 < nR
    · go_enter Try.func48, Try.ntmps48
      go_wp2_with fail
      all_goals
        go_ret
        exact ⟨ret_i64 (by rw [HN.out, if_pos (.inr h2)]), HBX.out⟩
    · have HN2 := HN.out
      rw [if_neg (by omega)] at HN2
      have HM := Lib.hid HN2
      clear HN2 HN
      by_cases h3 : nL = nR
      · subst h3
        have h4 : ((nL : Int) != (nL : Int)) = false := by simp
        have hcall : ∀ (A : Option Addr) (c : Nat) (ls : List (Sls Int)), Hid (ls.length = nL) → Hid (∀ s ∈ ls, s.Good w w.heap.size 1 icell OkI) → Els w w.heap.size 1 rcell A ls →
            Calls Try.prog 77 #[.slice A nL c, .int .i64 nL] (w.alloc (.cells #[.slice AL nL cL, .slice AR nL cR] 38)) fun e w' => e = .returned (.bool (!sideBad nL ls)) ∧ (w.alloc (.cells #[.slice AL nL cL, .slice AR nL cR] 38)) = w' := fun A c ls q1 q2 q3 =>
          wish_lists A nL c ls nL _ q1.out HML.out (by omega) ((q3.below HBX.out).more HBX.out.size) (HG.out _ _ HBX.out q2.out)
        have HCL := Lib.hid (hcall AL cL L HL HGL hrL)
        have HCR := Lib.hid (hcall AR cR R HR HGR hrR)
        clear hcall
        rcases hs : sideBad nL L with _ | _
        · have HS := Lib.hid hs
          clear hs
          rcases hs2 : sideBad nL R with _ | _
          all_goals
            have HS2 := Lib.hid hs2
            clear hs2
            go_enter Try.func48, Try.ntmps48
            go_wp2_with fail
            refine HCL.out.mono ?_
            rintro e w' ⟨rfl, rfl⟩
            rw [HS.out]
            go_wp2_with fail
            refine HCR.out.mono ?_
            rintro e w' ⟨rfl, rfl⟩
            rw [HS2.out]
            go_wp2_with fail
            go_ret
            exact ⟨ret_i64 (by rw [HM.out, HS.out, HS2.out]; simp), HBX.out⟩
        · have HS := Lib.hid hs
          clear hs
          go_enter Try.func48, Try.ntmps48
          go_wp2_with fail
          refine HCL.out.mono ?_
          rintro e w' ⟨rfl, rfl⟩
          rw [HS.out]
          go_wp2_with fail
          go_ret
          exact ⟨ret_i64 (by rw [HM.out, HS.out]; simp), HBX.out⟩
      · have h4 : ((nL : Int) != (nR : Int)) = true := by simp; omega
        go_enter Try.func48, Try.ntmps48
        go_wp2_with fail
        all_goals
          go_ret
          exact ⟨ret_i64 (by rw [HM.out, if_pos h3]), HBX.out⟩
end Go.Proofs.Ytodbhgbgeiailaa
