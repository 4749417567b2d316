/- The reference's check of wishes computes the one function wishCheck; the law WishChecks. Conditions: the lists read as lists. -/
import Derived.Test.YtodbhgbgeiailaaWishB
namespace Go.Proofs.Ytodbhgbgeiailaa
open Go.RowKit

set_option maxRecDepth 100000 in
set_option maxHeartbeats 1000000 in
theorem ref_WishesCheck (AL AR : Option Addr) (nL cL nR cR : Nat) (L R : List (Sls Int)) (w : World) (hL : L.length = nL) (hR : R.length = nR) (hnL : nL ≤ maxLen) (hnR : nR ≤ maxLen)
    (hrL : Els w w.heap.size 1 rcell AL L) (hgL : ∀ s ∈ L, s.Good w w.heap.size 1 icell OkI) (hrR : Els w w.heap.size 1 rcell AR R) (hgR : ∀ s ∈ R, s.Good w w.heap.size 1 icell OkI) :
    Calls Try.prog 18 #[.agg #[.slice AL nL cL, .slice AR nR cR]] w fun e w' => e = .returned (.int .i64 (wishCheck L R)) ∧ Below w.heap.size w w' := by
  have HN : Hid (wishCheck L R = if 8 < nL ∨ 8 < nR then 1 else if nL ≠ nR then 3 else if sideBad nL L || sideBad nL R then 2 else 0) := by subst hL hR; rfl
  have HL := Lib.hid hL
  have HR := Lib.hid hR
  have HGL := Lib.hid hgL
  have HGR := Lib.hid hgR
  unfold maxLen at hnL hnR
  clear hL hR hgL hgR
  have hbox := (Below.refl w.heap.size w).alloc (Nat.le_refl _) (.cells #[.slice AL nL cL, .slice AR nR cR] 38)
  have HBX := Lib.hid hbox
  clear hbox
  by_cases h1 : 8 < nL
  · go_enter Try.func18, Try.ntmps18
    go_wp2_with fail
    go_ret
    exact ⟨ret_i64 (by rw [HN.out, if_pos (.inl h1)]), HBX.out⟩
  · by_cases h2 : 8 < nR
    · go_enter Try.func18, Try.ntmps18
      go_wp2_with fail
      go_ret
      exact ⟨ret_i64 (by rw [HN.out, if_pos (.inr h2)]), HBX.out⟩
    · have HN2 := HN.out
      rw [if_neg (by omega)] at HN2
      have HM := Lib.hid HN2
      clear HN2 HN
      by_cases h3 : nL = nR
      · subst h3
        have h4 : ((nL : Int) != (nL : Int)) = false := by simp
        go_enter Try.func18, Try.ntmps18
        go_wp2_with fail
        have hbw : Below w.heap.size w ((w.alloc (.cells #[.slice AL nL cL, .slice AR nL cR] 38)).alloc (.cells #[.slice AL nL cL, .slice AR nL cR] 36)) := HBX.out.alloc HBX.out.size _
        have side : ∀ k, k < 2 → ∃ As cs ls, ((w.alloc (.cells #[.slice AL nL cL, .slice AR nL cR] 38)).alloc (.cells #[.slice AL nL cL, .slice AR nL cR] 36)).cell? ⟨w.heap.size + 1, k, none⟩ = some (.slice As nL cs) ∧ ls.length = nL ∧ Els w w.heap.size 1 rcell As ls ∧ (∀ s ∈ ls, s.Good w w.heap.size 1 icell OkI) ∧ (k = 0 → ls = L) ∧ (k = 1 → ls = R) := by
          intro k hk
          have hB : Blk ((w.alloc (.cells #[.slice AL nL cL, .slice AR nL cR] 38)).alloc (.cells #[.slice AL nL cL, .slice AR nL cR] 36)) (w.heap.size + 1) 36 #[.slice AL nL cL, .slice AR nL cR] := by
            have := Blk.new (w.alloc (.cells #[.slice AL nL cL, .slice AR nL cR] 38)) 36 #[.slice AL nL cL, .slice AR nL cR]
            rwa [size_alloc'] at this
          rcases (show k = 0 ∨ k = 1 from by omega) with rfl | rfl
          · exact ⟨AL, cL, L, hB.cell 0, HL.out, hrL, HGL.out, fun _ => rfl, fun h => absurd h (by decide)⟩
          · exact ⟨AR, cR, R, hB.cell 1, HR.out, hrR, HGR.out, fun h => absurd h (by decide), fun _ => rfl⟩
        have HSD := Lib.hid side
        have HBW := Lib.hid hbw
        clear side hbw
        go_loop [32] (fun i => ∃ k : Nat, k ≤ 2 ∧ i = .int .i64 k ∧ ((1 ≤ k → sideBad nL L = false) ∧ (2 ≤ k → sideBad nL R = false))) (fun i => 2 - (intOf i).toNat)
        case atStart => exact ⟨0, by omega, rfl, fun h => absurd h (by omega), fun h => absurd h (by omega)⟩
        case round =>
          obtain ⟨k, hk, rfl, hno⟩ := hrel
          have HK := Lib.hid hno
          clear hno
          by_cases hlt : k < 2
          · obtain ⟨As, cs, ls, hcS, hlS, hrS, hgS, hk0, hk1⟩ := HSD.out k hlt
            have HLS := Lib.hid hlS
            have HGS := Lib.hid hgS
            have HK0 := Lib.hid (And.intro hk0 hk1)
            have hret : sideBad nL ls = true → wishCheck L R = 2 := fun h => by
              rw [HM.out, if_neg (by omega)]
              rcases (show k = 0 ∨ k = 1 from by omega) with hk | hk
              · rw [← hk0 hk, h]; rfl
              · rw [← hk1 hk, h, Bool.or_true]; rfl
            have HRT := Lib.hid hret
            clear hlS hgS hk0 hk1 hret
            go_wp2_with fail
            go_loop [38] (fun i => ∃ j : Nat, j ≤ nL ∧ i = .int .i64 j ∧ (ls.take j).any (fun s => listBad nL s.l) = false) (fun i => nL - (intOf i).toNat)
            case atStart => exact ⟨0, by omega, rfl, rfl⟩
            case round =>
              obtain ⟨j, hj, rfl, hno⟩ := hrel
              have HJ := Lib.hid hno
              clear hno
              by_cases hlj : j < nL
              · have hjl : j < ls.length := by rw [HLS.out]; exact hlj
                obtain ⟨b, off, rfl, hbb, g0⟩ := (hrS.below HBW.out).at1 hjl
                have hgood := HGS.out ls[j] (List.getElem_mem hjl)
                obtain ⟨s, hs⟩ : ∃ s, s = ls[j] := ⟨_, rfl⟩
                rw [← hs] at g0 hgood
                have HS := Lib.hid hs
                clear hs
                obtain ⟨A2, c2, l⟩ := s
                obtain ⟨hm2, hcap2, hr2, _⟩ := hgood
                dsimp only [Sls.val] at g0 hm2 hr2 hcap2
                have hr2' := hr2.below HBW.out
                unfold maxLen at hm2
                have HD : Hid (listBad nL l = (List.range l.length).any (badAt nL l)) := rfl
                obtain ⟨n2, hn2⟩ : ∃ n2, n2 = l.length := ⟨_, rfl⟩
                rw [← hn2] at g0 hm2 hcap2
                have HN2 := Lib.hid hn2
                clear hn2
                go_wp2_with fail
                go_loop [44] (fun i => ∃ q : Nat, q ≤ n2 ∧ i = .int .i64 q ∧ (List.range q).any (badAt nL l) = false) (fun i => n2 - (intOf i).toNat)
                case atStart => exact ⟨0, by omega, rfl, rfl⟩
                case round =>
                  obtain ⟨q, hq, rfl, hno⟩ := hrel
                  have HQ := Lib.hid hno
                  clear hno
                  by_cases hlq : q < n2
                  · have hql : q < l.length := by rw [← HN2.out]; exact hlq
                    obtain ⟨b2, off2, rfl, hbb2, g2⟩ := hr2'.at1 hql
                    obtain ⟨x, hx⟩ : ∃ x, x = l[q] := ⟨_, rfl⟩
                    rw [← hx] at g2
                    have hxd : l.getD q 0 = x := by rw [getD_at l q hql 0, hx]
                    have HX := Lib.hid hxd
                    clear hx hxd
                    have hbad : badAt nL l q = true → wishCheck L R = 2 := fun h =>
                      HRT.out (any_of_get (p := fun s : Sls Int => listBad nL s.l) hjl (by rw [← HS.out]; show listBad nL l = true; rw [HD.out]; exact any_range_of hql h))
                    have HB := Lib.hid hbad
                    have hstep : badAt nL l q = (decide (x < 0) || decide ((nL : Int) ≤ x) || hasB (l.take q) x) := by unfold badAt; rw [HX.out]
                    have HT := Lib.hid hstep
                    clear hstep hbad
                    by_cases h0 : x < 0
                    · go_wp2_with fail
                      go_ret
                      exact ⟨ret_i64 (by rw [HB.out (by rw [HT.out]; simp [h0])]), HBW.out⟩
                    · by_cases h1 : (nL : Int) ≤ x
                      · go_wp2_with fail
                        go_ret
                        exact ⟨ret_i64 (by rw [HB.out (by rw [HT.out]; simp [h1])]), HBW.out⟩
                      · rcases hh : hasB (l.take q) x with _ | _
                        all_goals
                          have HH := Lib.hid hh
                          clear hh
                          go_wp2_with fail
                          refine (Has_any _ q c2 (l.take q) x w.heap.size _ (by rw [List.length_take, ← HN2.out]; omega) (by unfold maxLen; omega) (hr2'.pre q)).mono ?_
                          rintro e w' ⟨rfl, rfl⟩
                          rw [HH.out]
                          go_wp2_with fail
                        · go_round
                          case rel => exact ⟨q + 1, by omega, by go_num, by rw [any_range_succ, HQ.out, HT.out, HH.out]; simp [h0]; omega⟩
                          case measure => simp [intOf]; omega
                        · go_ret
                          exact ⟨ret_i64 (by rw [HB.out (by rw [HT.out, HH.out]; simp)]), HBW.out⟩
                  · obtain rfl : q = n2 := by omega
                    go_wp2_with fail
                    go_round
                    case rel => exact ⟨j + 1, by omega, by go_num, by rw [any_take_succ _ _ _ hjl, HJ.out, ← HS.out]; show (false || listBad nL l) = false; rw [HD.out, ← HN2.out, HQ.out]; rfl⟩
                    case measure => simp [intOf]; omega
              · go_wp2_with fail
                go_round
                case rel =>
                  have hall : sideBad nL ls = false := any_take_all (by rw [HLS.out]; omega) HJ.out
                  refine ⟨k + 1, by omega, by go_num, fun _ => ?_, fun h2 => ?_⟩
                  · rcases (show k = 0 ∨ k = 1 from by omega) with hk | hk
                    · rw [← HK0.out.1 hk]; exact hall
                    · exact HK.out.1 (by omega)
                  · rw [← HK0.out.2 (by omega)]; exact hall
                case measure => simp [intOf]; omega
          · go_wp2_with fail
            go_ret
            exact ⟨ret_i64 (by rw [HM.out, if_neg (by omega), HK.out.1 (by omega), HK.out.2 (by omega)]; rfl), HBW.out⟩
      · have h4 : ((nL : Int) != (nR : Int)) = true := by simp; omega
        go_enter Try.func18, Try.ntmps18
        go_wp2_with fail
        go_ret
        exact ⟨ret_i64 (by rw [HM.out, if_pos h3]), HBX.out⟩

end Go.Proofs.Ytodbhgbgeiailaa
