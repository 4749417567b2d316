/- Calls behind which all know all: the program's walk, the statement's walk. Conditions: none. -/
import Derived.Test.YtaldkafibemhnaaPlanP
import Derived.Test.YtaldkafibemhnaaGrow
import Derived.Test.YtaldkafibemhnaaBit
namespace Go.Proofs.Ytaldkafibemhnaa
open Go.RowKit
attribute [local go_sem ↓] w_and w_or w_xor w_andNot w_and1 w_and255 w_xor1 w_or0 w_shl w_shl1 w_shr w_sub w_add w_sub1 w_add1
attribute [local go_sem] w_eq0 w_ne0 w_eq1 w_eq w_ne

set_option maxRecDepth 100000 in
theorem news_Plan_bad (n : Int) (w : World) (h : n < 1 ∨ 8 < n) :
    Calls Try.prog 37 #[.int .i64 n] w fun e w' => e = .returned (.tuple #[.slice none 0 0, .int .i64 1]) ∧ w = w' := by
  by_cases h1 : n < 1
  · clear h
    go_enter Try.func37, Try.ntmps37
    go_wp2_with fail
    exact bodyPost_ret (v := .tuple #[.slice none 0 0, .int .i64 1]) (by simp [results, Try.results37, go_sem]) rfl ⟨rfl, rfl⟩
  · have h2 : 8 < n := by omega
    clear h
    go_enter Try.func37, Try.ntmps37
    go_wp2_with fail
    exact bodyPost_ret (v := .tuple #[.slice none 0 0, .int .i64 1]) (by simp [results, Try.results37, go_sem]) rfl ⟨rfl, rfl⟩

def PlanIs (n : Nat) (w w' : World) (e : Ending) : Prop := ∃ A cap, e = .returned (.tuple #[.slice A (planL n).length cap, .int .i64 0]) ∧ Below w.heap.size w w' ∧ Els w' w'.heap.size 2 ccell A (planL n)
set_option maxRecDepth 100000 in
theorem news_Plan_1 (w : World) : Calls Try.prog 37 #[.int .i64 (1 : Nat)] w fun e w' => PlanIs 1 w w' e := by
  go_enter Try.func37, Try.ntmps37
  go_wp2_with fail
  exact bodyPost_ret (v := .tuple #[.slice none 0 0, .int .i64 0]) (by simp [results, Try.results37, go_sem]) rfl ⟨none, 0, rfl, Below.refl _ _, Els.nil⟩
set_option maxRecDepth 100000 in
theorem news_Plan_2 (w : World) : Calls Try.prog 37 #[.int .i64 (2 : Nat)] w fun e w' => PlanIs 2 w w' e := by
  go_enter Try.func37, Try.ntmps37
  go_wp2_with fail
  refine bodyPost_ret (v := .tuple #[.slice (some ⟨w.heap.size, 0, none⟩) 1 1, .int .i64 0]) (by simp [results, Try.results37, go_sem]) rfl ⟨some ⟨w.heap.size, 0, none⟩, 1, rfl, (Below.refl _ _).alloc (Nat.le_refl _) _, ?_⟩
  exact els_of_blk (Blk.new w _ _) 2 ccell (fun _ => rfl) [((0 : Int), (1 : Int))] rfl
set_option maxRecDepth 100000 in
theorem news_Plan_3 (w : World) : Calls Try.prog 37 #[.int .i64 (3 : Nat)] w fun e w' => PlanIs 3 w w' e := by
  go_enter Try.func37, Try.ntmps37
  go_wp2_with fail
  refine bodyPost_ret (v := .tuple #[.slice (some ⟨w.heap.size, 0, none⟩) 3 3, .int .i64 0]) (by simp [results, Try.results37, go_sem]) rfl ⟨some ⟨w.heap.size, 0, none⟩, 3, rfl, (Below.refl _ _).alloc (Nat.le_refl _) _, ?_⟩
  exact els_of_blk (Blk.new w _ _) 2 ccell (fun _ => rfl) [((0 : Int), (1 : Int)), (0, 2), (0, 1)] rfl

set_option maxRecDepth 100000 in
set_option maxHeartbeats 1000000 in
theorem news_Plan_4 (n : Nat) (w : World) (h4 : 4 ≤ n) (h8 : n ≤ 8) : Calls Try.prog 37 #[.int .i64 n] w fun e w' => PlanIs n w w' e := by
  have hp : planL n = outerL (n - 4) ++ (fourL ++ (outerL (n - 4) ++ [])) := by
    unfold planL
    rw [if_neg (by omega), if_neg (by omega), if_neg (by omega)]
  have HP := Lib.hid hp
  have n1 : ((n : Int) == 1) = false := by simp; omega
  have n2 : ((n : Int) == 2) = false := by simp; omega
  have n3 : ((n : Int) == 3) = false := by simp; omega
  clear hp
  go_enter Try.func37, Try.ntmps37
  go_wp2_with fail
  go_loopw [5, 4] (fun i s wr => ∃ (k : Nat) (A1 : Option Addr) (cap : Nat), k + 4 ≤ n ∧ i = .int .i64 ((k + 4 : Nat) : Int) ∧ s = .slice A1 k cap ∧ Below w.heap.size w wr ∧ Own wr w.heap.size 99 2 ccell A1 cap (outerL k)) (fun i _ _ => n - (intOf i).toNat)
  case atStart => exact ⟨0, none, 0, by omega, rfl, rfl, Below.refl _ _, Own.nil _ _ _ (fun _ => rfl)⟩
  case round =>
    obtain ⟨k, A1, cap, hk, rfl, rfl, hb, hown⟩ := hrel
    have hs4 := hb.size
    have HO := Lib.hid hown
    have HB := Lib.hid hb
    clear hown hb
    by_cases hlt : k + 4 < n
    · go_wp2_with (at_builtin; go_loud (refine wpList_push rfl _ _ _ rfl w.heap.size 2 99 (.agg #[.int .i64 0, .int .i64 0]) 16 Try.underlying50 (by kernel_rfl) rfl (by omega) ccell wr #[.int .i64 0, .int .i64 ((k : Int) + 4)] A1 k cap (outerL k) (outerL_length k) rfl HO.out 1 [((0 : Int), (k : Int) + 4)] rfl rfl _ rfl rfl (by simp [Value.oneCell']) (by unfold maxLen; omega) (by omega) hs4 ?_; intro A2 cap2 w4 hown2 hgrow hloc))
      go_roundw
      case rel => exact ⟨k + 1, A2, cap2, by omega, by go_num, rfl, (HB.out.alloc hs4 _).grown hgrow (by rw [size_alloc']; omega) (fun g hg => (HO.out.lt g hg).1), by rw [outerL_succ]; exact hown2⟩
      case measure => simp [intOf]; omega
    · obtain rfl : n = k + 4 := by omega
      have hq : k + 4 - 4 = k := by omega
      have HQ := Lib.hid hq
      clear hq
      have hsum : lensTo [(⟨A1, cap, outerL k⟩ : Sls Cl), ⟨some ⟨wr.heap.size, 0, none⟩, 4, fourL⟩, ⟨A1, cap, outerL k⟩] = k + (4 + (k + 0)) := by
        show (outerL k).length + (4 + ((outerL k).length + 0)) = _
        rw [outerL_length]
      have hels : Els ((wr.alloc (.cells #[.int .i64 0, .int .i64 1, .int .i64 2, .int .i64 3, .int .i64 0, .int .i64 2, .int .i64 1, .int .i64 3] 104)).alloc (.cells #[.slice A1 k cap, .slice (some ⟨wr.heap.size, 0, none⟩) 4 4, .slice A1 k cap] 50)) (wr.heap.size + 2) 1 slv (some ⟨wr.heap.size + 1, 0, none⟩) [(⟨A1, cap, outerL k⟩ : Sls Cl), ⟨some ⟨wr.heap.size, 0, none⟩, 4, fourL⟩, ⟨A1, cap, outerL k⟩] := by
        have h := Blk.new (wr.alloc (.cells #[.int .i64 0, .int .i64 1, .int .i64 2, .int .i64 3, .int .i64 0, .int .i64 2, .int .i64 1, .int .i64 3] 104)) 50 #[.slice A1 k cap, .slice (some ⟨wr.heap.size, 0, none⟩) 4 4, .slice A1 k cap]
        rw [size_alloc'] at h
        have h2 := els_of_blk h 1 slv (fun _ => rfl) [(⟨A1, cap, outerL k⟩ : Sls Cl), ⟨some ⟨wr.heap.size, 0, none⟩, 4, fourL⟩, ⟨A1, cap, outerL k⟩] (by simp [slv, Sls.val, outerL_length, fourL])
        rw [size_alloc', size_alloc'] at h2
        exact h2
      have hfour : Els ((wr.alloc (.cells #[.int .i64 0, .int .i64 1, .int .i64 2, .int .i64 3, .int .i64 0, .int .i64 2, .int .i64 1, .int .i64 3] 104)).alloc (.cells #[.slice A1 k cap, .slice (some ⟨wr.heap.size, 0, none⟩) 4 4, .slice A1 k cap] 50)) (wr.heap.size + 1 + 1) 2 ccell (some ⟨wr.heap.size, 0, none⟩) fourL := by
        have h2 := els_of_blk (Blk.new wr 104 #[.int .i64 0, .int .i64 1, .int .i64 2, .int .i64 3, .int .i64 0, .int .i64 2, .int .i64 1, .int .i64 3]) 2 ccell (fun _ => rfl) fourL rfl
        have h3 := h2.alloc (Nat.le_refl _) (.cells #[.slice A1 k cap, .slice (some ⟨wr.heap.size, 0, none⟩) 4 4, .slice A1 k cap] 50)
        rw [size_alloc'] at h3
        exact h3.more (by omega)
      have HC := Lib.hid (Concat_calls (some ⟨wr.heap.size + 1, 0, none⟩) 3 3 [(⟨A1, cap, outerL k⟩ : Sls Cl), ⟨some ⟨wr.heap.size, 0, none⟩, 4, fourL⟩, ⟨A1, cap, outerL k⟩] _ rfl (by omega) (by rw [hsum]; omega) (by rw [hsum]; omega) (by rw [size_alloc', size_alloc']; exact hels) (fun s hs => by
        rw [size_alloc', size_alloc']
        simp only [List.mem_cons, List.not_mem_nil, or_false] at hs
        rcases hs with rfl | rfl | rfl
        · exact (((HO.out.alloc _).alloc _).els.more (by rw [size_alloc', size_alloc']; exact Nat.le_refl _))
        · exact hfour
        · exact (((HO.out.alloc _).alloc _).els.more (by rw [size_alloc', size_alloc']; exact Nat.le_refl _))))
      have HSUM := Lib.hid hsum
      clear hsum hels hfour
      go_wp2_with fail
      refine HC.out.mono ?_
      clear HC
      rintro e v3 ⟨A3, cap3, rfl, hb3, hown3⟩
      have HB3 := Lib.hid (((HB.out.alloc hs4 _).alloc (by rw [size_alloc']; omega) _).trans (hb3.mono (by rw [size_alloc', size_alloc']; omega)))
      have HO3 := Lib.hid hown3
      clear hb3 hown3
      have hlen : (planL (k + 4)).length = k + (4 + (k + 0)) := by
        rw [HP.out, HQ.out]
        simp [outerL_length, fourL]
        omega
      have HLEN := Lib.hid hlen
      clear hlen
      rw [HSUM.out]
      go_wp2_with fail
      refine bodyPost_ret (v := .tuple #[.slice A3 (k + (4 + (k + 0))) cap3, .int .i64 0]) (by simp [results, Try.results37, go_sem]) rfl ⟨A3, cap3, by rw [HLEN.out], HB3.out, ?_⟩
      rw [HP.out, HQ.out]
      exact HO3.out.els
theorem news_Plan (n : Nat) (w : World) (h1 : 1 ≤ n) (h8 : n ≤ 8) : Calls Try.prog 37 #[.int .i64 n] w fun e w' => PlanIs n w w' e := by
  have : n = 1 ∨ n = 2 ∨ n = 3 ∨ 4 ≤ n := by omega
  rcases this with rfl | rfl | rfl | h4
  · exact news_Plan_1 w
  · exact news_Plan_2 w
  · exact news_Plan_3 w
  · exact news_Plan_4 n w h4 h8

set_option maxRecDepth 100000 in
set_option maxHeartbeats 1000000 in
theorem NewsPlans_1 (W : World) :
    Calls Try.prog 12 #[.int .i64 (1 : Nat)] W fun e w' => e = .returned (.bool true) ∧ Below W.heap.size W w' := by
  obtain ⟨hchk, hknow, hlen⟩ := plan_good 1 (by omega) (by omega)
  have HP := Lib.hid (news_Plan 1 W (by omega) (by omega))
  have HC := Lib.hid (show callsCheck (1 : Int) (planL 1) = 0 from hchk)
  have HK := Lib.hid (know_eq 1 (planL 1) (by omega) (by obtain ⟨N, h, _, _, h4⟩ := good_of_check hchk; exact h4))
  have HKN := Lib.hid hknow
  have h16 : (planL 1).length ≤ 64 := by
    obtain ⟨_, _, _, h3, _⟩ := good_of_check hchk
    exact h3
  obtain ⟨p, hp⟩ : ∃ p, p = (planL 1).length := ⟨_, rfl⟩
  rw [← hp] at hlen h16
  have HPL := Lib.hid hp
  have hne : ((p : Int) != 0) = false := by
    rw [hlen]
    rfl
  clear hchk hknow hp hlen
  go_enter Try.func12, Try.ntmps12
  go_wp2_with fail
  refine HP.out.mono ?_
  clear HP
  rintro e v1 ⟨A, cap, rfl, hb1, hels⟩
  rw [← HPL.out]
  have hz0 := hb1.size
  have hb1 := hb1.alloc hz0 (.cells #[.int .i64 0, .int .i64 0, .int .i64 1, .int .i64 3] 3)
  have hz1 := hb1.size
  have hels := (hels.alloc (Nat.le_refl _) (.cells #[.int .i64 0, .int .i64 0, .int .i64 1, .int .i64 3] 3)).more (B' := (v1.alloc (.cells #[.int .i64 0, .int .i64 0, .int .i64 1, .int .i64 3] 3)).heap.size) (by rw [size_alloc']; omega)
  have HB1 := Lib.hid hb1
  have HE1 := Lib.hid hels
  have HCC := Lib.hid (ref_CallsCheck 1 A p cap (planL 1) _ HPL.out.symm (by unfold maxLen; omega) hels)
  clear hb1 hels
  go_wp2_with fail
  refine HCC.out.mono ?_
  clear HCC
  rintro e v2 ⟨rfl, hb2⟩
  rw [HC.out]
  have hb2' := HB1.out.trans (hb2.mono hz1)
  have hz2 := hb2.size
  have HRK := Lib.hid (ref_Know 1 A p cap (planL 1) v2 (by omega) HPL.out.symm h16 ((HE1.out.below hb2).more hz2))
  have HB2 := Lib.hid hb2'
  clear hb2 hb2'
  go_wp2_with fail
  refine HRK.out.mono ?_
  clear HRK
  rintro e v3 ⟨A3, cap3, rfl, hb3, hown3⟩
  rw [← HK.out, HKN.out] at hown3
  have HB3 := Lib.hid (HB2.out.trans (hb3.mono (by omega)))
  have HO3 := Lib.hid hown3.els
  clear hb3 hown3 HB2 HB1 HE1
  go_wp2_with fail
  go_loop [53] (fun i => ∃ k : Nat, k ≤ 1 ∧ i = .int .i64 k) (fun i => 1 - (intOf i).toNat)
  case atStart => exact ⟨0, by omega, rfl⟩
  case round =>
    obtain ⟨k, hk, rfl⟩ := hrel
    by_cases hlt : k < 1
    · obtain ⟨b, off, rfl, _, g0⟩ := HO3.out.at1 (f := fun x => .int .u32 (wN x)) (k := k) (by simp; omega)
      rw [List.getElem_replicate] at g0
      have g1 : v3.cell? ⟨b, off + k, none⟩ = some (.int .u32 (wN (wSub (wShl w1 1) w1))) := g0
      have hx : (wSub (wShl w1 1) w1 != wSub (wShl w1 1) w1) = false := by simp
      clear g0
      go_wp2_with fail
      go_round
      case rel => exact ⟨k + 1, by omega, by go_num⟩
      case measure => simp [intOf]; omega
    · obtain rfl : k = 1 := by omega
      go_wp2_with fail
      go_ret
      exact ⟨rfl, HB3.out⟩

set_option maxRecDepth 100000 in
set_option maxHeartbeats 1000000 in
theorem NewsPlans_2 (W : World) :
    Calls Try.prog 12 #[.int .i64 (2 : Nat)] W fun e w' => e = .returned (.bool true) ∧ Below W.heap.size W w' := by
  obtain ⟨hchk, hknow, hlen⟩ := plan_good 2 (by omega) (by omega)
  have HP := Lib.hid (news_Plan 2 W (by omega) (by omega))
  have HC := Lib.hid (show callsCheck (2 : Int) (planL 2) = 0 from hchk)
  have HK := Lib.hid (know_eq 2 (planL 2) (by omega) (by obtain ⟨N, h, _, _, h4⟩ := good_of_check hchk; exact h4))
  have HKN := Lib.hid hknow
  have h16 : (planL 2).length ≤ 64 := by
    obtain ⟨_, _, _, h3, _⟩ := good_of_check hchk
    exact h3
  obtain ⟨p, hp⟩ : ∃ p, p = (planL 2).length := ⟨_, rfl⟩
  rw [← hp] at hlen h16
  have HPL := Lib.hid hp
  have hne : ((p : Int) != 1) = false := by
    rw [hlen]
    rfl
  clear hchk hknow hp hlen
  go_enter Try.func12, Try.ntmps12
  go_wp2_with fail
  refine HP.out.mono ?_
  clear HP
  rintro e v1 ⟨A, cap, rfl, hb1, hels⟩
  rw [← HPL.out]
  have hz0 := hb1.size
  have hb1 := hb1.alloc hz0 (.cells #[.int .i64 0, .int .i64 0, .int .i64 1, .int .i64 3] 3)
  have hz1 := hb1.size
  have hels := (hels.alloc (Nat.le_refl _) (.cells #[.int .i64 0, .int .i64 0, .int .i64 1, .int .i64 3] 3)).more (B' := (v1.alloc (.cells #[.int .i64 0, .int .i64 0, .int .i64 1, .int .i64 3] 3)).heap.size) (by rw [size_alloc']; omega)
  have HB1 := Lib.hid hb1
  have HE1 := Lib.hid hels
  have HCC := Lib.hid (ref_CallsCheck 2 A p cap (planL 2) _ HPL.out.symm (by unfold maxLen; omega) hels)
  clear hb1 hels
  go_wp2_with fail
  refine HCC.out.mono ?_
  clear HCC
  rintro e v2 ⟨rfl, hb2⟩
  rw [HC.out]
  have hb2' := HB1.out.trans (hb2.mono hz1)
  have hz2 := hb2.size
  have HRK := Lib.hid (ref_Know 2 A p cap (planL 2) v2 (by omega) HPL.out.symm h16 ((HE1.out.below hb2).more hz2))
  have HB2 := Lib.hid hb2'
  clear hb2 hb2'
  go_wp2_with fail
  refine HRK.out.mono ?_
  clear HRK
  rintro e v3 ⟨A3, cap3, rfl, hb3, hown3⟩
  rw [← HK.out, HKN.out] at hown3
  have HB3 := Lib.hid (HB2.out.trans (hb3.mono (by omega)))
  have HO3 := Lib.hid hown3.els
  clear hb3 hown3 HB2 HB1 HE1
  go_wp2_with fail
  go_loop [53] (fun i => ∃ k : Nat, k ≤ 2 ∧ i = .int .i64 k) (fun i => 2 - (intOf i).toNat)
  case atStart => exact ⟨0, by omega, rfl⟩
  case round =>
    obtain ⟨k, hk, rfl⟩ := hrel
    by_cases hlt : k < 2
    · obtain ⟨b, off, rfl, _, g0⟩ := HO3.out.at1 (f := fun x => .int .u32 (wN x)) (k := k) (by simp; omega)
      rw [List.getElem_replicate] at g0
      have g1 : v3.cell? ⟨b, off + k, none⟩ = some (.int .u32 (wN (wSub (wShl w1 2) w1))) := g0
      have hx : (wSub (wShl w1 2) w1 != wSub (wShl w1 2) w1) = false := by simp
      clear g0
      go_wp2_with fail
      go_round
      case rel => exact ⟨k + 1, by omega, by go_num⟩
      case measure => simp [intOf]; omega
    · obtain rfl : k = 2 := by omega
      go_wp2_with fail
      go_ret
      exact ⟨rfl, HB3.out⟩

set_option maxRecDepth 100000 in
set_option maxHeartbeats 1000000 in
theorem NewsPlans_3 (W : World) :
    Calls Try.prog 12 #[.int .i64 (3 : Nat)] W fun e w' => e = .returned (.bool true) ∧ Below W.heap.size W w' := by
  obtain ⟨hchk, hknow, hlen⟩ := plan_good 3 (by omega) (by omega)
  have HP := Lib.hid (news_Plan 3 W (by omega) (by omega))
  have HC := Lib.hid (show callsCheck (3 : Int) (planL 3) = 0 from hchk)
  have HK := Lib.hid (know_eq 3 (planL 3) (by omega) (by obtain ⟨N, h, _, _, h4⟩ := good_of_check hchk; exact h4))
  have HKN := Lib.hid hknow
  have h16 : (planL 3).length ≤ 64 := by
    obtain ⟨_, _, _, h3, _⟩ := good_of_check hchk
    exact h3
  obtain ⟨p, hp⟩ : ∃ p, p = (planL 3).length := ⟨_, rfl⟩
  rw [← hp] at hlen h16
  have HPL := Lib.hid hp
  have hne : ((p : Int) != 3) = false := by
    rw [hlen]
    rfl
  clear hchk hknow hp hlen
  go_enter Try.func12, Try.ntmps12
  go_wp2_with fail
  refine HP.out.mono ?_
  clear HP
  rintro e v1 ⟨A, cap, rfl, hb1, hels⟩
  rw [← HPL.out]
  have hz0 := hb1.size
  have hb1 := hb1.alloc hz0 (.cells #[.int .i64 0, .int .i64 0, .int .i64 1, .int .i64 3] 3)
  have hz1 := hb1.size
  have hels := (hels.alloc (Nat.le_refl _) (.cells #[.int .i64 0, .int .i64 0, .int .i64 1, .int .i64 3] 3)).more (B' := (v1.alloc (.cells #[.int .i64 0, .int .i64 0, .int .i64 1, .int .i64 3] 3)).heap.size) (by rw [size_alloc']; omega)
  have HB1 := Lib.hid hb1
  have HE1 := Lib.hid hels
  have HCC := Lib.hid (ref_CallsCheck 3 A p cap (planL 3) _ HPL.out.symm (by unfold maxLen; omega) hels)
  clear hb1 hels
  go_wp2_with fail
  refine HCC.out.mono ?_
  clear HCC
  rintro e v2 ⟨rfl, hb2⟩
  rw [HC.out]
  have hb2' := HB1.out.trans (hb2.mono hz1)
  have hz2 := hb2.size
  have HRK := Lib.hid (ref_Know 3 A p cap (planL 3) v2 (by omega) HPL.out.symm h16 ((HE1.out.below hb2).more hz2))
  have HB2 := Lib.hid hb2'
  clear hb2 hb2'
  go_wp2_with fail
  refine HRK.out.mono ?_
  clear HRK
  rintro e v3 ⟨A3, cap3, rfl, hb3, hown3⟩
  rw [← HK.out, HKN.out] at hown3
  have HB3 := Lib.hid (HB2.out.trans (hb3.mono (by omega)))
  have HO3 := Lib.hid hown3.els
  clear hb3 hown3 HB2 HB1 HE1
  go_wp2_with fail
  go_loop [53] (fun i => ∃ k : Nat, k ≤ 3 ∧ i = .int .i64 k) (fun i => 3 - (intOf i).toNat)
  case atStart => exact ⟨0, by omega, rfl⟩
  case round =>
    obtain ⟨k, hk, rfl⟩ := hrel
    by_cases hlt : k < 3
    · obtain ⟨b, off, rfl, _, g0⟩ := HO3.out.at1 (f := fun x => .int .u32 (wN x)) (k := k) (by simp; omega)
      rw [List.getElem_replicate] at g0
      have g1 : v3.cell? ⟨b, off + k, none⟩ = some (.int .u32 (wN (wSub (wShl w1 3) w1))) := g0
      have hx : (wSub (wShl w1 3) w1 != wSub (wShl w1 3) w1) = false := by simp
      clear g0
      go_wp2_with fail
      go_round
      case rel => exact ⟨k + 1, by omega, by go_num⟩
      case measure => simp [intOf]; omega
    · obtain rfl : k = 3 := by omega
      go_wp2_with fail
      go_ret
      exact ⟨rfl, HB3.out⟩

set_option maxRecDepth 100000 in
set_option maxHeartbeats 1000000 in
theorem NewsPlans_4 (n : Nat) (h4 : 4 ≤ n) (h8 : n ≤ 8) (W : World) :
    Calls Try.prog 12 #[.int .i64 n] W fun e w' => e = .returned (.bool true) ∧ Below W.heap.size W w' := by
  obtain ⟨hchk, hknow, hlen⟩ := plan_good n (by omega) (by omega)
  have HP := Lib.hid (news_Plan n W (by omega) (by omega))
  have HC := Lib.hid hchk
  have HK := Lib.hid (know_eq n (planL n) (by omega) (by obtain ⟨N, h, _, _, h4⟩ := good_of_check hchk; exact h4))
  have HKN := Lib.hid hknow
  have h16 : (planL n).length ≤ 64 := by
    obtain ⟨_, _, _, h3, _⟩ := good_of_check hchk
    exact h3
  obtain ⟨p, hp⟩ : ∃ p, p = (planL n).length := ⟨_, rfl⟩
  rw [← hp] at hlen h16
  have HPL := Lib.hid hp
  have hne : ((p : Int) != 2 * (n : Int) - 4) = false := by
    rw [hlen]
    unfold planWant
    rw [if_neg (by omega)]
    simp
    omega
  clear hchk hknow hp hlen
  go_enter Try.func12, Try.ntmps12
  go_wp2_with fail
  refine HP.out.mono ?_
  clear HP
  rintro e v1 ⟨A, cap, rfl, hb1, hels⟩
  rw [← HPL.out]
  have hz1 := hb1.size
  have HB1 := Lib.hid hb1
  have HE1 := Lib.hid hels
  have HCC := Lib.hid (ref_CallsCheck n A p cap (planL n) v1 HPL.out.symm (by unfold maxLen; omega) hels)
  clear hb1 hels
  go_wp2_with fail
  refine HCC.out.mono ?_
  clear HCC
  rintro e v2 ⟨rfl, hb2⟩
  rw [HC.out]
  have hb2' := HB1.out.trans (hb2.mono hz1)
  have hz2 := hb2.size
  have HRK := Lib.hid (ref_Know n A p cap (planL n) v2 (by omega) HPL.out.symm h16 ((HE1.out.below hb2).more hz2))
  have HB2 := Lib.hid hb2'
  clear hb2 hb2'
  go_wp2_with fail
  refine HRK.out.mono ?_
  clear HRK
  rintro e v3 ⟨A3, cap3, rfl, hb3, hown3⟩
  rw [← HK.out, HKN.out] at hown3
  have HB3 := Lib.hid (HB2.out.trans (hb3.mono (by omega)))
  have HO3 := Lib.hid hown3.els
  clear hb3 hown3 HB2 HB1 HE1
  go_wp2_with fail
  go_loop [53] (fun i => ∃ k : Nat, k ≤ n ∧ i = .int .i64 k) (fun i => n - (intOf i).toNat)
  case atStart => exact ⟨0, by omega, rfl⟩
  case round =>
    obtain ⟨k, hk, rfl⟩ := hrel
    by_cases hlt : k < n
    · obtain ⟨b, off, rfl, _, g0⟩ := HO3.out.at1 (f := fun x => .int .u32 (wN x)) (k := k) (by simp; omega)
      rw [List.getElem_replicate] at g0
      have g1 : v3.cell? ⟨b, off + k, none⟩ = some (.int .u32 (wN (wSub (wShl w1 n) w1))) := g0
      have hx : (wSub (wShl w1 n) w1 != wSub (wShl w1 n) w1) = false := by simp
      clear g0
      go_wp2_with fail
      go_round
      case rel => exact ⟨k + 1, by omega, by go_num⟩
      case measure => simp [intOf]; omega
    · obtain rfl : k = n := by omega
      go_wp2_with fail
      go_ret
      exact ⟨rfl, HB3.out⟩

theorem NewsPlans_good (n : Nat) (W : World) (h1 : 1 ≤ n) (h8 : n ≤ 8) :
    Calls Try.prog 12 #[.int .i64 n] W fun e w' => e = .returned (.bool true) ∧ Below W.heap.size W w' := by
  have : n = 1 ∨ n = 2 ∨ n = 3 ∨ 4 ≤ n := by omega
  rcases this with rfl | rfl | rfl | h4
  · exact NewsPlans_1 W
  · exact NewsPlans_2 W
  · exact NewsPlans_3 W
  · exact NewsPlans_4 n h4 h8 W
set_option maxRecDepth 100000 in
theorem NewsPlans_row (n : Int) (W : World) (_hn : OkI n) :
    Calls Try.prog 12 #[.int .i64 n] W fun e w' => e = .returned (.bool true) ∧ Below W.heap.size W w' := by
  by_cases h1 : n < 1
  · have HP := Lib.hid (news_Plan_bad n W (.inl h1))
    go_enter Try.func12, Try.ntmps12
    go_wp2_with fail
    refine HP.out.mono ?_
    rintro e v1 ⟨rfl, rfl⟩
    go_wp2_with fail
    go_ret
    exact ⟨rfl, Below.refl _ _⟩
  by_cases h8 : 8 < n
  · have HP := Lib.hid (news_Plan_bad n W (.inr h8))
    go_enter Try.func12, Try.ntmps12
    go_wp2_with fail
    refine HP.out.mono ?_
    rintro e v1 ⟨rfl, rfl⟩
    go_wp2_with fail
    go_ret
    exact ⟨rfl, Below.refl _ _⟩
  obtain ⟨N, rfl⟩ := Int.eq_ofNat_of_zero_le (show 0 ≤ n by omega)
  exact NewsPlans_good N W (by omega) (by omega)
end Go.Proofs.Ytaldkafibemhnaa
