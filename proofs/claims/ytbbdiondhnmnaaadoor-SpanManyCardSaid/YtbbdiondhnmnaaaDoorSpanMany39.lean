/- Distances: the reference's table. Conditions: the edges read as a list and may be. -/
import Derived.Test.YtbbdiondhnmnaaaDoorSpanMany20
import Derived.Test.YtbbdiondhnmnaaaDoorSpanMany38
import Derived.BigQuiet
import Derived.BigRegion
import Derived.IntWalk
namespace Go.Proofs.YtbbdiondhnmnaaaDoor
open Go.RowKit

theorem fstM_eq (l : List Ed) {i j : Nat} (h : i = j) : fstM l i j = 0 := by unfold fstM; rw [if_pos h]
theorem fstM_adj (l : List Ed) {i j : Nat} (h : ¬ i = j) (ha : adj l i j = true) : fstM l i j = 1 := by unfold fstM; rw [if_neg h, if_pos ha]
theorem fstM_no (l : List Ed) {i j : Nat} (h : ¬ i = j) (ha : adj l i j = false) : fstM l i j = -1 := by unfold fstM; rw [if_neg h, if_neg (by simp [ha])]

set_option maxRecDepth 100000 in
set_option maxHeartbeats 2000000 in
theorem ref_Dist (N : Nat) (A : Option Addr) (n c : Nat) (l : List Ed) (w : World) (hl : l.length = n) (hg : GoodG N l) (hr : Els w w.heap.size 3 Ed.cells A l) :
    Calls Tryd.prog 21 #[.agg #[.int .i64 N, .slice A n c]] w fun e w' => ∃ A2 c2 P M, e = .returned (.slice A2 N c2) ∧ Below w.heap.size w w' ∧ P.length = N ∧ Mat w' (w.heap.size + 1) N A2 c2 P M ∧ ∀ i j, i < N → j < N → DistIs (Adj l) i j (M i j) := by
  have HB0 := Lib.hid ((Below.refl w.heap.size w).alloc (Nat.le_refl _) (.cells #[.int .i64 N, .slice A n c] 24))
  have HK0 := Lib.hid (Blk.new w 24 #[.int .i64 N, .slice A n c])
  have HNE : Hid (∀ (i j : Nat) (v : World), Below w.heap.size w v → Calls Tryd.prog 22 #[.agg #[.int .i64 N, .slice A n c], .int .i64 i, .int .i64 j] v fun e w' => e = .returned (.bool (adj l i j)) ∧ Below v.heap.size v w') := Lib.hid (fun i j v hv =>
    ref_Near N i j A n c l v hl (by have := hg.m45; omega) ((hr.below hv).more hv.size))
  have hN := hg.n10
  have HG := Lib.hid hg
  clear hr hg hl
  go_enter Tryd.func21, Tryd.ntmps21
  go_wp2_with fail
  go_loopw [4, 3] (fun s4 s3 wr => ∃ (k : Nat) (A3 : Option Addr) (c3 : Nat) (P : List (Nat × Nat)), k ≤ N ∧ s4 = .int .i64 k ∧ s3 = .slice A3 k c3 ∧ P.length = k ∧ Below w.heap.size w wr ∧ Blk wr w.heap.size 24 #[.int .i64 N, .slice A n c] ∧ Mat wr (w.heap.size + 1) N A3 c3 P (fstM l)) (fun s4 _ _ => N - (intOf s4).toNat)
  case atStart => exact ⟨0, none, 0, [], by omega, rfl, rfl, rfl, HB0.out, HK0.out, Mat.nil _ _ _ _⟩
  case round =>
    clear HB0 HK0
    rename World => wr
    obtain ⟨k, A3, c3, P, hk, rfl, rfl, hP, hb, hk0, hm⟩ := hrel
    have c0 := hk0.cell 0
    have HP := Lib.hid hP
    have HB := Lib.hid hb
    have HK := Lib.hid hk0
    have HM := Lib.hid hm
    clear hP hb hk0 hm
    by_cases hlt : k < N
    · go_wp2_with fail
      clear c0
      go_loopw [6, 5] (fun s6 s5 w2 => ∃ (j : Nat) (A5 : Option Addr) (c5 : Nat), j ≤ N ∧ s6 = .int .i64 j ∧ s5 = .slice A5 j c5 ∧ Below w.heap.size w w2 ∧ Blk w2 w.heap.size 24 #[.int .i64 N, .slice A n c] ∧ Mat w2 (w.heap.size + 1) N A3 c3 P (fstM l) ∧ Own w2 (w.heap.size + 1) 3 1 icell A5 c5 (rowL j (fstM l k)) ∧ (∀ g, blkOf A5 = some g → Apart P g)) (fun s6 _ _ => N - (intOf s6).toNat)
      case atStart => exact ⟨0, none, 0, by omega, rfl, rfl, HB.out, HK.out, HM.out, Own.nil _ _ _ (fun _ => rfl), fun g h => by cases h⟩
      case round =>
        clear HB HK HM
        rename World => w2
        obtain ⟨j, A5, c5, hj, rfl, rfl, hb, hk0, hm, ho, hap⟩ := hrel
        have c0 := hk0.cell 0
        have c1 := hk0.cell 1
        have HB := Lib.hid hb
        have HK := Lib.hid hk0
        have HM := Lib.hid hm
        have HO := Lib.hid ho
        have HAP := Lib.hid hap
        clear hb hk0 hm ho hap
        by_cases hlj : j < N
        · have HN2 := Lib.hid (HNE.out k j w2 HB.out)
          go_wp2_with fail
          refine HN2.out.mono ?_
          clear HN2
          rintro e w3 ⟨rfl, hb3⟩
          have hz2 := HB.out.size
          have HB3 := Lib.hid (HB.out.trans (hb3.mono hz2))
          have HK3 := Lib.hid (HK.out.below hb3 HK.out.lt)
          have HM3 := Lib.hid (HM.out.below hb3)
          have HO3 := Lib.hid (HO.out.below hb3 (Nat.le_refl _))
          have hz3 := HB3.out.size
          have hk3 := HK3.out.lt
          have hap0 : ∀ i, i < P.length → (pAt P i).1 < w3.heap.size := fun i hi => by
            obtain ⟨g, _, _, _, _, _, _, h7, _⟩ := HM3.out.at_ hi
            exact h7
          have HAP0 := Lib.hid hap0
          clear hb3 hap0 HB HK HM HO c0 c1
          obtain ⟨ad, had⟩ : ∃ ad, ad = adj l k j := ⟨_, rfl⟩
          rw [← had]
          have HAD := Lib.hid had
          clear had
          by_cases hkj : k = j
          · have HF := Lib.hid (fstM_eq l hkj)
            have hkb : ((k : Int) == (j : Int)) = true := by simp [hkj]
            clear hkj
            cases ad with
            | true =>
              go_wp2_with (at_builtin; go_loud (refine wpList_push rfl _ _ _ rfl (w.heap.size + 1) 1 3 (.int .i64 0) 8 Tryd.underlying40 (by kernel_rfl) rfl (by omega) icell w3 #[.int .i64 0] A5 j c5 (rowL j (fstM l k)) (rowL_len _ _) rfl HO3.out 1 [0] rfl rfl _ rfl rfl (by simp [Value.oneCell']) (by unfold maxLen; omega) (by omega) (by omega) ?_; intro A6 c6 w4 hown4 hgrow4 hloc4))
              go_roundw
              case rel =>
                refine ⟨j + 1, A6, c6, by omega, by go_num, rfl, (HB3.out.alloc hz3 _).grown hgrow4 (by rw [size_alloc']; omega) (fun g hg => by have := (HO3.out.lt g hg).1; omega), (HK3.out.alloc _).grown hgrow4 (fun h => by have := (HO3.out.lt _ h.symm).1; omega), ?_, by rw [rowL_succ, HF.out]; exact hown4, ?_⟩
                · exact HM3.out.grownRow _ rfl hgrow4 HO3.out HAP.out
                · rcases hloc4 with h | h
                  · rw [h]; exact HAP.out
                  · intro g hg i hi he
                    rw [h] at hg
                    have := HAP0.out i hi
                    injection hg with hg
                    omega
              case measure => simp [intOf]; omega
            | false =>
              go_wp2_with (at_builtin; go_loud (refine wpList_push rfl _ _ _ rfl (w.heap.size + 1) 1 3 (.int .i64 0) 8 Tryd.underlying40 (by kernel_rfl) rfl (by omega) icell w3 #[.int .i64 0] A5 j c5 (rowL j (fstM l k)) (rowL_len _ _) rfl HO3.out 1 [0] rfl rfl _ rfl rfl (by simp [Value.oneCell']) (by unfold maxLen; omega) (by omega) (by omega) ?_; intro A6 c6 w4 hown4 hgrow4 hloc4))
              go_roundw
              case rel =>
                refine ⟨j + 1, A6, c6, by omega, by go_num, rfl, (HB3.out.alloc hz3 _).grown hgrow4 (by rw [size_alloc']; omega) (fun g hg => by have := (HO3.out.lt g hg).1; omega), (HK3.out.alloc _).grown hgrow4 (fun h => by have := (HO3.out.lt _ h.symm).1; omega), ?_, by rw [rowL_succ, HF.out]; exact hown4, ?_⟩
                · exact HM3.out.grownRow _ rfl hgrow4 HO3.out HAP.out
                · rcases hloc4 with h | h
                  · rw [h]; exact HAP.out
                  · intro g hg i hi he
                    rw [h] at hg
                    have := HAP0.out i hi
                    injection hg with hg
                    omega
              case measure => simp [intOf]; omega
          · cases ad with
            | true =>
              have HF := Lib.hid (fstM_adj l hkj HAD.out.symm)
              go_wp2_with (at_builtin; go_loud (refine wpList_push rfl _ _ _ rfl (w.heap.size + 1) 1 3 (.int .i64 0) 8 Tryd.underlying40 (by kernel_rfl) rfl (by omega) icell w3 #[.int .i64 1] A5 j c5 (rowL j (fstM l k)) (rowL_len _ _) rfl HO3.out 1 [1] rfl rfl _ rfl rfl (by simp [Value.oneCell']) (by unfold maxLen; omega) (by omega) (by omega) ?_; intro A6 c6 w4 hown4 hgrow4 hloc4))
              go_roundw
              case rel =>
                refine ⟨j + 1, A6, c6, by omega, by go_num, rfl, (HB3.out.alloc hz3 _).grown hgrow4 (by rw [size_alloc']; omega) (fun g hg => by have := (HO3.out.lt g hg).1; omega), (HK3.out.alloc _).grown hgrow4 (fun h => by have := (HO3.out.lt _ h.symm).1; omega), ?_, by rw [rowL_succ, HF.out]; exact hown4, ?_⟩
                · exact HM3.out.grownRow _ rfl hgrow4 HO3.out HAP.out
                · rcases hloc4 with h | h
                  · rw [h]; exact HAP.out
                  · intro g hg i hi he
                    rw [h] at hg
                    have := HAP0.out i hi
                    injection hg with hg
                    omega
              case measure => simp [intOf]; omega
            | false =>
              have HF := Lib.hid (fstM_no l hkj HAD.out.symm)
              go_wp2_with (at_builtin; go_loud (refine wpList_push rfl _ _ _ rfl (w.heap.size + 1) 1 3 (.int .i64 0) 8 Tryd.underlying40 (by kernel_rfl) rfl (by omega) icell w3 #[.int .i64 (-1)] A5 j c5 (rowL j (fstM l k)) (rowL_len _ _) rfl HO3.out 1 [-1] rfl rfl _ rfl rfl (by simp [Value.oneCell']) (by unfold maxLen; omega) (by omega) (by omega) ?_; intro A6 c6 w4 hown4 hgrow4 hloc4))
              go_roundw
              case rel =>
                refine ⟨j + 1, A6, c6, by omega, by go_num, rfl, (HB3.out.alloc hz3 _).grown hgrow4 (by rw [size_alloc']; omega) (fun g hg => by have := (HO3.out.lt g hg).1; omega), (HK3.out.alloc _).grown hgrow4 (fun h => by have := (HO3.out.lt _ h.symm).1; omega), ?_, by rw [rowL_succ, HF.out]; exact hown4, ?_⟩
                · exact HM3.out.grownRow _ rfl hgrow4 HO3.out HAP.out
                · rcases hloc4 with h | h
                  · rw [h]; exact HAP.out
                  · intro g hg i hi he
                    rw [h] at hg
                    have := HAP0.out i hi
                    injection hg with hg
                    omega
              case measure => simp [intOf]; omega
        · obtain rfl : j = N := by omega
          obtain ⟨g5, rfl, _, _⟩ := HO.out.form_ (by rw [rowL_len]; omega)
          have hap := HAP.out g5 rfl
          have HA5 := Lib.hid hap
          have hz2 := HB.out.size
          have hk2 := HK.out.lt
          clear c1 hap HAP
          go_wp2_with (at_builtin; go_loud (refine wpList_push rfl _ _ _ rfl (w.heap.size + 1) 1 40 (.slice none 0 0) 24 Tryd.underlying56 (by kernel_rfl) rfl (by omega) (rowF j) w2 #[.slice (some ⟨g5, 0, none⟩) j c5] A3 k c3 P HP.out rfl HM.out.out 1 [(g5, c5)] rfl rfl _ rfl rfl (by simp [Value.oneCell']) (by unfold maxLen; omega) (by omega) (by omega) ?_; intro A6 c6 w4 hown4 hgrow4 hloc4))
          go_roundw
          case rel =>
            refine ⟨k + 1, A6, c6, P ++ [(g5, c5)], by omega, by go_num, rfl, by rw [List.length_append, HP.out]; rfl, (HB.out.alloc hz2 _).grown hgrow4 (by rw [size_alloc']; omega) (fun g hg => by have := (HM.out.out.lt g hg).1; omega), (HK.out.alloc _).grown hgrow4 (fun h => by have := (HM.out.out.lt _ h.symm).1; omega), ?_⟩
            exact HM.out.snoc (by rw [HP.out]; exact HO.out) HA5.out _ rfl hown4 hgrow4
          case measure => simp [intOf]; omega
    · obtain rfl : k = N := by omega
      have HFL := Lib.hid (Flo.fst l k)
      have HP0 := Lib.hid HP.out
      go_wp2_with fail
      clear c0
      go_loopw [8] (fun s8 w2 => ∃ (q : Nat) (M : Nat → Nat → Int), q ≤ k ∧ s8 = .int .i64 q ∧ Below w.heap.size w w2 ∧ Blk w2 w.heap.size 24 #[.int .i64 k, .slice A n c] ∧ Mat w2 (w.heap.size + 1) k A3 c3 P M ∧ Flo (Adj l) k q 0 0 M) (fun s8 _ => k - (intOf s8).toNat)
      case atStart => exact ⟨0, fstM l, by omega, rfl, HB.out, HK.out, HM.out, HFL.out⟩
      case round =>
        clear HB HK HM HFL
        rename World => w2
        obtain ⟨q, M, hq, rfl, hb, hk0, hm, hfl⟩ := hrel
        have c0 := hk0.cell 0
        have HB := Lib.hid hb
        have HK := Lib.hid hk0
        have HM := Lib.hid hm
        have HFL := Lib.hid hfl
        clear hb hk0 hm hfl
        by_cases hlq : q < k
        · go_wp2_with fail
          clear c0
          go_loopw [9] (fun s9 w3 => ∃ (i : Nat) (M : Nat → Nat → Int), i ≤ k ∧ s9 = .int .i64 i ∧ Below w.heap.size w w3 ∧ Blk w3 w.heap.size 24 #[.int .i64 k, .slice A n c] ∧ Mat w3 (w.heap.size + 1) k A3 c3 P M ∧ Flo (Adj l) k q i 0 M) (fun s9 _ => k - (intOf s9).toNat)
          case atStart => exact ⟨0, M, by omega, rfl, HB.out, HK.out, HM.out, HFL.out⟩
          case round =>
            clear HB HK HM HFL
            rename World => w3
            obtain ⟨i, M, hi, rfl, hb, hk0, hm, hfl⟩ := hrel
            have c0 := hk0.cell 0
            have HB := Lib.hid hb
            have HK := Lib.hid hk0
            have HM := Lib.hid hm
            have HFL := Lib.hid hfl
            clear hb hk0 hm hfl
            by_cases hli : i < k
            · go_wp2_with fail
              clear c0
              go_loopw [10] (fun s10 w4 => ∃ (j : Nat) (M : Nat → Nat → Int), j ≤ k ∧ s10 = .int .i64 j ∧ Below w.heap.size w w4 ∧ Blk w4 w.heap.size 24 #[.int .i64 k, .slice A n c] ∧ Mat w4 (w.heap.size + 1) k A3 c3 P M ∧ Flo (Adj l) k q i j M) (fun s10 _ => k - (intOf s10).toNat)
              case atStart => exact ⟨0, M, by omega, rfl, HB.out, HK.out, HM.out, HFL.out⟩
              case round =>
                clear HB HK HM HFL
                rename World => w4
                obtain ⟨j, M, hj, rfl, hb, hk0, hm, hfl⟩ := hrel
                have c0 := hk0.cell 0
                have HB := Lib.hid hb
                have HK := Lib.hid hk0
                have HM := Lib.hid hm
                by_cases hlj : j < k
                · have HNX := Lib.hid (hfl.next hlq hli hlj)
                  have hle1 := hfl.le hN hlq hli hlq
                  have hle2 := hfl.le hN hlq hlq hlj
                  have hle3 := hfl.le hN hlq hli hlj
                  obtain ⟨g, hA, hgB, hgs, hne1, e1, hB1, hs1, hc1⟩ := hm.at_ (i := i) (by rw [HP0.out]; exact hli)
                  obtain ⟨g', hA', _, _, hne2, e2, hB2, hs2, hc2⟩ := hm.at_ (i := q) (by rw [HP0.out]; exact hlq)
                  subst hA
                  obtain rfl : g = g' := by simpa using hA'
                  obtain ⟨d1, _⟩ := hc1 q hlq
                  obtain ⟨d2, _⟩ := hc2 j hlj
                  obtain ⟨d3, f3⟩ := hc1 j hlj
                  obtain ⟨pi, hpi⟩ : ∃ pi, pi = pAt P i := ⟨_, rfl⟩
                  obtain ⟨pq, hpq⟩ : ∃ pq, pq = pAt P q := ⟨_, rfl⟩
                  have hput := fun z x => (hm.drewN z).put (i := i) (j := j) (M' := upd M i j x) (by rw [HP0.out]; exact hli) hlj x (upd_same _ _ _ _) (fun i' j' h => upd_other _ _ h)
                  rw [← hpi] at e1 d1 d3 f3 hput hB1
                  rw [← hpq] at e2 d2
                  obtain ⟨gi, ci⟩ := pi
                  obtain ⟨gq, cq⟩ := pq
                  simp only at e1 d1 d3 f3 hput hB1 e2 d2
                  have HPUT := Lib.hid hput
                  obtain ⟨a, ha⟩ : ∃ a, a = M i q := ⟨_, rfl⟩
                  obtain ⟨b, hb⟩ : ∃ b, b = M q j := ⟨_, rfl⟩
                  obtain ⟨x, hx⟩ : ∃ x, x = M i j := ⟨_, rfl⟩
                  rw [← ha] at d1 HNX hle1
                  rw [← hb] at d2 HNX hle2
                  rw [← hx] at d3 HNX hle3
                  have hw : IntKind.i64.wrap (a + b) = a + b := IntWalk.i64_in _ (by omega)
                  clear hfl hm hA' hc1 hc2 hpi hpq hput ha hb hx hne1 hne2 hs1 hs2 hB2
                  by_cases h1 : 0 ≤ a
                  · by_cases h2 : 0 ≤ b
                    · by_cases h3 : x < 0
                      · have HE : Hid (betterB a b x = true) := Lib.hid (by simp [betterB, h1, h2, h3])
                        go_wp2_with fail
                        go_big_quiet (fail)
                        go_wp2_with fail
                        go_region
                        all_goals
                          go_wp2_with fail
                          go_roundw
                          case rel => exact ⟨j + 1, upd M i j (a + b), by omega, by go_num, ((below_drewN HB.out _).setCell (p := ⟨gi, j, none⟩) (by show w.heap.size ≤ gi; omega) _), ((HK.out.drewN _).far (p := ⟨gi, j, none⟩) (by show w.heap.size ≠ gi; omega) _), HPUT.out _ _, by have := HNX.out; rw [HE.out, if_pos rfl] at this; exact this⟩
                          case measure => simp [intOf]; omega
                      · have q3 : decide (x < 0) = false := decide_eq_false h3
                        by_cases h4 : a + b < x
                        · have HE : Hid (betterB a b x = true) := Lib.hid (by simp [betterB, h1, h2, h4])
                          go_wp2_with fail
                          go_big_quiet (fail)
                          go_wp2_with fail
                          go_region
                          all_goals
                            go_wp2_with fail
                            go_roundw
                            case rel => exact ⟨j + 1, upd M i j (a + b), by omega, by go_num, ((below_drewN HB.out _).setCell (p := ⟨gi, j, none⟩) (by show w.heap.size ≤ gi; omega) _), ((HK.out.drewN _).far (p := ⟨gi, j, none⟩) (by show w.heap.size ≠ gi; omega) _), HPUT.out _ _, by have := HNX.out; rw [HE.out, if_pos rfl] at this; exact this⟩
                            case measure => simp [intOf]; omega
                        · have HE : Hid (betterB a b x = false) := Lib.hid (by simp [betterB, h1, h2]; omega)
                          have q4 : decide (a + b < x) = false := decide_eq_false h4
                          go_wp2_with fail
                          go_big_quiet (fail)
                          go_wp2_with fail
                          go_roundw
                          case rel => exact ⟨j + 1, M, by omega, by go_num, below_drewN HB.out _, HK.out.drewN _, HM.out.drewN _, by have := HNX.out; rw [HE.out, if_neg (by simp)] at this; exact this⟩
                          case measure => simp [intOf]; omega
                    · have HE : Hid (betterB a b x = false) := Lib.hid (by simp [betterB, h2])
                      have q2 : decide (0 ≤ b) = false := decide_eq_false h2
                      go_wp2_with fail
                      go_big_quiet (fail)
                      go_wp2_with fail
                      go_roundw
                      case rel => exact ⟨j + 1, M, by omega, by go_num, below_drewN HB.out _, HK.out.drewN _, HM.out.drewN _, by have := HNX.out; rw [HE.out, if_neg (by simp)] at this; exact this⟩
                      case measure => simp [intOf]; omega
                  · have HE : Hid (betterB a b x = false) := Lib.hid (by simp [betterB, h1])
                    have q1 : decide (0 ≤ a) = false := decide_eq_false h1
                    go_wp2_with fail
                    go_big_quiet (fail)
                    go_wp2_with fail
                    go_roundw
                    case rel => exact ⟨j + 1, M, by omega, by go_num, below_drewN HB.out _, HK.out.drewN _, HM.out.drewN _, by have := HNX.out; rw [HE.out, if_neg (by simp)] at this; exact this⟩
                    case measure => simp [intOf]; omega
                · obtain rfl : j = k := by omega
                  have HFL := Lib.hid hfl.line
                  clear hfl
                  go_wp2_with fail
                  go_roundw
                  case rel => exact ⟨i + 1, M, by omega, by go_num, HB.out, HK.out, HM.out, HFL.out⟩
                  case measure => simp [intOf]; omega
            · obtain rfl : i = k := by omega
              have HFL2 := Lib.hid HFL.out.turn
              clear HFL
              go_wp2_with fail
              go_roundw
              case rel => exact ⟨q + 1, M, by omega, by go_num, HB.out, HK.out, HM.out, HFL2.out⟩
              case measure => simp [intOf]; omega
        · obtain rfl : q = k := by omega
          go_wp2_with fail
          go_ret
          exact ⟨A3, c3, P, M, rfl, HB.out, HP0.out, HM.out, fun i j hi hj => HFL.out.dist HG.out hi hj⟩
end Go.Proofs.YtbbdiondhnmnaaaDoor
