/- Jobs: what is told to be wrong, by the program and by the reference. Conditions: the jobs and their lists read as lists. -/
import Derived.Test.YtpinhmhempbmoaaIdxJ
namespace Go.Proofs.Ytpinhmhempbmoaa
open Go.RowKit

theorem ent_check1 : Ent Try.prog 88 := ent_of Try.func88 (by kernel_rfl) rfl
theorem ent_check2 : Ent Try.prog 90 := ent_of Try.func90 (by kernel_rfl) rfl
theorem line_check1 (j : Jb) (w : World) (hm : j.s.l.length ≤ maxLen) :
    Calls Try.prog 88 #[.agg #[.int .i64 j.t, j.s.val, .int .i64 j.x, .int .i64 j.y]] w fun e w' => e = .returned (.bool (longJ j)) ∧ Below w.heap.size w w' := by
  obtain ⟨t, ⟨A, c, l⟩, x, y⟩ := j
  obtain ⟨n, hn⟩ : ∃ n, n = l.length := ⟨_, rfl⟩
  have HE : Hid (longJ ⟨t, ⟨A, c, l⟩, x, y⟩ = decide (10 < (n : Int))) := by
    show longJ ⟨t, ⟨A, c, l⟩, x, y⟩ = _
    unfold longJ
    simp only [decide_eq_decide]
    rw [hn]
    omega
  show Calls Try.prog 88 #[.agg #[.int .i64 t, .slice A l.length c, .int .i64 x, .int .i64 y]] w _
  simp only at hm
  rw [← hn] at hm ⊢
  unfold maxLen at hm
  clear hn
  go_enter Try.func88, Try.ntmps88
  go_wp2_with fail
  go_ret
  exact ⟨ret_bool HE.out.symm, (Below.refl _ _).alloc (Nat.le_refl _) _⟩
theorem line_check2 (k : Int) (A : Option Addr) (n c : Nat) (S : Nat) (w : World) (h : Blk w S 22 #[.slice A n c]) :
    Calls Try.prog 90 #[.int .i64 k, .pointer (some ⟨S, 0, none⟩)] w fun e w' => e = .returned (.bool (kBad n k)) ∧ w = w' := by
  have c0 := h.cell 0
  clear h
  by_cases h0 : k < 0
  · have HE : Hid (kBad n k = true) := by show kBad n k = true; simp [kBad, h0]
    go_enter Try.func90, Try.ntmps90
    go_wp2_with fail
    go_ret
    exact ⟨ret_bool (by rw [HE.out]), rfl⟩
  · have HE : Hid (kBad n k = decide ((n : Int) ≤ k)) := by show kBad n k = _; simp [kBad, h0]
    go_enter Try.func90, Try.ntmps90
    go_wp2_with fail
    go_ret
    exact ⟨ret_bool (by rw [HE.out]), rfl⟩

set_option maxRecDepth 100000 in
set_option maxHeartbeats 1000000 in
theorem line_check (l : List Jb) (A : Option Addr) (n c : Nat) (w : World) (hl : l.length = n) (hn : n ≤ maxLen) (hr : Els w w.heap.size 4 Jb.cells A l) (ha : Afters w w.heap.size l) :
    Calls Try.prog 68 #[.slice A n c] w fun e w' => e = .returned (.int .i64 (jobsCheck l)) ∧ Below w.heap.size w w' := by
  have HN : Hid (jobsCheck l = if 10 < n then 1 else if l.any longJ then 1 else jobsFrom n l) := by subst hl; rfl
  have hb0 := (Below.refl w.heap.size w).alloc (Nat.le_refl _) (.cells #[.slice A n c] 22)
  have hB0 := Blk.new w 22 #[.slice A n c]
  have HC := Lib.hid (ContainsFunc_jobs 88 ent_check1 #[] longJ A n c l (w.alloc (.cells #[.slice A n c] 22)) hl hn ((hr.alloc (Nat.le_refl _) _).more (by rw [size_alloc']; omega))
    (fun j wx hj hb => by simpa using (line_check1 j wx (ha j hj).2).mono fun e w' ⟨he, hw⟩ => ⟨he, hw.mono (by have := hb.size; rw [size_alloc'] at this; exact this)⟩))
  have HL := Lib.hid hl
  have HR := Lib.hid hr
  have HA := Lib.hid ha
  have HB0 := Lib.hid hb0
  have HK0 := Lib.hid hB0
  have c0 := hB0.cell 0
  unfold maxLen at hn
  clear hl hr ha hb0 hB0
  by_cases h10 : 10 < n
  · have HM := Lib.hid (HN.out.trans (if_pos h10))
    go_enter Try.func68, Try.ntmps68
    go_wp2_with fail
    go_ret
    exact ⟨ret_i64 (by rw [HM.out]), HB0.out⟩
  have HM := Lib.hid (HN.out.trans (if_neg h10))
  clear HN
  rcases hlong : l.any longJ with _ | _
  · have HLO := Lib.hid hlong
    have HM2 := Lib.hid (HM.out.trans (if_neg (by rw [hlong]; simp)))
    clear hlong
    go_enter Try.func68, Try.ntmps68
    go_wp2_with fail
    refine HC.out.mono ?_
    clear HC
    rintro e v1 ⟨rfl, hb1⟩
    rw [HLO.out]
    have hk1 := HK0.out.below hb1 (by rw [size_alloc']; omega)
    have HB1 := Lib.hid (HB0.out.trans (hb1.mono (by rw [size_alloc']; omega)))
    have HK1 := Lib.hid hk1
    clear c0 hb1
    have c0 := hk1.cell 0
    clear hk1
    go_wp2_with fail
    go_loopw [14] (fun i wr => ∃ k : Nat, k ≤ n ∧ i = .int .i64 k ∧ Below w.heap.size w wr ∧ Blk wr w.heap.size 22 #[.slice A n c] ∧ jobsFrom n (l.drop k) = jobsFrom n l) (fun i _ => n - (intOf i).toNat)
    case atStart => exact ⟨0, by omega, rfl, HB1.out, HK1.out, rfl⟩
    case round =>
      clear HB1 HK1 c0
      rename World => wr
      obtain ⟨k, hk, rfl, hb, hblk, hfrom⟩ := hrel
      have hsz := hb.size
      have hltb := hblk.lt
      have HB := Lib.hid hb
      have HK := Lib.hid hblk
      have HF := Lib.hid hfrom
      clear hb hblk hfrom
      by_cases hlt : k < n
      · have hkl : k < l.length := by rw [HL.out]; exact hlt
        obtain ⟨b, off, rfl, _, g0, g1, g2, g3⟩ := (HR.out.below HB.out).at4 (f := fun a : Jb => .int .i64 a.t) (g := fun a => a.s.val) (p := fun a => .int .i64 a.x) (q := fun a => .int .i64 a.y) hkl
        have hmem := List.getElem_mem hkl
        obtain ⟨j, hj⟩ : ∃ j, j = l[k] := ⟨_, rfl⟩
        have HR2 := Lib.hid (jobs_round hkl HF.out j hj)
        rw [← hj] at g0 g1 g2 g3 hmem
        obtain ⟨ha1, ha2⟩ := HA.out j hmem
        clear hj hmem
        obtain ⟨t, ⟨As, cs, ls⟩, x, y⟩ := j
        obtain ⟨m, hm⟩ : ∃ m, m = ls.length := ⟨_, rfl⟩
        have g1' : wr.cell? ⟨b, off + k * 4 + 1, none⟩ = some (.slice As m cs) := by rw [hm]; exact g1
        simp only at g0 g2 g3 ha1 ha2
        rw [← hm] at ha2
        have HM3 := Lib.hid hm
        have hbE := HB.out.alloc hsz (.cells #[.int .i64 t, .slice As m cs, .int .i64 x, .int .i64 y] 75)
        have hKE := HK.out.alloc (.cells #[.int .i64 t, .slice As m cs, .int .i64 x, .int .i64 y] 75)
        have hCF := ContainsFunc_ints 90 ent_check2 #[.pointer (some ⟨w.heap.size, 0, none⟩)] (kBad n) As m cs ls (wr.alloc (.cells #[.int .i64 t, .slice As m cs, .int .i64 x, .int .i64 y] 75)) hm.symm ha2 ((ha1.below hbE).more hbE.size)
          (fun a wx _ hb2 => by
            have h := hKE.below hb2 hKE.lt
            simpa using (line_check2 a _ n c _ wx h).mono fun e w' ⟨he, hw⟩ => ⟨he, by subst hw; exact Below.refl _ _⟩)
        have HCF := Lib.hid hCF
        have HBE := Lib.hid hbE
        have HKE := Lib.hid hKE
        clear g1 ha1 hm hCF hbE hKE
        by_cases q1 : t < 0
        · have HT : Hid (tBad t = true) := by show tBad t = true; simp [tBad, q1]
          go_wp2_with fail
          go_ret
          exact ⟨ret_i64 (by rw [HM2.out, HR2.out, if_pos HT.out]), HBE.out⟩
        by_cases q2 : 1048576 < t
        · have HT : Hid (tBad t = true) := by show tBad t = true; simp [tBad, q2]
          go_wp2_with fail
          go_ret
          exact ⟨ret_i64 (by rw [HM2.out, HR2.out, if_pos HT.out]), HBE.out⟩
        have HT : Hid (tBad t = false) := by show tBad t = false; simp [tBad]; omega
        have HR3 := Lib.hid (HR2.out.trans (if_neg (by rw [HT.out]; simp)))
        rcases hkb : ls.any (kBad n) with _ | _
        · have HKB := Lib.hid hkb
          clear hkb
          go_wp2_with fail
          refine HCF.out.mono ?_
          clear HCF
          rintro e w' ⟨rfl, hb'⟩
          rw [HKB.out]
          have HB2 := Lib.hid (HBE.out.trans (hb'.mono HBE.out.size))
          have HK2 := Lib.hid (HKE.out.below hb' HKE.out.lt)
          clear hb'
          go_wp2_with fail
          go_roundw
          case rel => exact ⟨k + 1, by omega, by go_num, HB2.out, HK2.out, by rw [HR3.out, if_neg (by rw [HKB.out]; simp)]⟩
          case measure => simp [intOf]; omega
        · have HKB := Lib.hid hkb
          clear hkb
          go_wp2_with fail
          refine HCF.out.mono ?_
          clear HCF
          rintro e w' ⟨rfl, hb'⟩
          rw [HKB.out]
          have HB2 := Lib.hid (HBE.out.trans (hb'.mono HBE.out.size))
          clear hb'
          go_wp2_with fail
          go_ret
          exact ⟨ret_i64 (by rw [HM2.out, HR3.out, if_pos HKB.out]), HB2.out⟩
      · obtain rfl : k = n := by omega
        have hd : l.drop k = [] := List.drop_eq_nil_of_le (by rw [HL.out]; omega)
        have hF := HF.out
        rw [hd] at hF
        have HF2 := Lib.hid hF
        clear hd hF
        go_wp2_with fail
        go_ret
        exact ⟨ret_i64 (by rw [HM2.out, ← HF2.out]; rfl), HB.out⟩
  · have HLO := Lib.hid hlong
    have HM2 := Lib.hid (HM.out.trans (if_pos hlong))
    clear hlong
    go_enter Try.func68, Try.ntmps68
    go_wp2_with fail
    refine HC.out.mono ?_
    clear HC
    rintro e v1 ⟨rfl, hb1⟩
    rw [HLO.out]
    have HB1 := Lib.hid (HB0.out.trans (hb1.mono (by rw [size_alloc']; omega)))
    clear hb1
    go_wp2_with fail
    go_ret
    exact ⟨ret_i64 (by rw [HM2.out]), HB1.out⟩
end Go.Proofs.Ytpinhmhempbmoaa
