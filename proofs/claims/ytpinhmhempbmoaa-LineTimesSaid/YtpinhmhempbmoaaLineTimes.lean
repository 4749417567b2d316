/- The law LineTimes: both tell the same. Conditions: the jobs read as lists. -/
import Derived.Test.YtpinhmhempbmoaaTimesD
import Derived.Test.YtpinhmhempbmoaaLineR
namespace Go.Proofs.Ytpinhmhempbmoaa
open Go.RowKit

theorem end_same {l : List Jb} {n : Nat} (hl : l.length = n) (hg : GoodJs l) (ho : HasOrder l) (E : Nat → Int) : endOf (planOf l) E (List.range n) = endOf (planOf l) E (planOf l).ord :=
  endOf_same fun i => by rw [(plan_ok hg ho).mem i, List.mem_range]; show i < n ↔ i < l.length; omega

set_option maxRecDepth 100000 in
set_option maxHeartbeats 2000000 in
theorem law_LineTimes (l : List Jb) (A : Option Addr) (n c : Nat) (w : World) (hl : l.length = n) (hn : n ≤ maxLen) (hr : Els w w.heap.size 4 Jb.cells A l) (ha : Afters w w.heap.size l) :
    Calls Try.prog 3 #[.slice A n c] w fun e w' => e = .returned (.bool true) ∧ Below w.heap.size w w' := by
  have HO := Lib.hid (line_Times n A c l hl hn w hr ha)
  have HL := Lib.hid hl
  have HR := Lib.hid hr
  have HA := Lib.hid ha
  have HN := Lib.hid hn
  clear hl hr ha hn
  go_enter Try.func3, Try.ntmps3
  go_wp2_with fail
  refine HO.out.mono ?_
  clear HO
  rintro e w1 ⟨A1, k1, c1, A2, k2, c2, x, code, rfl, hb1, hbad, hgood⟩
  have hz1 := hb1.size
  have HB1 := Lib.hid hb1
  have HBAD := Lib.hid hbad
  have HGOOD := Lib.hid hgood
  have HC := Lib.hid (ref_JobsCheck l A n c w1 HL.out HN.out ((HR.out.below hb1).more hz1) ((HA.out.below hb1).more hz1))
  clear hb1 hbad hgood
  by_cases h0 : jobsCheck l = 0
  · have hg := jobs_good h0
    have h10 := hg.n10
    rw [HL.out] at h10
    obtain ⟨hno, hyes⟩ := HGOOD.out h0
    rw [h0] at HC
    have HG := Lib.hid hg
    clear HBAD HGOOD h0
    by_cases ho : HasOrder l
    · have hE := early_ok (plan_ok hg ho) (plan_far l)
      have hT := tail_ok (plan_ok hg ho) (plan_far l)
      obtain ⟨rfl, rfl, rfl, rfl, e1, e2⟩ := hyes ho _ _ rfl rfl
      have HS := Lib.hid (end_same HL.out hg ho (earlyP (planOf l) (planOf l).ord))
      obtain ⟨E, hEe⟩ : ∃ E, E = earlyP (planOf l) (planOf l).ord := ⟨_, rfl⟩
      obtain ⟨T, hTe⟩ : ∃ T, T = tailP (planOf l) (planOf l).ord.reverse := ⟨_, rfl⟩
      rw [← hEe] at hE e1 e2 HS ⊢
      rw [← hTe] at hT e2
      have HE := Lib.hid hE
      have HT := Lib.hid hT
      have HO := Lib.hid ho
      have HE1 := Lib.hid e1
      obtain ⟨fin, hfin⟩ : ∃ fin, fin = endOf (planOf l) E (planOf l).ord := ⟨_, rfl⟩
      rw [← hfin] at e2 HS ⊢
      have HE2 := Lib.hid e2
      clear hno hyes hg hE hT hEe hTe ho e1 e2 hfin
      go_wp2_with fail
      refine HC.out.mono ?_
      clear HC
      rintro e w2 ⟨rfl, hb2⟩
      have HB2 := Lib.hid (HB1.out.trans (hb2.mono hz1))
      have hz2 := HB2.out.size
      have HRO := Lib.hid (ref_Order l A k2 c w2 HL.out HG.out ((HR.out.below HB2.out).more hz2) ((HA.out.below HB2.out).more hz2))
      have HE1 := Lib.hid (HE1.out.below hb2)
      have HE2 := Lib.hid (HE2.out.below hb2)
      have hz12 := hb2.size
      clear hb2
      go_wp2_with fail
      refine HRO.out.mono ?_
      clear HRO
      rintro e w3 ⟨A3, k3, c3, b3, rfl, hb3, h3, _⟩
      obtain ⟨rfl, _, _⟩ := h3 HO.out
      have HB3 := Lib.hid (HB2.out.trans (hb3.mono hz2))
      have hz3 := HB3.out.size
      have HRT := Lib.hid (ref_Times k2 A c l HL.out HG.out HO.out E T HE.out HT.out w3 ((HR.out.below HB3.out).more hz3) ((HA.out.below HB3.out).more hz3))
      have HE1 := Lib.hid (HE1.out.below (hb3.mono hz12))
      have HE2 := Lib.hid (HE2.out.below (hb3.mono hz12))
      rw [HS.out] at HRT
      have hz23 := hb3.size
      clear hb3 h3
      go_wp2_with fail
      refine HRT.out.mono ?_
      clear HRT
      rintro e w4 ⟨g4, A4, c4, rfl, hb4, f1, f2⟩
      have HB4 := Lib.hid (HB3.out.trans (hb4.mono hz3))
      have hz4 := hb4.size
      have HL1 := Lib.hid (Longs_same A1 (some ⟨g4, 0, none⟩) k2 c1 k2 (rowU k2 E) w1.heap.size w4.heap.size w4 (rowU_len _ _) (by unfold maxLen; omega) (HE1.out.below (hb4.mono (by omega))) f1)
      have HL2 := Lib.hid (fun m => Longs_same A2 A4 k2 c2 c4 (rowU k2 (fun i => fin - T i)) w1.heap.size w4.heap.size (w4.drewN m) (rowU_len _ _) (by unfold maxLen; omega) ((HE2.out.below (hb4.mono (by omega))).below (below_drewN (Below.refl _ w4) m)) (f2.below (below_drewN (Below.refl _ w4) m)))
      clear hb4 f1 f2
      go_wp2_with fail
      refine HL1.out.mono ?_
      clear HL1
      rintro e w5 ⟨rfl, m5, rfl⟩
      go_wp2_with fail
      refine (HL2.out m5).mono ?_
      clear HL2
      rintro e w6 ⟨rfl, m6, rfl⟩
      go_wp2_with fail
      go_ret
      exact ⟨rfl, below_drewN HB4.out _⟩
    · obtain ⟨rfl, rfl, rfl, rfl⟩ := hno ho
      have HO := Lib.hid ho
      clear hno hyes hg ho
      go_wp2_with fail
      refine HC.out.mono ?_
      clear HC
      rintro e w2 ⟨rfl, hb2⟩
      have HB2 := Lib.hid (HB1.out.trans (hb2.mono hz1))
      have hz2 := HB2.out.size
      have HRO := Lib.hid (ref_Order l A n c w2 HL.out HG.out ((HR.out.below HB2.out).more hz2) ((HA.out.below HB2.out).more hz2))
      clear hb2
      go_wp2_with fail
      refine HRO.out.mono ?_
      clear HRO
      rintro e w3 ⟨A3, k3, c3, b3, rfl, hb3, _, h4⟩
      obtain rfl := h4 HO.out
      have HB3 := Lib.hid (HB2.out.trans (hb3.mono hz2))
      clear hb3 h4
      go_wp2_with fail
      go_ret
      exact ⟨rfl, HB3.out⟩
  · obtain ⟨rfl, rfl, rfl, rfl⟩ := HBAD.out h0
    have h1 : (jobsCheck l == 0) = false := by simpa using h0
    obtain ⟨tc, htc⟩ : ∃ tc, tc = jobsCheck l := ⟨_, rfl⟩
    rw [← htc] at h1 HC ⊢
    clear h0 htc HBAD HGOOD
    go_wp2_with fail
    refine HC.out.mono ?_
    clear HC
    rintro e w2 ⟨rfl, hb2⟩
    have HB2 := Lib.hid (HB1.out.trans (hb2.mono hz1))
    clear hb2
    go_wp2_with fail
    go_ret
    exact ⟨rfl, HB2.out⟩
theorem LineTimes_row (s : Sls (Int × Sls Int × Int × Int)) (w : World) (h : s.Good w w.heap.size 4 jobCells (fun p => OkI p.1 ∧ p.2.1.Good w w.heap.size 1 (fun n : Int => [.int .i64 n]) OkI ∧ OkI p.2.2.1 ∧ OkI p.2.2.2)) :
    Calls Try.prog 3 #[s.val] w fun e w' => e = .returned (.bool true) ∧ Below w.heap.size w w' :=
  law_LineTimes (s.l.map Jb.of) s.A s.l.length s.c w (by simp) h.1 (h.2.2.1.map_ Jb.of fun _ _ => rfl) (afters_of h.2.2.2)
end Go.Proofs.Ytpinhmhempbmoaa
