/- The statement WishPairs: its law's walk. Conditions: the lists read as lists. -/
import Derived.Test.YtodbhgbgeiailaaPairA
import Derived.Test.YtodbhgbgeiailaaPairR
import Derived.Test.YtodbhgbgeiailaaEq
import Derived.Test.YtodbhgbgeiailaaWishC
namespace Go.Proofs.Ytodbhgbgeiailaa
open Go.RowKit

theorem wish_nodup {L R : List (Sls Int)} (h : wishCheck L R = 0) (i : Nat) : (ls L i).Nodup := by
  unfold wishCheck at h
  split at h
  · omega
  · split at h
    · omega
    · split at h
      · omega
      · rename_i h1 h2 h3
        rw [Bool.not_eq_true, Bool.or_eq_false_iff] at h3
        unfold ls
        by_cases hi : i < L.length
        · have e : (L.map Sls.l).getD i [] = L[i].l := by simp [List.getD_eq_getElem?_getD, hi]
          rw [e]
          have := List.any_eq_false.1 h3.1 L[i] (List.getElem_mem hi)
          exact (listGood (by simpa using this)).1
        · have e : (L.map Sls.l).getD i [] = [] := by simp [List.getD_eq_getElem?_getD, show L.length ≤ i by omega]
          rw [e]
          exact List.nodup_nil
set_option maxRecDepth 100000 in
set_option maxHeartbeats 1000000 in
theorem law_WishPairs (AL AR : Option Addr) (nL cL nR cR : Nat) (L R : List (Sls Int)) (w : World) (hL : L.length = nL) (hR : R.length = nR) (hnL : nL ≤ maxLen) (hnR : nR ≤ maxLen) (hwi : WishIn w w.heap.size AL AR L R) :
    Calls Try.prog 4 #[.agg #[.slice AL nL cL, .slice AR nR cR]] w fun e w' => e = .returned (.bool true) ∧ Below w.heap.size w w' := by
  have hb0 := (Below.refl w.heap.size w).alloc (Nat.le_refl _) (.cells #[.slice AL nL cL, .slice AR nR cR] 38)
  have hB0 := Blk.new w 38 #[.slice AL nL cL, .slice AR nR cR]
  have hwi1 : WishIn (w.alloc (.cells #[.slice AL nL cL, .slice AR nR cR] 38)) (w.alloc (.cells #[.slice AL nL cL, .slice AR nR cR] 38)).heap.size AL AR L R := (hwi.below hb0).more (by rw [size_alloc']; omega)
  have HW : Hid (Calls Try.prog 17 #[.agg #[.slice AL nL cL, .slice AR nR cR]] (w.alloc (.cells #[.slice AL nL cL, .slice AR nR cR] 38)) fun e w' => ∃ A1 k cap er, e = .returned (.tuple #[.slice A1 k cap, .int .i64 er]) ∧ Below (w.alloc (.cells #[.slice AL nL cL, .slice AR nR cR] 38)).heap.size (w.alloc (.cells #[.slice AL nL cL, .slice AR nR cR] 38)) w' ∧
      (wishCheck L R ≠ 0 → k = 0 ∧ er = wishCheck L R) ∧ (wishCheck L R = 0 → er = 0 ∧ k = nL ∧ Els w' w'.heap.size 1 icell A1 (pairF L R nL))) := by
    by_cases h0 : wishCheck L R = 0
    · obtain ⟨gL, gR⟩ := wish_good h0
      rw [hL] at gL gR
      have hRL : nR = nL := by rw [← hR]; exact gR.len
      subst hRL
      refine Lib.hid ((wish_Pair AL AR nR cL cR L R _ gL gR (wish_nodup h0) hwi1 h0).mono ?_)
      rintro e w' ⟨g, rfl, hb, h1⟩
      exact ⟨_, _, _, 0, rfl, hb, fun h => absurd h0 h, fun _ => ⟨rfl, rfl, h1.els⟩⟩
    · refine Lib.hid ((wish_Pair_bad AL AR nL cL nR cR L R _ hL hR hnL hnR hwi1 h0).mono ?_)
      rintro e w' ⟨rfl, hb⟩
      exact ⟨none, 0, 0, _, rfl, hb, fun _ => ⟨rfl, rfl⟩, fun h => absurd h h0⟩
  have HL := Lib.hid hL
  have HR := Lib.hid hR
  have HWI := Lib.hid hwi
  have HB0 := Lib.hid hb0
  have HK0 := Lib.hid hB0
  have c0 := hB0.cell 0
  have c1 := hB0.cell 1
  clear hwi hb0 hB0 hL hR hwi1
  go_enter Try.func4, Try.ntmps4
  go_wp2_with fail
  refine HW.out.mono ?_
  clear HW
  rintro e v1 ⟨A1, k, cap1, er, rfl, hb1, hbad, hgood⟩
  have hk1 := HK0.out.below hb1 (by rw [size_alloc']; omega)
  have hb1' := HB0.out.trans (hb1.mono (by rw [size_alloc']; omega))
  have hz1 := hb1'.size
  have hlt1 := hk1.lt
  have HB1 := Lib.hid hb1'
  have HK1 := Lib.hid hk1
  have HBAD := Lib.hid hbad
  have HGOOD := Lib.hid hgood
  clear c0 c1 hb1 hb1' hbad hgood
  have c0 := hk1.cell 0
  have c1 := hk1.cell 1
  clear hk1
  have hwi1 := (HWI.out.below HB1.out).more hz1
  have HGC := Lib.hid (ref_WishesCheck AL AR nL cL nR cR L R v1 HL.out HR.out hnL hnR hwi1.l hwi1.gl hwi1.r hwi1.gr)
  clear hwi1
  go_wp2_with fail
  refine HGC.out.mono ?_
  clear HGC
  rintro e v2 ⟨rfl, hb2⟩
  have hk2 := HK1.out.below hb2 hlt1
  have hb2' := HB1.out.trans (hb2.mono hz1)
  have hz2 := hb2'.size
  have hz12 := hb2.size
  have HB2 := Lib.hid hb2'
  have HB12 := Lib.hid hb2
  clear c0 c1 hb2 hb2'
  have c0 := hk2.cell 0
  have c1 := hk2.cell 1
  clear hk2
  by_cases h0 : wishCheck L R = 0
  · obtain ⟨rfl, rfl, hels1⟩ := HGOOD.out h0
    obtain ⟨gL, gR⟩ := wish_good h0
    rw [HL.out] at gL gR
    have hRL : nR = k := by rw [← HR.out]; exact gR.len
    subst hRL
    have hn8 := gL.n8
    have HS := Lib.hid (ref_Pairing AL AR nR cL cR L R v2 gL gR ((HWI.out.below HB2.out).more hz2))
    have hpl : (pairF L R nR).length = nR := by unfold pairF; simp
    have HE1 := Lib.hid hels1
    have HPL := Lib.hid hpl
    rw [h0]
    clear h0 HBAD HGOOD hels1 gL gR hpl
    go_wp2_with fail
    refine HS.out.mono ?_
    clear HS
    rintro e v3 ⟨A3, c3, rfl, hb3, hels3⟩
    have HB3 := Lib.hid (HB2.out.trans (hb3.mono hz2))
    have hb13 : Below v1.heap.size v1 v3 := HB12.out.trans (hb3.mono hz12)
    have HI := Lib.hid (Ints_same A1 A3 nR cap1 c3 (pairF L R nR) v1.heap.size v3.heap.size v3 HPL.out (by unfold maxLen; omega) (HE1.out.below hb13) hels3)
    clear hb3 hels3 hb13 HE1 HPL
    go_wp2_with fail
    refine HI.out.mono ?_
    clear HI
    rintro e v4 ⟨rfl, q, rfl⟩
    go_wp2_with fail
    go_ret
    exact ⟨rfl, below_drewN HB3.out q⟩
  · obtain ⟨rfl, rfl⟩ := HBAD.out h0
    have h1 : (wishCheck L R != 0) = true := by simpa using h0
    have h2 : (wishCheck L R == wishCheck L R) = true := by simp
    clear HBAD HGOOD
    generalize wishCheck L R = x at h0 h1 h2
    clear h0
    go_wp2_with fail
    go_ret
    exact ⟨rfl, HB2.out⟩
theorem WishPairs_row (s t : Sls (Sls Int)) (w : World) (h : s.Good w w.heap.size 1 (fun s : Sls Int => [s.val]) (Sls.Good w w.heap.size 1 (fun n : Int => [.int .i64 n]) OkI)) (ht : t.Good w w.heap.size 1 (fun s : Sls Int => [s.val]) (Sls.Good w w.heap.size 1 (fun n : Int => [.int .i64 n]) OkI)) :
    Calls Try.prog 4 #[.agg #[s.val, t.val]] w fun e w' => e = .returned (.bool true) ∧ Below w.heap.size w w' :=
  law_WishPairs s.A t.A s.l.length s.c t.l.length t.c s.l t.l w rfl rfl h.1 ht.1 ⟨h.2.2.1, h.2.2.2, ht.2.2.1, ht.2.2.2⟩
end Go.Proofs.Ytodbhgbgeiailaa
