/- The statement WishAlls: its law's walk. Conditions: the lists read as lists. -/
import Derived.Test.YtodbhgbgeiailaaAllsE
import Derived.Test.YtodbhgbgeiailaaAllsL
import Derived.Test.YtodbhgbgeiailaaWishC
namespace Go.Proofs.Ytodbhgbgeiailaa
open Go.RowKit

theorem alls_len {n : Nat} {L R : List (Sls Int)} (hL : GoodL n L) (hR : GoodL n R) {x : List Int} (h : x ∈ refA L R n n []) : x.length = n := by
  rw [← prg_ref hL hR n [] (by simp)] at h
  have := (prgA_pre n [] x h).2.1
  simpa using this
set_option maxRecDepth 100000 in
set_option maxHeartbeats 1000000 in
theorem law_WishAlls (AL AR : Option Addr) (nL cL nR cR : Nat) (L R : List (Sls Int)) (w : World) (hL : L.length = nL) (hR : R.length = nR) (hnL : nL ≤ maxLen) (hnR : nR ≤ maxLen) (hwi : WishIn w w.heap.size AL AR L R) :
    Calls Try.prog 12 #[.agg #[.slice AL nL cL, .slice AR nR cR]] w fun e w' => e = .returned (.bool true) ∧ Below w.heap.size w w' := by
  have hb0 := (Below.refl w.heap.size w).alloc (Nat.le_refl _) (.cells #[.slice AL nL cL, .slice AR nR cR] 38)
  have hB0 := Blk.new w 38 #[.slice AL nL cL, .slice AR nR cR]
  have hwi1 : WishIn (w.alloc (.cells #[.slice AL nL cL, .slice AR nR cR] 38)) (w.alloc (.cells #[.slice AL nL cL, .slice AR nR cR] 38)).heap.size AL AR L R := (hwi.below hb0).more (by rw [size_alloc']; omega)
  have HW : Hid (Calls Try.prog 41 #[.agg #[.slice AL nL cL, .slice AR nR cR]] (w.alloc (.cells #[.slice AL nL cL, .slice AR nR cR] 38)) fun e w' => ∃ A1 k cap er, e = .returned (.tuple #[.slice A1 k cap, .int .i64 er]) ∧ Below (w.alloc (.cells #[.slice AL nL cL, .slice AR nR cR] 38)).heap.size (w.alloc (.cells #[.slice AL nL cL, .slice AR nR cR] 38)) w' ∧
      (wishCheck L R ≠ 0 → k = 0 ∧ er = wishCheck L R) ∧ (wishCheck L R = 0 → er = 0 ∧ ∃ sls : List (Sls Int), sls.length = k ∧ Els w' w'.heap.size 1 rcell A1 sls ∧ (∀ s ∈ sls, RowI w' s) ∧ sls.map (fun s => s.l) = refA L R nL nL [])) := by
    by_cases h0 : wishCheck L R = 0
    · obtain ⟨gL, gR⟩ := wish_good h0
      rw [hL] at gL gR
      have hRL : nR = nL := by rw [← hR]; exact gR.len
      subst hRL
      refine Lib.hid ((wish_All AL AR nR cL cR L R _ gL gR hwi1 h0).mono ?_)
      rintro e w' ⟨A', cap, sls, rfl, hb, h1, h2, h3⟩
      exact ⟨A', _, cap, 0, rfl, hb, fun h => absurd h0 h, fun _ => ⟨rfl, sls, rfl, h1, h2, h3⟩⟩
    · refine Lib.hid ((wish_All_bad AL AR nL cL nR cR L R _ hL hR hnL hnR hwi1 h0).mono ?_)
      rintro e w' ⟨rfl, hb⟩
      exact ⟨none, 0, 0, _, rfl, hb, fun _ => ⟨rfl, rfl⟩, fun h => absurd h h0⟩
  have HL := Lib.hid hL
  have HR := Lib.hid hR
  have HWI := Lib.hid hwi
  have HB0 := Lib.hid hb0
  have HK0 := Lib.hid hB0
  have c0 := hB0.cell 0
  have c1 := hB0.cell 1
  clear hwi hb0 hB0 hL hR hwi1
  go_enter Try.func12, Try.ntmps12
  go_wp2_with fail
  refine HW.out.mono ?_
  clear HW
  rintro e v1 ⟨A1, k, cap1, er, rfl, hb1, hbad, hgood⟩
  have hk1 := HK0.out.below hb1 (by rw [size_alloc']; omega)
  have hb1' := HB0.out.trans (hb1.mono (by rw [size_alloc']; omega))
  have hz1 := hb1'.size
  have hlt1 := hk1.lt
  have HB1 := Lib.hid hb1'
  have HK1 := Lib.hid hk1
  have HBAD := Lib.hid hbad
  have HGOOD := Lib.hid hgood
  clear c0 c1 hb1 hb1' hbad hgood
  have c0 := hk1.cell 0
  have c1 := hk1.cell 1
  clear hk1
  have hwi1 := (HWI.out.below HB1.out).more hz1
  have HGC := Lib.hid (ref_WishesCheck AL AR nL cL nR cR L R v1 HL.out HR.out hnL hnR hwi1.l hwi1.gl hwi1.r hwi1.gr)
  clear hwi1
  go_wp2_with fail
  refine HGC.out.mono ?_
  clear HGC
  rintro e v2 ⟨rfl, hb2⟩
  have hk2 := HK1.out.below hb2 hlt1
  have hb2' := HB1.out.trans (hb2.mono hz1)
  have hz2 := hb2'.size
  have hz12 := hb2.size
  have HB2 := Lib.hid hb2'
  have HB12 := Lib.hid hb2
  clear c0 c1 hb2 hb2'
  have c0 := hk2.cell 0
  have c1 := hk2.cell 1
  clear hk2
  by_cases h0 : wishCheck L R = 0
  · obtain ⟨rfl, sls, hsl, hels1, hrows1, hmap1⟩ := HGOOD.out h0
    obtain ⟨gL, gR⟩ := wish_good h0
    rw [HL.out] at gL gR
    have hRL : nR = nL := by rw [← HR.out]; exact gR.len
    subst hRL
    have hn8 := gL.n8
    have HS := Lib.hid (ref_AllPairings AL AR nR cL cR L R v2 gL gR ((HWI.out.below HB2.out).more hz2))
    have hk9 : k ≤ 43046721 := by
      have h1 := congrArg List.length hmap1
      rw [List.length_map, hsl] at h1
      rw [h1]
      exact Nat.le_trans (refA_len L R nR nR []) (pow_le9 hn8 hn8)
    have hlen1 : ∀ s ∈ sls, s.l.length ≤ 1000 := fun s hs => by
      have hm : s.l ∈ refA L R nR nR [] := by rw [← hmap1]; exact List.mem_map.2 ⟨s, hs, rfl⟩
      rw [alls_len gL gR hm]
      omega
    have HE1 := Lib.hid hels1
    have HR1 := Lib.hid hrows1
    have HM1 := Lib.hid hmap1
    have HSL := Lib.hid hsl
    have HLEN := Lib.hid hlen1
    rw [h0]
    clear h0 HBAD HGOOD hels1 hrows1 hmap1 hsl hlen1 gL gR
    go_wp2_with fail
    refine HS.out.mono ?_
    clear HS
    rintro e v3 ⟨A3, c3, sls3, rfl, hb3, hels3, hrows3, hmap3⟩
    have HB3 := Lib.hid (HB2.out.trans (hb3.mono hz2))
    have hb13 : Below v1.heap.size v1 v3 := HB12.out.trans (hb3.mono hz12)
    have hk3 : sls3.length = k := by
      have h1 := congrArg List.length hmap3
      have h2 := congrArg List.length HM1.out
      rw [List.length_map] at h1 h2
      rw [h1, ← h2, HSL.out]
    have HI := Lib.hid (Lists_rows k A1 A3 cap1 c3 v1.heap.size v3.heap.size sls sls3 v3 HSL.out hk3 hk9 (HE1.out.below hb13) hels3 (fun t ht => (HR1.out t ht).below hb13 (Nat.le_refl _)) hrows3 (by rw [HM1.out, hmap3]) HLEN.out)
    rw [hk3]
    clear hb3 hels3 hrows3 hmap3 hb13 hk3 HE1 HR1 HM1 HSL HLEN
    go_wp2_with fail
    refine HI.out.mono ?_
    clear HI
    rintro e v4 ⟨rfl, q, rfl⟩
    go_wp2_with fail
    go_ret
    exact ⟨rfl, below_drewN HB3.out q⟩
  · obtain ⟨rfl, rfl⟩ := HBAD.out h0
    have h1 : (wishCheck L R != 0) = true := by simpa using h0
    have h2 : (wishCheck L R == wishCheck L R) = true := by simp
    clear HBAD HGOOD
    generalize wishCheck L R = x at h0 h1 h2
    clear h0
    go_wp2_with fail
    go_ret
    exact ⟨rfl, HB2.out⟩
theorem WishAlls_row (s t : Sls (Sls Int)) (w : World) (h : s.Good w w.heap.size 1 (fun s : Sls Int => [s.val]) (Sls.Good w w.heap.size 1 (fun n : Int => [.int .i64 n]) OkI)) (ht : t.Good w w.heap.size 1 (fun s : Sls Int => [s.val]) (Sls.Good w w.heap.size 1 (fun n : Int => [.int .i64 n]) OkI)) :
    Calls Try.prog 12 #[.agg #[s.val, t.val]] w fun e w' => e = .returned (.bool true) ∧ Below w.heap.size w w' :=
  law_WishAlls s.A t.A s.l.length s.c t.l.length t.c s.l t.l w rfl rfl h.1 ht.1 ⟨h.2.2.1, h.2.2.2, ht.2.2.1, ht.2.2.2⟩
end Go.Proofs.Ytodbhgbgeiailaa
