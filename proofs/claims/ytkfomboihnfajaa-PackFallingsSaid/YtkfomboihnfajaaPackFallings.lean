/- First fit of the largest first: the program's walk, the statement's walk. Conditions: none. -/
import Derived.Test.YtkfomboihnfajaaPackG
import Derived.Test.YtkfomboihnfajaaFalls
import Derived.Test.YtkfomboihnfajaaEq
import Derived.Test.YtkfomboihnfajaaOpen
namespace Go.Proofs.Ytkfomboihnfajaa
open Go.RowKit

theorem ent_fall1 : Ent Try.prog 17 := ent_of Try.func17 (by kernel_rfl) rfl
theorem falls_get {sz od : List Int} {n : Nat} (hl : od.length = n) (hm : ∀ x, x ∈ od ↔ 0 ≤ x ∧ x < n) : ∀ k, k < n → 0 ≤ od.getD k 0 ∧ od.getD k 0 < n := fun k hk => by
  rw [getD_at od k (by omega) 0]
  exact (hm _).1 (List.getElem_mem _)
set_option maxRecDepth 100000 in
set_option maxHeartbeats 1000000 in
theorem pack_Falling (sz : List Int) (room : Int) (A : Option Addr) (n c : Nat) (w : World) (hl : sz.length = n) (hn : n ≤ maxLen) (hr : Els w w.heap.size 1 zcell A sz) :
    Calls Try.prog 5 #[.slice A n c, .int .i64 room] w fun e w' => ∃ A' k cap, e = .returned (.tuple #[.slice A' k cap, .int .i64 (packCheck sz room)]) ∧ Below w.heap.size w w' ∧
      (packCheck sz room ≠ 0 → k = 0) ∧ (packCheck sz room = 0 → k = n ∧ ∃ R, R.length = n ∧ Fits sz room (List.replicate n (-1)) (fallsTo sz n) R ∧ Els w' w'.heap.size 1 zcell A' R) := by
  have hbox := (Below.refl w.heap.size w).alloc (Nat.le_refl _) (.cells #[.slice A n c] 22)
  have hblk := Blk.new w 22 #[.slice A n c]
  have HW := Lib.hid (pack_wrong sz room A n c (w.alloc (.cells #[.slice A n c] 22)) hl hn ((hr.below hbox).more hbox.size))
  have HL := Lib.hid hl
  have HR := Lib.hid hr
  have HBX := Lib.hid hbox
  have HBK := Lib.hid hblk
  have c0 := hblk.cell 0
  clear hr hbox hblk
  go_enter Try.func5, Try.ntmps5
  go_wp2_with fail
  refine HW.out.mono ?_
  clear HW
  rintro e v1 ⟨rfl, hb1⟩
  have hk1 := HBK.out.below hb1 (by rw [size_alloc']; omega)
  have hB1 := HBX.out.trans (hb1.mono (by rw [size_alloc']; omega))
  have HB1 := Lib.hid hB1
  have HK1 := Lib.hid hk1
  have hz1 := hB1.size
  have hlt1 := hk1.lt
  clear hb1 c0
  have c0 := hk1.cell 0
  clear hk1 hB1
  by_cases h0 : packCheck sz room = 0
  · obtain ⟨h8, hr1, hr2, hbs⟩ := pack_good h0
    have HBS := Lib.hid hbs
    rw [hl] at h8
    have HP := Lib.hid (pack_places A n c v1 h8)
    have HZ := Lib.hid h0
    rw [h0]
    clear hl hbs h0
    go_wp2_with fail
    refine HP.out.mono ?_
    clear HP
    rintro e v2 ⟨A1, cap, rfl, hb2, hown⟩
    have hB2 := HB1.out.trans (hb2.mono hz1)
    have hk2 := HK1.out.below hb2 hlt1
    have hz2 := hb2.size
    have hcm : Cmps 17 #[.pointer (some ⟨w.heap.size, 0, none⟩)] sz n v1.heap.size v2 := fun a b wx ha0 ha hb0 hb hbw => by
      refine pack_cmp sz a b A n c w.heap.size w.heap.size wx HL.out ha0 ha hb0 hb (hk2.below hbw hlt1) (HR.out.below (hB2.trans (hbw.mono hz1)))
    have HSO := Lib.hid (sort_stable 17 ent_fall1 #[.pointer (some ⟨w.heap.size, 0, none⟩)] sz A1 n cap v1.heap.size v2 HL.out h8 hz2 hcm (by rw [rest_places]; exact hown))
    have HB2 := Lib.hid hB2
    have HK2 := Lib.hid hk2
    clear hb2 hown hcm c0
    have c0 := hk2.cell 0
    clear hk2 hB2
    go_wp2_with fail
    refine HSO.out.mono ?_
    clear HSO
    rintro e v3 ⟨⟨v, rfl⟩, hb3, u, hst, hown3⟩
    obtain ⟨rfl, hnd, hmem⟩ := sort_end HL.out hst
    have hul := fallsTo_length sz n
    have hB3 := HB2.out.trans (hb3.mono hz1)
    have hk3 := HK2.out.below hb3 hlt1
    have hz3 := hB3.size
    have HF := Lib.hid (pack_first sz (fallsTo sz n) room A A1 n n c cap v3 HL.out hul h8 h8 hr2 HBS.out (falls_get (sz := sz) hul hmem) hnd ((HR.out.below hB3).more hz3) hown3.els)
    have HMEM := Lib.hid hmem
    have HB3 := Lib.hid hB3
    clear hb3 hown3 hst hnd hmem hul c0
    have c0 := hk3.cell 0
    clear hk3 hB3
    go_wp2_with fail
    refine HF.out.mono ?_
    clear HF
    rintro e v4 ⟨A2, cap2, rfl, hb4, R, mb, hown4, hpl, hfits⟩
    have hff := filled_fits hfits hpl (fun i hi => (HMEM.out i).2 ⟨by omega, by omega⟩)
    rw [hff] at hown4
    have HB4 := Lib.hid (HB3.out.trans (hb4.mono hz3))
    have HO4 := Lib.hid hown4
    have HFT := Lib.hid hfits
    have HPL := Lib.hid hpl
    clear hb4 hown4 hpl hfits hff
    go_wp2_with fail
    refine bodyPost_ret (v := .tuple #[.slice A2 n cap2, .int .i64 0]) (by simp [results, Try.results5, go_sem]) rfl ?_
    exact ⟨A2, n, cap2, by rw [HZ.out], HB4.out, fun h => absurd HZ.out h, fun _ => ⟨rfl, R, HPL.out.len, HFT.out, HO4.out.els⟩⟩
  · have h1 : (packCheck sz room != 0) = true := by simpa using h0
    have H0 := Lib.hid h0
    obtain ⟨x, hx⟩ : ∃ x, x = packCheck sz room := ⟨_, rfl⟩
    rw [← hx] at h1 ⊢
    have HX := Lib.hid hx
    clear hl h0 hx
    go_wp2_with fail
    refine bodyPost_ret (v := .tuple #[.slice none 0 0, .int .i64 x]) (by simp [results, Try.results5, go_sem]) rfl ?_
    exact ⟨none, 0, 0, by rw [HX.out], HB1.out, fun _ => rfl, fun h => absurd h H0.out⟩

set_option maxRecDepth 100000 in
theorem PackFallings_row (C : Sls Int) (room : Int) (W : World) (hC : C.Good W W.heap.size 1 zcell OkI) (_hroom : OkI room) :
    Calls Try.prog 3 #[C.val, .int .i64 room] W fun e w' => e = .returned (.bool true) ∧ Below W.heap.size W w' := by
  obtain ⟨A, c, sz⟩ := C
  obtain ⟨hm, hc, hr, hg⟩ := hC
  obtain ⟨n, hn⟩ : ∃ n, sz.length = n := ⟨_, rfl⟩
  show Calls Try.prog 3 #[.slice A sz.length c, .int .i64 room] W _
  simp only at hm
  rw [hn] at hm ⊢
  have HM := Lib.hid (pack_Falling sz room A n c W hn hm hr)
  have HR := Lib.hid hr
  have hm' : n ≤ 9223372036854775807 := by unfold maxLen at hm; exact hm
  have HN := Lib.hid hn
  clear hc hg hr hn
  go_enter Try.func3, Try.ntmps3
  go_wp2_with fail
  refine HM.out.mono ?_
  clear HM
  rintro e v1 ⟨A1, k, cap, rfl, hb1, hbad, hgood⟩
  have HB1 := Lib.hid hb1
  have hsz := hb1.size
  have HC := Lib.hid (ref_PackCheck sz room A n c v1 HN.out hm ((HR.out.below hb1).more hsz))
  have HBAD := Lib.hid hbad
  have HGOOD := Lib.hid hgood
  clear hb1 hbad hgood
  go_wp2_with fail
  refine HC.out.mono ?_
  clear HC
  rintro e w' ⟨rfl, rfl⟩
  by_cases h0 : packCheck sz room = 0
  · obtain ⟨h8, hr1, hr2, hbs⟩ := pack_good h0
    obtain ⟨rfl, R, hRl, hfits, hels⟩ := HGOOD.out h0
    rw [HN.out] at h8
    have HP := Lib.hid (ref_Falls sz A k c v1 HN.out h8 ((HR.out.below HB1.out).more hsz))
    have hul := fallsTo_length sz k
    have hmem : ∀ i, i < k → 0 ≤ (fallsTo sz k).getD i 0 ∧ (fallsTo sz k).getD i 0 < k := falls_in HN.out
    have HBS := Lib.hid hbs
    have HFT := Lib.hid hfits
    have HE := Lib.hid hels
    have HRL := Lib.hid hRl
    rw [h0]
    clear hbs h0 hfits hels hRl HBAD HGOOD
    go_wp2_with fail
    refine HP.out.mono ?_
    clear HP
    rintro e v2 ⟨A2, cap2, rfl, hb2, hown⟩
    have hb2' := HB1.out.trans (hb2.mono hsz)
    have hz2 := hb2'.size
    have HF := Lib.hid (ref_FirstFit sz (fallsTo sz k) room A A2 k k c cap2 v2 HN.out hul h8 h8 hr2 HBS.out hmem ((HR.out.below hb2').more hz2) hown.els)
    have HE2 := Lib.hid (HE.out.below hb2)
    have hz12 := hb2.size
    have HB2 := Lib.hid hb2'
    clear hb2 hown hb2' HE hul hmem
    go_wp2_with fail
    refine HF.out.mono ?_
    clear HF
    rintro e v3 ⟨A3, cap3, rfl, hb3, R', hown3, hRl', hfits'⟩
    obtain rfl : R = R' := HFT.out.unique hfits'
    have HI := Lib.hid (Ints_same A1 A3 k cap cap3 R v1.heap.size v3.heap.size v3 hRl' hm (HE2.out.below (hb3.mono hz12)) hown3.els)
    have HB3 := Lib.hid (HB2.out.trans (hb3.mono hz2))
    clear hb3 hown3 hRl' hfits'
    go_wp2_with fail
    refine HI.out.mono ?_
    clear HI
    rintro e v4 ⟨rfl, q, rfl⟩
    go_wp2_with fail
    go_ret
    exact ⟨rfl, below_drewN HB3.out q⟩
  · have hk := HBAD.out h0
    subst hk
    have h1 : (packCheck sz room != 0) = true := by simpa using h0
    have h2 : (packCheck sz room == packCheck sz room) = true := by simp
    clear HBAD HGOOD
    generalize packCheck sz room = x at h1 h2
    clear h0
    go_wp2_with fail
    go_ret
    exact ⟨rfl, HB1.out⟩
end Go.Proofs.Ytkfomboihnfajaa
