/- Work for many hands, the longest first: the program's walk, the statement's walk. Conditions: none. -/
import Derived.Test.YtkfomboihnfajaaSplitB
import Derived.Test.YtkfomboihnfajaaFalls
import Derived.Test.YtkfomboihnfajaaEq
import Derived.Test.YtkfomboihnfajaaOpen
namespace Go.Proofs.Ytkfomboihnfajaa
open Go.RowKit

theorem ent_long1 : Ent Try.prog 24 := ent_of Try.func24 (by kernel_rfl) rfl
def LongIs (sz : List Int) (hands : Int) (n : Nat) (w w' : World) (e : Ending) : Prop :=
  ∃ A' k cap x, e = .returned (.tuple #[.slice A' k cap, .int .i64 x, .int .i64 (splitCheck sz hands)]) ∧ Below w.heap.size w w' ∧
    (splitCheck sz hands ≠ 0 → k = 0 ∧ x = 0) ∧ (∀ H : Nat, hands = H → splitCheck sz hands = 0 → k = n ∧ x = mxF (fun h : Nat => inB sz (givR sz H (fallsTo sz n)) h) H ∧ Els w' w'.heap.size 1 icell A' (givR sz H (fallsTo sz n)))
set_option maxRecDepth 100000 in
set_option maxHeartbeats 1000000 in
theorem split_Longest (sz : List Int) (hands : Int) (A : Option Addr) (n c : Nat) (w : World) (hl : sz.length = n) (hn : n ≤ maxLen) (hr : Els w w.heap.size 1 icell A sz) :
    Calls Try.prog 10 #[.slice A n c, .int .i64 hands] w fun e w' => LongIs sz hands n w w' e := by
  have hbox := (Below.refl w.heap.size w).alloc (Nat.le_refl _) (.cells #[.slice A n c] 22)
  have hblk := Blk.new w 22 #[.slice A n c]
  have HW := Lib.hid (split_wrong sz hands A n c (w.alloc (.cells #[.slice A n c] 22)) hl hn ((hr.below hbox).more hbox.size))
  have HL := Lib.hid hl
  have HR := Lib.hid hr
  have HBX := Lib.hid hbox
  have HBK := Lib.hid hblk
  have c0 := hblk.cell 0
  clear hr hbox hblk
  go_enter Try.func10, Try.ntmps10
  go_wp2_with fail
  refine HW.out.mono ?_
  clear HW
  rintro e v1 ⟨rfl, hb1⟩
  have hk1 := HBK.out.below hb1 (by rw [size_alloc']; omega)
  have hB1 := HBX.out.trans (hb1.mono (by rw [size_alloc']; omega))
  have HB1 := Lib.hid hB1
  have HK1 := Lib.hid hk1
  have hz1 := hB1.size
  have hlt1 := hk1.lt
  clear hb1 c0
  have c0 := hk1.cell 0
  clear hk1 hB1
  by_cases h0 : splitCheck sz hands = 0
  · obtain ⟨h8, ⟨H, rfl, hH, hH4⟩, hbs⟩ := split_good h0
    have HBS := Lib.hid hbs
    rw [hl] at h8
    have HP := Lib.hid (split_places A n c v1 h8)
    have HZ := Lib.hid h0
    rw [h0]
    clear hl hbs h0
    go_wp2_with fail
    refine HP.out.mono ?_
    clear HP
    rintro e v2 ⟨A1, cap, rfl, hb2, hown⟩
    have hB2 := HB1.out.trans (hb2.mono hz1)
    have hk2 := HK1.out.below hb2 hlt1
    have hz2 := hb2.size
    have hcm : Cmps 24 #[.pointer (some ⟨w.heap.size, 0, none⟩)] sz n v1.heap.size v2 := fun a b wx ha0 ha hb0 hb hbw => by
      refine split_cmp sz a b A n c w.heap.size w.heap.size wx HL.out ha0 ha hb0 hb (hk2.below hbw hlt1) (HR.out.below (hB2.trans (hbw.mono hz1)))
    have HSO := Lib.hid (sort_stable 24 ent_long1 #[.pointer (some ⟨w.heap.size, 0, none⟩)] sz A1 n cap v1.heap.size v2 HL.out h8 hz2 hcm (by rw [rest_places]; exact hown))
    have HB2 := Lib.hid hB2
    have HK2 := Lib.hid hk2
    clear hb2 hown hcm c0
    have c0 := hk2.cell 0
    clear hk2 hB2
    go_wp2_with fail
    refine HSO.out.mono ?_
    clear HSO
    rintro e v3 ⟨⟨v, rfl⟩, hb3, u, hst, hown3⟩
    obtain ⟨rfl, hnd, hmem⟩ := sort_end HL.out hst
    have hul := fallsTo_length sz n
    have hB3 := HB2.out.trans (hb3.mono hz1)
    have hk3 := HK2.out.below hb3 hlt1
    have hz3 := hB3.size
    have HG := Lib.hid (split_give sz (fallsTo sz n) H A A1 n n c cap v3 HL.out hul h8 h8 hH hH4 HBS.out (fun x hx => (hmem x).1 hx) hnd ((HR.out.below hB3).more hz3) hown3.els)
    have HFIL := Lib.hid (givR_filled (H := H) HL.out (by omega) hnd (fun x hx => (hmem x).1 hx) (fun i hi => (hmem i).2 ⟨by omega, by omega⟩))
    have HB3 := Lib.hid hB3
    clear hb3 hown3 hst hnd hmem hul c0
    have c0 := hk3.cell 0
    clear hk3 hB3
    go_wp2_with fail
    refine HG.out.mono ?_
    clear HG
    rintro e v4 ⟨A2, cap2, rfl, hb4, hels⟩
    rw [HFIL.out] at hels
    obtain ⟨x, hx⟩ : ∃ x, x = mxF (fun h : Nat => inB sz (givR sz H (fallsTo sz n)) h) H := ⟨_, rfl⟩
    rw [← hx]
    have HX := Lib.hid hx
    have HE := Lib.hid hels
    have HB4 := Lib.hid (HB3.out.trans (hb4.mono hz3))
    clear hb4 hels hx
    go_wp2_with fail
    refine bodyPost_ret (v := .tuple #[.slice A2 n cap2, .int .i64 x, .int .i64 0]) (by simp [results, Try.results10, go_sem]) rfl ?_
    refine ⟨A2, n, cap2, x, by rw [HZ.out], HB4.out, fun h => absurd HZ.out h, fun H' hh _ => ?_⟩
    obtain rfl : H = H' := by omega
    exact ⟨rfl, HX.out, HE.out⟩
  · have h1 : (splitCheck sz hands != 0) = true := by simpa using h0
    have H0 := Lib.hid h0
    obtain ⟨x, hx⟩ : ∃ x, x = splitCheck sz hands := ⟨_, rfl⟩
    rw [← hx] at h1 ⊢
    have HX := Lib.hid hx
    clear hl h0 hx
    go_wp2_with fail
    refine bodyPost_ret (v := .tuple #[.slice none 0 0, .int .i64 0, .int .i64 x]) (by simp [results, Try.results10, go_sem]) rfl ?_
    exact ⟨none, 0, 0, 0, by rw [HX.out], HB1.out, fun _ => ⟨rfl, rfl⟩, fun _ _ h => absurd h H0.out⟩

set_option maxRecDepth 100000 in
set_option maxHeartbeats 1000000 in
theorem SplitLongest_row (C : Sls Int) (hands : Int) (W : World) (hC : C.Good W W.heap.size 1 icell OkI) (_h : OkI hands) :
    Calls Try.prog 4 #[C.val, .int .i64 hands] W fun e w' => e = .returned (.bool true) ∧ Below W.heap.size W w' := by
  obtain ⟨A, c, sz⟩ := C
  obtain ⟨hm, hc, hr, hg⟩ := hC
  obtain ⟨n, hn⟩ : ∃ n, sz.length = n := ⟨_, rfl⟩
  show Calls Try.prog 4 #[.slice A sz.length c, .int .i64 hands] W _
  simp only at hm
  rw [hn] at hm ⊢
  have HM := Lib.hid (split_Longest sz hands A n c W hn hm hr)
  have HR := Lib.hid hr
  have HMM := Lib.hid hm
  have HN := Lib.hid hn
  clear hc hg hr hn hm
  go_enter Try.func4, Try.ntmps4
  go_wp2_with fail
  refine HM.out.mono ?_
  clear HM
  rintro e v1 ⟨A1, k, cap, x, rfl, hb1, hbad, hgood⟩
  have HB1 := Lib.hid hb1
  have hsz := hb1.size
  have HC := Lib.hid (ref_SplitCheck sz hands A n c v1 HN.out HMM.out ((HR.out.below hb1).more hsz))
  have HBAD := Lib.hid hbad
  have HGOOD := Lib.hid hgood
  clear hb1 hbad hgood
  go_wp2_with fail
  refine HC.out.mono ?_
  clear HC
  rintro e w' ⟨rfl, rfl⟩
  by_cases h0 : splitCheck sz hands = 0
  · obtain ⟨h8, ⟨H, rfl, hH, hH4⟩, hbs⟩ := split_good h0
    obtain ⟨rfl, rfl, hels⟩ := HGOOD.out H rfl h0
    rw [HN.out] at h8
    have HP := Lib.hid (ref_Falls sz A k c v1 HN.out h8 ((HR.out.below HB1.out).more hsz))
    have hul := fallsTo_length sz k
    have hall := falls_all HN.out
    have HBS := Lib.hid hbs
    have HE := Lib.hid hels
    obtain ⟨x, hx⟩ : ∃ x, x = mxF (fun h : Nat => inB sz (givR sz H (fallsTo sz k)) h) H := ⟨_, rfl⟩
    rw [h0, ← hx]
    have HX := Lib.hid hx
    clear hbs h0 hels HBAD HGOOD hx
    go_wp2_with fail
    refine HP.out.mono ?_
    clear HP
    rintro e v2 ⟨A2, cap2, rfl, hb2, hown⟩
    have hb2' := HB1.out.trans (hb2.mono hsz)
    have hz2 := hb2'.size
    have HF := Lib.hid (ref_Given sz (fallsTo sz k) H A A2 k k c cap2 v2 HN.out hul h8 h8 hH hH4 HBS.out (fun x hx => (hall.2 x).1 hx) hall.1 ((HR.out.below hb2').more hz2) hown.els)
    have HE2 := Lib.hid (HE.out.below hb2)
    have hz12 := hb2.size
    have HB2 := Lib.hid hb2'
    have HALL := Lib.hid hall
    clear hb2 hown hb2' HE hul hall
    go_wp2_with fail
    refine HF.out.mono ?_
    clear HF
    rintro e v3 ⟨A3, cap3, rfl, hb3, hels3⟩
    have hRl : (givR sz H (fallsTo sz k)).length = k := by
      have := (givR_inv (H := H) HN.out (by omega) HALL.out.1 (fun x hx => (HALL.out.2 x).1 hx) (fallsTo sz k).length (Nat.le_refl _)).1.len
      rwa [List.take_length] at this
    have HI := Lib.hid (Ints_same A1 A3 k cap cap3 _ v1.heap.size v3.heap.size v3 hRl HMM.out (HE2.out.below (hb3.mono hz12)) hels3)
    have HB3 := Lib.hid (HB2.out.trans (hb3.mono hz2))
    have HEND := Lib.hid (fun q => ref_End sz (givR sz H (fallsTo sz k)) H A A3 k c cap3 W.heap.size v3.heap.size (v3.drewN q) HN.out hRl h8 hH4 HBS.out ((HR.out.below HB3.out).drewN q) (hels3.drewN q))
    rw [← HX.out] at HEND
    clear hb3 hels3 hRl
    go_wp2_with fail
    refine HI.out.mono ?_
    clear HI
    rintro e v4 ⟨rfl, q, rfl⟩
    go_wp2_with fail
    refine (HEND.out q).mono ?_
    clear HEND
    rintro e w' ⟨rfl, rfl⟩
    have hxx : (x == x) = true := by simp
    go_wp2_with fail
    go_ret
    exact ⟨rfl, below_drewN HB3.out q⟩
  · obtain ⟨rfl, rfl⟩ := HBAD.out h0
    have h1 : (splitCheck sz hands != 0) = true := by simpa using h0
    have h2 : (splitCheck sz hands == splitCheck sz hands) = true := by simp
    clear HBAD HGOOD
    generalize splitCheck sz hands = x at h1 h2
    clear h0
    go_wp2_with fail
    go_ret
    exact ⟨rfl, HB1.out⟩
end Go.Proofs.Ytkfomboihnfajaa
