/- Work for many hands, as it comes: the program's walk, the statement's walk. Conditions: none. -/
import Derived.Test.YtcogmedpeeigcaaSplitB
import Derived.Test.YtcogmedpeeigcaaEq
import Derived.Test.YtcogmedpeeigcaaOpen
namespace Go.Proofs.Ytcogmedpeeigcaa
open Go.RowKit

theorem placesL_in {n : Nat} {x : Int} (h : x ∈ placesL n) : 0 ≤ x ∧ x < n := by
  unfold placesL at h
  obtain ⟨i, hi, rfl⟩ := List.mem_map.1 h
  have := List.mem_range.1 hi
  omega
def SplitIs (sz : List Int) (hands : Int) (n : Nat) (w w' : World) (e : Ending) : Prop :=
  ∃ A' k cap x, e = .returned (.tuple #[.slice A' k cap, .int .i64 x, .int .i64 (splitCheck sz hands)]) ∧ Below w.heap.size w w' ∧
    (splitCheck sz hands ≠ 0 → k = 0 ∧ x = 0) ∧ (∀ H : Nat, hands = H → splitCheck sz hands = 0 → k = n ∧ x = mxF (fun h : Nat => inB sz (givR sz H (placesL n)) h) H ∧ Els w' w'.heap.size 1 icell A' (givR sz H (placesL n)))
set_option maxRecDepth 100000 in
set_option maxHeartbeats 1000000 in
theorem split_List (sz : List Int) (hands : Int) (A : Option Addr) (n c : Nat) (w : World) (hl : sz.length = n) (hn : n ≤ maxLen) (hr : Els w w.heap.size 1 icell A sz) :
    Calls Try.prog 39 #[.slice A n c, .int .i64 hands] w fun e w' => SplitIs sz hands n w w' e := by
  have HW := Lib.hid (split_wrong sz hands A n c w hl hn hr)
  have HL := Lib.hid hl
  have HR := Lib.hid hr
  clear hr
  go_enter Try.func39, Try.ntmps39
  go_wp2_with fail
  refine HW.out.mono ?_
  clear HW
  rintro e v1 ⟨rfl, hb1⟩
  have HB1 := Lib.hid hb1
  have hz1 := hb1.size
  clear hb1
  by_cases h0 : splitCheck sz hands = 0
  · obtain ⟨h8, ⟨H, rfl, hH, hH4⟩, hbs⟩ := split_good h0
    have HBS := Lib.hid hbs
    rw [hl] at h8
    have HP := Lib.hid (split_places A n c v1 h8)
    have HZ := Lib.hid h0
    rw [h0]
    clear hl hbs h0
    go_wp2_with fail
    refine HP.out.mono ?_
    clear HP
    rintro e v2 ⟨A1, cap, rfl, hb2, hown⟩
    have hb2' := HB1.out.trans (hb2.mono hz1)
    have hz2 := hb2'.size
    have HG := Lib.hid (split_give sz (placesL n) H A A1 n n c cap v2 HL.out (placesL_length n) h8 h8 hH hH4 HBS.out (fun x hx => placesL_in hx) (placesL_nodup n) ((HR.out.below hb2').more hz2) hown.els)
    have HB2 := Lib.hid hb2'
    have HFIL := Lib.hid (givR_filled (H := H) HL.out (by omega) (placesL_nodup n) (fun x hx => placesL_in hx) (fun i hi => placesL_mem hi))
    clear hb2 hown hb2'
    go_wp2_with fail
    refine HG.out.mono ?_
    clear HG
    rintro e v3 ⟨A2, cap2, rfl, hb3, hels⟩
    rw [HFIL.out] at hels
    obtain ⟨x, hx⟩ : ∃ x, x = mxF (fun h : Nat => inB sz (givR sz H (placesL n)) h) H := ⟨_, rfl⟩
    rw [← hx]
    have HX := Lib.hid hx
    have HE := Lib.hid hels
    have HB3 := Lib.hid (HB2.out.trans (hb3.mono hz2))
    clear hb3 hels hx
    go_wp2_with fail
    refine bodyPost_ret (v := .tuple #[.slice A2 n cap2, .int .i64 x, .int .i64 0]) (by simp [results, Try.results39, go_sem]) rfl ?_
    refine ⟨A2, n, cap2, x, by rw [HZ.out], HB3.out, fun h => absurd HZ.out h, fun H' hh _ => ?_⟩
    obtain rfl : H = H' := by omega
    exact ⟨rfl, HX.out, HE.out⟩
  · have h1 : (splitCheck sz hands != 0) = true := by simpa using h0
    have H0 := Lib.hid h0
    obtain ⟨x, hx⟩ : ∃ x, x = splitCheck sz hands := ⟨_, rfl⟩
    rw [← hx] at h1 ⊢
    have HX := Lib.hid hx
    clear hl h0 hx
    go_wp2_with fail
    refine bodyPost_ret (v := .tuple #[.slice none 0 0, .int .i64 0, .int .i64 x]) (by simp [results, Try.results39, go_sem]) rfl ?_
    exact ⟨none, 0, 0, 0, by rw [HX.out], HB1.out, fun _ => ⟨rfl, rfl⟩, fun _ _ h => absurd h H0.out⟩

set_option maxRecDepth 100000 in
set_option maxHeartbeats 1000000 in
theorem SplitLists_row (C : Sls Int) (hands : Int) (W : World) (hC : C.Good W W.heap.size 1 icell OkI) (_h : OkI hands) :
    Calls Try.prog 10 #[C.val, .int .i64 hands] W fun e w' => e = .returned (.bool true) ∧ Below W.heap.size W w' := by
  obtain ⟨A, c, sz⟩ := C
  obtain ⟨hm, hc, hr, hg⟩ := hC
  obtain ⟨n, hn⟩ : ∃ n, sz.length = n := ⟨_, rfl⟩
  show Calls Try.prog 10 #[.slice A sz.length c, .int .i64 hands] W _
  simp only at hm
  rw [hn] at hm ⊢
  have HM := Lib.hid (split_List sz hands A n c W hn hm hr)
  have HR := Lib.hid hr
  have HMM := Lib.hid hm
  have HN := Lib.hid hn
  clear hc hg hr hn hm
  go_enter Try.func10, Try.ntmps10
  go_wp2_with fail
  refine HM.out.mono ?_
  clear HM
  rintro e v1 ⟨A1, k, cap, x, rfl, hb1, hbad, hgood⟩
  have HB1 := Lib.hid hb1
  have hsz := hb1.size
  have HC := Lib.hid (ref_SplitCheck sz hands A n c v1 HN.out HMM.out ((HR.out.below hb1).more hsz))
  have HBAD := Lib.hid hbad
  have HGOOD := Lib.hid hgood
  clear hb1 hbad hgood
  go_wp2_with fail
  refine HC.out.mono ?_
  clear HC
  rintro e w' ⟨rfl, rfl⟩
  by_cases h0 : splitCheck sz hands = 0
  · obtain ⟨h8, ⟨H, rfl, hH, hH4⟩, hbs⟩ := split_good h0
    obtain ⟨rfl, rfl, hels⟩ := HGOOD.out H rfl h0
    rw [HN.out] at h8
    have HP := Lib.hid (ref_PlacesI k v1 h8)
    have HBS := Lib.hid hbs
    have HE := Lib.hid hels
    obtain ⟨x, hx⟩ : ∃ x, x = mxF (fun h : Nat => inB sz (givR sz H (placesL k)) h) H := ⟨_, rfl⟩
    rw [h0, ← hx]
    have HX := Lib.hid hx
    clear hbs h0 hels HBAD HGOOD hx
    go_wp2_with fail
    refine HP.out.mono ?_
    clear HP
    rintro e v2 ⟨A2, cap2, rfl, hb2, hown⟩
    have hb2' := HB1.out.trans (hb2.mono hsz)
    have hz2 := hb2'.size
    have HF := Lib.hid (ref_Given sz (placesL k) H A A2 k k c cap2 v2 HN.out (placesL_length k) h8 h8 hH hH4 HBS.out (fun x hx => placesL_in hx) (placesL_nodup k) ((HR.out.below hb2').more hz2) hown.els)
    have HE2 := Lib.hid (HE.out.below hb2)
    have hz12 := hb2.size
    have HB2 := Lib.hid hb2'
    clear hb2 hown hb2' HE
    go_wp2_with fail
    refine HF.out.mono ?_
    clear HF
    rintro e v3 ⟨A3, cap3, rfl, hb3, hels3⟩
    have hRl : (givR sz H (placesL k)).length = k := by
      have := (givR_inv (H := H) HN.out (by omega) (placesL_nodup k) (fun x hx => placesL_in hx) (placesL k).length (Nat.le_refl _)).1.len
      rwa [List.take_length] at this
    have HI := Lib.hid (Ints_same A1 A3 k cap cap3 _ v1.heap.size v3.heap.size v3 hRl HMM.out (HE2.out.below (hb3.mono hz12)) hels3)
    have HB3 := Lib.hid (HB2.out.trans (hb3.mono hz2))
    have HEND := Lib.hid (fun q => ref_End sz (givR sz H (placesL k)) H A A3 k c cap3 W.heap.size v3.heap.size (v3.drewN q) HN.out hRl h8 hH4 HBS.out ((HR.out.below HB3.out).drewN q) (hels3.drewN q))
    rw [← HX.out] at HEND
    clear hb3 hels3 hRl
    go_wp2_with fail
    refine HI.out.mono ?_
    clear HI
    rintro e v4 ⟨rfl, q, rfl⟩
    go_wp2_with fail
    refine (HEND.out q).mono ?_
    clear HEND
    rintro e w' ⟨rfl, rfl⟩
    have hxx : (x == x) = true := by simp
    go_wp2_with fail
    go_ret
    exact ⟨rfl, below_drewN HB3.out q⟩
  · obtain ⟨rfl, rfl⟩ := HBAD.out h0
    have h1 : (splitCheck sz hands != 0) = true := by simpa using h0
    have h2 : (splitCheck sz hands == splitCheck sz hands) = true := by simp
    clear HBAD HGOOD
    generalize splitCheck sz hands = x at h1 h2
    clear h0
    go_wp2_with fail
    go_ret
    exact ⟨rfl, HB1.out⟩
end Go.Proofs.Ytcogmedpeeigcaa
