/- First fit as the things come: the statement's walk. Conditions: none. -/
import Derived.Test.YtaldkafibemhnaaPackB
import Derived.Test.YtaldkafibemhnaaPackC
import Derived.Test.YtaldkafibemhnaaEq
import Derived.Test.YtaldkafibemhnaaOpen
namespace Go.Proofs.Ytaldkafibemhnaa
open Go.RowKit

theorem Fits.placed {sz : List Int} {room : Int} {R l R' : List Int} (h : Fits sz room R l R') : R'.length = R.length ∧ ∀ i : Nat, i < R.length → (0 ≤ R.getD i 0 ∨ (i : Int) ∈ l) → 0 ≤ R'.getD i 0 := by
  induction h with
  | nil R => exact ⟨rfl, fun i _ h => h.elim id fun h => by simp at h⟩
  | cons R R' a l j _ t ih =>
    rw [List.length_set] at ih
    refine ⟨ih.1, fun i hi h => ih.2 i hi ?_⟩
    by_cases hai : a = i
    · subst hai
      left
      rw [getD_set_eq _ _ _ hi]
      omega
    · rw [getD_set_ne _ _ _ _ hai]
      rcases h with h | h
      · exact .inl h
      · rcases List.mem_cons.1 h with h | h
        · omega
        · exact .inr h
theorem filled_fits {sz : List Int} {room : Int} {n mb : Nat} {od R : List Int} (h : Fits sz room (List.replicate n (-1)) od R) (hp : Placed n mb R) (hall : ∀ i : Nat, i < n → (i : Int) ∈ od) : filled R = R :=
  filled_all hp fun i hi => by
    have := (h.placed.2 i (by simpa using hi) (.inr (hall i hi)))
    omega
theorem placesL_mem {n i : Nat} (h : i < n) : (i : Int) ∈ placesL n := by
  unfold placesL
  exact List.mem_map.2 ⟨i, List.mem_range.2 h, rfl⟩
theorem placesL_get {n k : Nat} (h : k < n) : (placesL n).getD k 0 = k := by simp [placesL, List.getD_eq_getElem?_getD, h]
theorem placesL_nodup (n : Nat) : (placesL n).Nodup := by
  unfold placesL
  refine List.Pairwise.map _ ?_ List.nodup_range
  intro a b h
  omega
theorem pack_good {sz : List Int} {room : Int} (h : packCheck sz room = 0) : sz.length ≤ 8 ∧ 1 ≤ room ∧ room ≤ 1048576 ∧ ∀ i, 0 ≤ sz.getD i 0 ∧ sz.getD i 0 ≤ room := by
  unfold packCheck at h
  split at h
  · omega
  · split at h
    · omega
    · split at h
      · omega
      · rename_i h1 h2 h3
        refine ⟨by omega, by omega, by omega, fun i => ?_⟩
        by_cases hi : i < sz.length
        · have e := getD_at sz i hi 0
          rw [e]
          have := List.any_eq_false.1 (by simpa using h3) sz[i] (List.getElem_mem hi)
          unfold sizeBad at this
          simp at this
          omega
        · have : sz.getD i 0 = 0 := by simp [List.getD_eq_getElem?_getD, show sz.length ≤ i by omega]
          omega

set_option maxRecDepth 100000 in
theorem pack_First (sz : List Int) (room : Int) (A : Option Addr) (n c : Nat) (w : World) (hl : sz.length = n) (hn : n ≤ maxLen) (hr : Els w w.heap.size 1 zcell A sz) :
    Calls Try.prog 41 #[.slice A n c, .int .i64 room] w fun e w' => ∃ A' k cap, e = .returned (.tuple #[.slice A' k cap, .int .i64 (packCheck sz room)]) ∧ Below w.heap.size w w' ∧
      (packCheck sz room ≠ 0 → k = 0) ∧ (packCheck sz room = 0 → k = n ∧ ∃ R, R.length = n ∧ Fits sz room (List.replicate n (-1)) (placesL n) R ∧ Els w' w'.heap.size 1 zcell A' R) := by
  have HW := Lib.hid (pack_wrong sz room A n c w hl hn hr)
  have HL := Lib.hid hl
  have HR := Lib.hid hr
  clear hr
  go_enter Try.func41, Try.ntmps41
  go_wp2_with fail
  refine HW.out.mono ?_
  clear HW
  rintro e v1 ⟨rfl, hb1⟩
  have HB1 := Lib.hid hb1
  have hz1 := hb1.size
  clear hb1
  by_cases h0 : packCheck sz room = 0
  · obtain ⟨h8, hr1, hr2, hbs⟩ := pack_good h0
    have HBS := Lib.hid hbs
    rw [hl] at h8
    have HP := Lib.hid (pack_places A n c v1 h8)
    have HZ := Lib.hid h0
    rw [h0]
    clear hl hbs h0
    go_wp2_with fail
    refine HP.out.mono ?_
    clear HP
    rintro e v2 ⟨A1, cap, rfl, hb2, hown⟩
    have hb2' := HB1.out.trans (hb2.mono hz1)
    have hz2 := hb2'.size
    have HF := Lib.hid (pack_first sz (placesL n) room A A1 n n c cap v2 HL.out (placesL_length n) h8 h8 hr2 HBS.out (fun k hk => by rw [placesL_get hk]; omega) (placesL_nodup n) ((HR.out.below hb2').more hz2) hown.els)
    have HB2 := Lib.hid hb2'
    clear hb2 hown hb2'
    go_wp2_with fail
    refine HF.out.mono ?_
    clear HF
    rintro e v3 ⟨A2, cap2, rfl, hb3, R, mb, hown3, hpl, hfits⟩
    have hff := filled_fits hfits hpl (fun i hi => placesL_mem hi)
    rw [hff] at hown3
    have HB3 := Lib.hid (HB2.out.trans (hb3.mono hz2))
    have HO3 := Lib.hid hown3
    have HFT := Lib.hid hfits
    have HPL := Lib.hid hpl
    clear hb3 hown3 hpl hfits hff
    go_wp2_with fail
    refine bodyPost_ret (v := .tuple #[.slice A2 n cap2, .int .i64 0]) (by simp [results, Try.results41, go_sem]) rfl ?_
    exact ⟨A2, n, cap2, by rw [HZ.out], HB3.out, fun h => absurd HZ.out h, fun _ => ⟨rfl, R, HPL.out.len, HFT.out, HO3.out.els⟩⟩
  · have h1 : (packCheck sz room != 0) = true := by simpa using h0
    have H0 := Lib.hid h0
    obtain ⟨x, hx⟩ : ∃ x, x = packCheck sz room := ⟨_, rfl⟩
    rw [← hx] at h1 ⊢
    have HX := Lib.hid hx
    clear hl h0 hx
    go_wp2_with fail
    refine bodyPost_ret (v := .tuple #[.slice none 0 0, .int .i64 x]) (by simp [results, Try.results41, go_sem]) rfl ?_
    exact ⟨none, 0, 0, by rw [HX.out], HB1.out, fun _ => rfl, fun h => absurd h H0.out⟩

set_option maxRecDepth 100000 in
theorem PackFirsts_row (C : Sls Int) (room : Int) (W : World) (hC : C.Good W W.heap.size 1 zcell OkI) (_hroom : OkI room) :
    Calls Try.prog 14 #[C.val, .int .i64 room] W fun e w' => e = .returned (.bool true) ∧ Below W.heap.size W w' := by
  obtain ⟨A, c, sz⟩ := C
  obtain ⟨hm, hc, hr, hg⟩ := hC
  obtain ⟨n, hn⟩ : ∃ n, sz.length = n := ⟨_, rfl⟩
  show Calls Try.prog 14 #[.slice A sz.length c, .int .i64 room] W _
  simp only at hm
  rw [hn] at hm ⊢
  have HM := Lib.hid (pack_First sz room A n c W hn hm hr)
  have HR := Lib.hid hr
  have hm' : n ≤ 9223372036854775807 := by unfold maxLen at hm; exact hm
  have HN := Lib.hid hn
  clear hc hg hr hn
  go_enter Try.func14, Try.ntmps14
  go_wp2_with fail
  refine HM.out.mono ?_
  clear HM
  rintro e v1 ⟨A1, k, cap, rfl, hb1, hbad, hgood⟩
  have HB1 := Lib.hid hb1
  have hsz := hb1.size
  have HC := Lib.hid (ref_PackCheck sz room A n c v1 HN.out hm ((HR.out.below hb1).more hsz))
  have HBAD := Lib.hid hbad
  have HGOOD := Lib.hid hgood
  clear hb1 hbad hgood
  go_wp2_with fail
  refine HC.out.mono ?_
  clear HC
  rintro e w' ⟨rfl, rfl⟩
  by_cases h0 : packCheck sz room = 0
  · obtain ⟨h8, hr1, hr2, hbs⟩ := pack_good h0
    obtain ⟨rfl, R, hRl, hfits, hels⟩ := HGOOD.out h0
    rw [HN.out] at h8
    have HP := Lib.hid (ref_Places k v1 h8)
    have HBS := Lib.hid hbs
    have HFT := Lib.hid hfits
    have HE := Lib.hid hels
    have HRL := Lib.hid hRl
    rw [h0]
    clear hbs h0 hfits hels hRl HBAD HGOOD
    go_wp2_with fail
    refine HP.out.mono ?_
    clear HP
    rintro e v2 ⟨A2, cap2, rfl, hb2, hown⟩
    have hb2' := HB1.out.trans (hb2.mono hsz)
    have hz2 := hb2'.size
    have HF := Lib.hid (ref_FirstFit sz (placesL k) room A A2 k k c cap2 v2 HN.out (placesL_length k) h8 h8 hr2 HBS.out (fun j hj => by rw [placesL_get hj]; omega) ((HR.out.below hb2').more hz2) hown.els)
    have HE2 := Lib.hid (HE.out.below hb2)
    have hz12 := hb2.size
    have HB2 := Lib.hid hb2'
    clear hb2 hown hb2' HE
    go_wp2_with fail
    refine HF.out.mono ?_
    clear HF
    rintro e v3 ⟨A3, cap3, rfl, hb3, R', hown3, hRl', hfits'⟩
    obtain rfl : R = R' := HFT.out.unique hfits'
    have HI := Lib.hid (Ints_same A1 A3 k cap cap3 R v1.heap.size v3.heap.size v3 hRl' hm (HE2.out.below (hb3.mono hz12)) hown3.els)
    have HB3 := Lib.hid (HB2.out.trans (hb3.mono hz2))
    clear hb3 hown3 hRl' hfits'
    go_wp2_with fail
    refine HI.out.mono ?_
    clear HI
    rintro e v4 ⟨rfl, q, rfl⟩
    go_wp2_with fail
    go_ret
    exact ⟨rfl, below_drewN HB3.out q⟩
  · have hk := HBAD.out h0
    subst hk
    have h1 : (packCheck sz room != 0) = true := by simpa using h0
    have h2 : (packCheck sz room == packCheck sz room) = true := by simp
    clear HBAD HGOOD
    generalize packCheck sz room = x at h1 h2
    clear h0
    go_wp2_with fail
    go_ret
    exact ⟨rfl, HB1.out⟩
end Go.Proofs.Ytaldkafibemhnaa
