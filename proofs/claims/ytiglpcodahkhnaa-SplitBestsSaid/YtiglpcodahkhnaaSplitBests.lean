/- How early all can be done: the statement's walk. Conditions: none. -/
import Derived.Test.YtiglpcodahkhnaaBestB
import Derived.Test.YtiglpcodahkhnaaOpen
namespace Go.Proofs.Ytiglpcodahkhnaa
open Go.RowKit

set_option maxRecDepth 100000 in
set_option maxHeartbeats 1000000 in
theorem SplitBests_row (C : Sls Int) (hands : Int) (W : World) (hC : C.Good W W.heap.size 1 icell OkI) (_h : OkI hands) :
    Calls Try.prog 3 #[C.val, .int .i64 hands] W fun e w' => e = .returned (.bool true) ∧ Below W.heap.size W w' := by
  obtain ⟨A, c, sz⟩ := C
  obtain ⟨hm, hc, hr, hg⟩ := hC
  obtain ⟨n, hn⟩ : ∃ n, sz.length = n := ⟨_, rfl⟩
  show Calls Try.prog 3 #[.slice A sz.length c, .int .i64 hands] W _
  simp only at hm
  rw [hn] at hm ⊢
  have HM := Lib.hid (split_Best sz hands A n c W hn hm hr)
  have HR := Lib.hid hr
  have HMM := Lib.hid hm
  have HN := Lib.hid hn
  clear hc hg hr hn hm
  go_enter Try.func3, Try.ntmps3
  go_wp2_with fail
  refine HM.out.mono ?_
  clear HM
  rintro e v1 ⟨x, rfl, hb1, hbad, hgood⟩
  have HB1 := Lib.hid hb1
  have hsz := hb1.size
  have HC := Lib.hid (ref_SplitCheck sz hands A n c v1 HN.out HMM.out ((HR.out.below hb1).more hsz))
  have HBAD := Lib.hid hbad
  have HGOOD := Lib.hid hgood
  clear hb1 hbad hgood
  go_wp2_with fail
  refine HC.out.mono ?_
  clear HC
  rintro e w' ⟨rfl, rfl⟩
  by_cases h0 : splitCheck sz hands = 0
  · obtain ⟨h8, ⟨H, rfl, hH, hH4⟩, hbs⟩ := split_good h0
    have hx := HGOOD.out H rfl h0
    have hval := best_is (H := H) hbs hH
    rw [HN.out] at h8 hval
    rw [hval] at hx
    have HP := Lib.hid (ref_BestEnd sz H A n c HN.out h8 hH hH4 hbs n [] 0 0 0 none v1 rfl (by omega) (Nat.le_refl _) .nil (by omega) ((HR.out.below HB1.out).more hsz) Els.nil)
    rw [← hx] at HP
    have hxx : (x == x) = true := by simp
    rw [h0]
    clear hx hval hbs h0 HBAD HGOOD
    go_wp2_with fail
    refine HP.out.mono ?_
    clear HP
    rintro e v2 ⟨rfl, hb2⟩
    have HB2 := Lib.hid (HB1.out.trans (hb2.mono hsz))
    clear hb2
    go_wp2_with fail
    go_ret
    exact ⟨rfl, HB2.out⟩
  · obtain rfl := HBAD.out h0
    have h1 : (splitCheck sz hands != 0) = true := by simpa using h0
    have h2 : (splitCheck sz hands == splitCheck sz hands) = true := by simp
    clear HBAD HGOOD
    generalize splitCheck sz hands = x at h1 h2
    clear h0
    go_wp2_with fail
    go_ret
    exact ⟨rfl, HB1.out⟩
end Go.Proofs.Ytiglpcodahkhnaa
