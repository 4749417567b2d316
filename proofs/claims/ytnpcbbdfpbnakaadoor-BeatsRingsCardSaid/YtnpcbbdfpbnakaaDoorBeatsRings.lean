/- The rows of players' first row and first ring. Conditions: the words read as a list; the table. -/
import Derived.Test.YtnpcbbdfpbnakaaDoorRowsL
import Derived.Test.YtnpcbbdfpbnakaaDoorBeatsP
import Derived.Test.YtnpcbbdfpbnakaaDoorEq
import Derived.Test.YtnpcbbdfpbnakaaDoorOpen
namespace Go.Proofs.YtnpcbbdfpbnakaaDoor
open Go.RowKit
attribute [local go_sem ↓] w_and w_or w_xor w_andNot w_and1 w_and255 w_xor1 w_or0 w_shl w_shl1 w_shr w_sub w_add w_sub1 w_add1
attribute [local go_sem] w_eq0 w_ne0 w_eq1 w_eq w_ne

set_option maxRecDepth 100000 in
set_option maxHeartbeats 1000000 in
theorem law_BeatsRings (A : Option Addr) (n c : Nat) (l : List W) (w : World) (hl : l.length = n) (hn : n ≤ maxLen) (hr : Els w w.heap.size 1 wcell A l) (htab : TabOk w) :
    Calls Tryd.prog 7 #[.slice A n c] w fun e w' => e = .returned (.bool true) ∧ Below w.heap.size w w' := by
  have HP := Lib.hid (beats_Ring A n c l w hl hn hr htab)
  have HL := Lib.hid hl
  have HR := Lib.hid hr
  have HMX := Lib.hid hn
  clear hl hr htab
  go_enter Tryd.func7, Tryd.ntmps7
  go_wp2_with fail
  refine HP.out.mono ?_
  clear HP
  rintro e v1 ⟨R, k, cr, er, rfl, hb1, hbad, hgood⟩
  have hz := hb1.size
  have hr1 := (HR.out.below hb1).more hz
  have HC := Lib.hid (ref_BeatsCheck A n c l v1 HL.out HMX.out hr1)
  have HB1 := Lib.hid hb1
  have HR1 := Lib.hid hr1
  have HBAD := Lib.hid hbad
  have HGOOD := Lib.hid hgood
  clear hb1 hr1 hbad hgood
  unfold maxLen at hn
  go_wp2_with fail
  refine HC.out.mono ?_
  clear HC
  rintro e v2 ⟨rfl, q, rfl⟩
  rw [beats_same]
  by_cases h0 : beatsCheck l = 0
  · obtain ⟨hnone, hsome⟩ := HGOOD.out h0
    have h8 := check_8 h0
    rw [HL.out] at h8
    have HNONE := Lib.hid hnone
    have HSOME := Lib.hid hsome
    have HRW := Lib.hid (ref_Row A n c l true (v1.drewN q) HL.out h8 (HR1.out.drewN q))
    rw [h0]
    clear hnone hsome h0 HBAD HGOOD
    go_wp2_with fail
    refine HRW.out.mono ?_
    clear HRW
    rintro e v3 ⟨R2, k2, cr2, g, rfl, hb3, hres3⟩
    have hb13 : Below v1.heap.size v1 v3 := (below_drewN (Below.refl _ v1) q).trans hb3
    have HB3 := Lib.hid (HB1.out.trans (hb13.mono hz))
    have HB13 := Lib.hid hb13
    clear hb3 hb13
    cases hrow : rowF l true n n [] with
    | none =>
      rw [hrow] at hres3
      have hg : g = false := hres3
      obtain ⟨rfl, rfl⟩ := HNONE.out (.inr hrow)
      subst hg
      clear HNONE HSOME hrow hres3
      go_wp2_with fail
      go_ret
      exact ⟨rfl, HB3.out⟩
    | some u =>
      rw [hrow] at hres3
      obtain ⟨rfl, rfl, he3⟩ := hres3
      by_cases h3 : n < 3
      · obtain ⟨rfl, rfl⟩ := HNONE.out (.inl h3)
        clear HNONE HSOME hrow he3
        go_wp2_with fail
        go_ret
        exact ⟨rfl, HB3.out⟩
      · obtain ⟨rfl, rfl, hel⟩ := HSOME.out h3 u hrow
        have hul := rowF_length l true n n [] u hrow
        have HI := Lib.hid (Ints_same R R2 u.length cr cr2 (intsOf u) v1.heap.size v3.heap.size v3 (by simp [intsOf]) (by unfold maxLen; simp at hul; omega) (hel.below HB13.out) he3)
        clear HNONE HSOME hrow he3 hel hul
        go_wp2_with fail
        refine HI.out.mono ?_
        clear HI
        rintro e v4 ⟨rfl, q4, rfl⟩
        go_wp2_with fail
        go_ret
        exact ⟨rfl, below_drewN HB3.out q4⟩
  · obtain ⟨rfl, rfl⟩ := HBAD.out h0
    have h1 : (beatsCheck l != 0) = true := by simpa using h0
    obtain ⟨y, hy⟩ : ∃ y, y = beatsCheck l := ⟨_, rfl⟩
    rw [← hy] at h1 ⊢
    clear h0 hy HBAD HGOOD
    go_wp2_with fail
    go_ret
    exact ⟨rfl, below_drewN HB1.out q⟩
theorem BeatsRings_row (C : Sls Int) (W : World) (htab : TabOk W) (hC : C.Good W W.heap.size 1 (fun n : Int => [.int .u32 n]) OkU) :
    Calls Tryd.prog 7 #[C.val] W fun e w' => e = .returned (.bool true) ∧ Below W.heap.size W w' :=
  law_BeatsRings C.A C.l.length C.c (C.l.map wordOf) W (by simp) hC.1 (hC.2.2.1.map_ wordOf fun a ha => by rw [wcell, wN_wordOf (hC.2.2.2 a ha).1 (hC.2.2.2 a ha).2]) htab
end Go.Proofs.YtnpcbbdfpbnakaaDoor
