/- The rows of players' first row and first ring. Conditions: the words read as a list; the table. -/
import Derived.Test.YtnpcbbdfpbnakaaDoorRowsL
import Derived.Test.YtnpcbbdfpbnakaaDoorRedei
import Derived.Test.YtnpcbbdfpbnakaaDoorBeatsP
import Derived.Test.YtnpcbbdfpbnakaaDoorEq
import Derived.Test.YtnpcbbdfpbnakaaDoorOpen
namespace Go.Proofs.YtnpcbbdfpbnakaaDoor
open Go.RowKit
attribute [local go_sem ↓] w_and w_or w_xor w_andNot w_and1 w_and255 w_xor1 w_or0 w_shl w_shl1 w_shr w_sub w_add w_sub1 w_add1
attribute [local go_sem] w_eq0 w_ne0 w_eq1 w_eq w_ne

theorem check_one {l : List W} (h : beatsCheck l = 0) (i j : Nat) (hi : i < l.length) (hj : j < l.length) (hne : i ≠ j) : bitB (lw l i) (j : Int) = true ∨ bitB (lw l j) (i : Int) = true := by
  have h2 : beatsRef l = 0 := by rw [beats_same]; exact h
  unfold beatsRef at h2
  split at h2
  · cases h2
  · split at h2
    · cases h2
    · split at h2
      · cases h2
      · rename_i h3
        have h4 := List.any_eq_false.1 (by simpa using h3) i (List.mem_range.2 hi)
        have h5 := List.any_eq_false.1 (by simpa [pairsBad] using h4) j (List.mem_range.2 hj)
        unfold pairBad at h5
        have hij : (i == j) = false := by simpa using hne
        have hij' : (i != j) = true := by simpa using hne
        rw [hij, hij'] at h5
        cases h6 : bitB (lw l i) (j : Int) <;> cases h7 : bitB (lw l j) (i : Int) <;> rw [h6, h7] at h5 <;> simp at h5 ⊢

set_option maxRecDepth 100000 in
set_option maxHeartbeats 1000000 in
theorem law_BeatsRows (A : Option Addr) (n c : Nat) (l : List W) (w : World) (hl : l.length = n) (hn : n ≤ maxLen) (hr : Els w w.heap.size 1 wcell A l) (htab : TabOk w) :
    Calls Tryd.prog 6 #[.slice A n c] w fun e w' => e = .returned (.bool true) ∧ Below w.heap.size w w' := by
  have HP := Lib.hid (beats_Row A n c l w hl hn hr htab)
  have HL := Lib.hid hl
  have HR := Lib.hid hr
  have HMX := Lib.hid hn
  clear hl hr htab
  go_enter Tryd.func6, Tryd.ntmps6
  go_wp2_with fail
  refine HP.out.mono ?_
  clear HP
  rintro e v1 ⟨R, k, cr, er, rfl, hb1, hbad, hgood⟩
  have hz := hb1.size
  have hr1 := (HR.out.below hb1).more hz
  have HC := Lib.hid (ref_BeatsCheck A n c l v1 HL.out HMX.out hr1)
  have HB1 := Lib.hid hb1
  have HR1 := Lib.hid hr1
  have HBAD := Lib.hid hbad
  have HGOOD := Lib.hid hgood
  clear hb1 hr1 hbad hgood
  unfold maxLen at hn
  go_wp2_with fail
  refine HC.out.mono ?_
  clear HC
  rintro e v2 ⟨rfl, q, rfl⟩
  rw [beats_same]
  by_cases h0 : beatsCheck l = 0
  · obtain ⟨rfl, hres⟩ := HGOOD.out h0
    have h8 := check_8 h0
    rw [HL.out] at h8
    obtain ⟨u, hu⟩ := row_some (t := l) (n := n) (fun i j hi hj => check_one h0 i j (by rw [HL.out]; exact hi) (by rw [HL.out]; exact hj))
    rw [hu] at hres
    obtain ⟨rfl, hel⟩ := hres
    have hul := rowF_length l false n n [] u hu
    have HU := Lib.hid hu
    have HUL := Lib.hid hul
    have HEL := Lib.hid hel
    have HRW := Lib.hid (ref_Row A n c l false (v1.drewN q) HL.out h8 (HR1.out.drewN q))
    rw [h0]
    clear hu hul hel h0 HBAD HGOOD
    go_wp2_with fail
    refine HRW.out.mono ?_
    clear HRW
    rintro e v3 ⟨R2, k2, cr2, g, rfl, hb3, hres3⟩
    rw [HU.out] at hres3
    obtain ⟨rfl, rfl, he3⟩ := hres3
    have hb13 : Below v1.heap.size v1 v3 := (below_drewN (Below.refl _ v1) q).trans hb3
    have HB3 := Lib.hid (HB1.out.trans (hb13.mono hz))
    have HI := Lib.hid (Ints_same R R2 u.length cr cr2 (intsOf u) v1.heap.size v3.heap.size v3 (by simp [intsOf]) (by have hul := HUL.out; unfold maxLen; simp at hul; omega) (HEL.out.below hb13) he3)
    clear hb3 hb13 he3 HU HUL HEL HR1 HR HL HMX hz h8
    go_wp2_with fail
    refine HI.out.mono ?_
    clear HI
    rintro e v4 ⟨rfl, q4, rfl⟩
    go_wp2_with fail
    go_ret
    exact ⟨rfl, below_drewN HB3.out q4⟩
  · obtain ⟨rfl, rfl⟩ := HBAD.out h0
    have h1 : (beatsCheck l != 0) = true := by simpa using h0
    obtain ⟨y, hy⟩ : ∃ y, y = beatsCheck l := ⟨_, rfl⟩
    rw [← hy] at h1 ⊢
    clear h0 hy HBAD HGOOD
    go_wp2_with fail
    go_ret
    exact ⟨rfl, below_drewN HB1.out q⟩
theorem BeatsRows_row (C : Sls Int) (W : World) (htab : TabOk W) (hC : C.Good W W.heap.size 1 (fun n : Int => [.int .u32 n]) OkU) :
    Calls Tryd.prog 6 #[C.val] W fun e w' => e = .returned (.bool true) ∧ Below W.heap.size W w' :=
  law_BeatsRows C.A C.l.length C.c (C.l.map wordOf) W (by simp) hC.1 (hC.2.2.1.map_ wordOf fun a ha => by rw [wcell, wN_wordOf (hC.2.2.2 a ha).1 (hC.2.2.2 a ha).2]) htab
end Go.Proofs.YtnpcbbdfpbnakaaDoor
