/- The row of lots' ranks. Conditions: the words read as a list; the table. -/
import Derived.Test.YtnpcbbdfpbnakaaDoorLotsT
import Derived.Test.YtnpcbbdfpbnakaaDoorOpen
namespace Go.Proofs.YtnpcbbdfpbnakaaDoor
open Go.RowKit
attribute [local go_sem ↓] w_and w_or w_xor w_andNot w_and1 w_and255 w_xor1 w_or0 w_shl w_shl1 w_shr w_sub w_add w_sub1 w_add1
attribute [local go_sem] w_eq0 w_ne0 w_eq1 w_eq w_ne

set_option maxRecDepth 100000 in
set_option maxHeartbeats 1000000 in
theorem law_LotsRanks (A : Option Addr) (n c : Nat) (l : List (BitVec 32)) (x : BitVec 32) (w : World) (hl : l.length = n) (hn : n ≤ maxLen) (hr : Els w w.heap.size 1 wcell A l) (htab : TabOk w) :
    Calls Tryd.prog 8 #[.slice A n c, .int .u32 (wN x)] w fun e w' => e = .returned (.bool true) ∧ Below w.heap.size w w' := by
  have HP := Lib.hid (lots_Rank A n c l x w hl hn hr htab)
  have HL := Lib.hid hl
  have HR := Lib.hid hr
  have HN : Hid (rankR l x = if lotsCheck l ≠ 0 then (0, lotsCheck l) else if 2 ^ n ≤ x.toNat then (0, 2) else ((rk ((bitsL x).map (lw l)).reverse : Int), 0)) := by subst hl; rfl
  clear hl hr htab
  go_enter Tryd.func8, Tryd.ntmps8
  go_wp2_with fail
  refine HP.out.mono ?_
  clear HP
  rintro e v1 ⟨v, er, rfl, hv, hb1⟩
  have hz := hb1.size
  have hr1 := (HR.out.below hb1).more hz
  have HC := Lib.hid (ref_LotsCheck A n c l v1 HL.out hn hr1)
  have HB1 := Lib.hid hb1
  have HV := Lib.hid hv
  have HR1 := Lib.hid hr1
  clear hb1 hv hr1
  unfold maxLen at hn
  go_wp2_with fail
  refine HC.out.mono ?_
  clear HC
  rintro e v2 ⟨rfl, rfl⟩
  by_cases h0 : lotsCheck l = 0
  · have h10 := lotsCheck_n h0
    rw [HL.out] at h10
    have H0 := Lib.hid h0
    have hsh : (wShl w1 n).toNat = 2 ^ n := wN_shl1 (by omega)
    rw [h0]
    clear h0
    by_cases hx : 2 ^ n ≤ x.toNat
    · have hge : wN (wShl w1 n) ≤ wN x := by unfold wN; omega
      have hve := HV.out
      rw [HN.out, if_neg (by simp [H0.out]), if_pos hx] at hve
      obtain ⟨rfl, rfl⟩ := Prod.mk.inj hve
      clear hve hx
      go_wp2_with fail
      go_ret
      exact ⟨rfl, HB1.out⟩
    · have hge : ¬ wN (wShl w1 n) ≤ wN x := by unfold wN; omega
      have hve := HV.out
      have HX := Lib.hid (ref_Rank A n c l x v1 HL.out h10 HR1.out (by omega))
      rw [HN.out, if_neg (by simp [H0.out]), if_neg hx] at hve
      obtain ⟨rfl, rfl⟩ := Prod.mk.inj hve
      clear hve hx
      go_wp2_with fail
      refine HX.out.mono ?_
      clear HX
      rintro e v3 ⟨rfl, hb3⟩
      have HB3 := Lib.hid (HB1.out.trans (hb3.mono hz))
      clear hb3
      go_wp2_with fail
      go_ret
      exact ⟨rfl, HB3.out⟩
  · have hve := HV.out
    rw [HN.out, if_pos h0] at hve
    have h1 : (lotsCheck l == 0) = false := by simpa using h0
    have h2 : (lotsCheck l != 0) = true := by simpa using h0
    obtain ⟨rfl, rfl⟩ := Prod.mk.inj hve
    obtain ⟨y, hy⟩ : ∃ y, y = lotsCheck l := ⟨_, rfl⟩
    rw [← hy] at h1 h2 ⊢
    clear h0 hve hy
    go_wp2_with fail
    go_ret
    exact ⟨rfl, HB1.out⟩
theorem LotsRanks_row (C : Sls Int) (y : Int) (W : World) (htab : TabOk W) (hC : C.Good W W.heap.size 1 (fun n : Int => [.int .u32 n]) OkU) (hy : OkU y) :
    Calls Tryd.prog 8 #[C.val, .int .u32 y] W fun e w' => e = .returned (.bool true) ∧ Below W.heap.size W w' := by
  have h := law_LotsRanks C.A C.l.length C.c (C.l.map wordOf) (wordOf y) W (by simp) hC.1 (hC.2.2.1.map_ wordOf fun a ha => by rw [wcell, wN_wordOf (hC.2.2.2 a ha).1 (hC.2.2.2 a ha).2]) htab
  rw [wN_wordOf hy.1 hy.2] at h
  exact h
end Go.Proofs.YtnpcbbdfpbnakaaDoor
