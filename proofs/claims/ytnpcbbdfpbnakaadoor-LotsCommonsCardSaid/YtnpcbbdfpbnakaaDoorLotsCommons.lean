/- The row of lots' largest common set. Conditions: the words read as lists; the table. -/
import Derived.Test.YtnpcbbdfpbnakaaDoorLotsC
import Derived.Test.YtnpcbbdfpbnakaaDoorOpen
namespace Go.Proofs.YtnpcbbdfpbnakaaDoor
open Go.RowKit
attribute [local go_sem ↓] w_and w_or w_xor w_andNot w_and1 w_and255 w_xor1 w_or0 w_shl w_shl1 w_shr w_sub w_add w_sub1 w_add1
attribute [local go_sem] w_eq0 w_ne0 w_eq1 w_eq w_ne

theorem bothP_free (a b : List (BitVec 32)) {x : BitVec 32} {n : Nat} (hn : n ≤ 32) (hx : x.toNat < 2 ^ n) : bothP a b x = true ↔ FreeW a x n ∧ FreeW b x n := by
  unfold bothP rkW
  rw [Bool.and_eq_true, decide_eq_true_iff, decide_eq_true_iff, free_iff a hn hx, free_iff b hn hx]
set_option maxRecDepth 100000 in
set_option maxHeartbeats 1000000 in
theorem ref_CommonLots (A B : Option Addr) (n c d : Nat) (a b : List (BitVec 32)) (w : World) (ha : a.length = n) (hb : b.length = n) (h10 : n ≤ 10) (hra : Els w w.heap.size 1 wcell A a) (hrb : Els w w.heap.size 1 wcell B b) :
    Calls Tryd.prog 31 #[.slice A n c, .slice B n d] w fun e w' => e = .returned (.int .u32 (wN (cmn (bothP a b) (2 ^ n)))) ∧ w = w' := by
  have hP1 : 2 ^ n ≤ 1024 := Nat.le_trans (Nat.pow_le_pow_right (by omega) h10) (by omega)
  have hlim : wN (wShl w1 n) = ((2 ^ n : Nat) : Int) := by unfold wN; rw [wN_shl1 (by omega)]
  obtain ⟨P, hP⟩ : ∃ P, P = 2 ^ n := ⟨_, rfl⟩
  rw [← hP] at hP1 hlim ⊢
  have HLIM := Lib.hid hlim
  have HP := Lib.hid hP
  have HFA := fun (x : BitVec 32) => Lib.hid (ref_Free A n c a x w ha (by omega) hra)
  have HFB := fun (x : BitVec 32) => Lib.hid (ref_Free B n d b x w hb (by omega) hrb)
  clear ha hb hra hrb hP hlim
  go_enter Tryd.func31, Tryd.ntmps31
  go_wp2_with fail
  go_loop [5, 6] (fun s i => ∃ k : Nat, k ≤ P ∧ i = .int .u32 (wN (nw k)) ∧ s = .int .u32 (wN (cmn (bothP a b) k))) (fun _ i => P - (intOf i).toNat)
  case atStart => exact ⟨0, by omega, rfl, rfl⟩
  case round =>
    obtain ⟨k, hk, rfl, rfl⟩ := hrel
    have hkw := wN_nw (k := k) (by omega)
    have hkw1 := wN_nw (k := k + 1) (by omega)
    have HKW := Lib.hid hkw
    have HKW1 := Lib.hid hkw1
    have HSU := Lib.hid (nw_succ k)
    by_cases hlt : k < P
    · have hlt' : wN (nw k) < wN (wShl w1 n) := by rw [hkw, HLIM.out]; omega
      have HWS : Hid (cmn (bothP a b) (k + 1) = if pop (cmn (bothP a b) k) < pop (nw k) ∧ bothP a b (nw k) = true then nw k else cmn (bothP a b) k) := Lib.hid rfl
      have hnwlt : (nw k).toNat < 2 ^ n := by rw [← HP.out]; unfold wN at hkw; omega
      have HBF := Lib.hid (bothP_free a b (by omega) hnwlt)
      obtain ⟨y, hy⟩ : ∃ y, y = cmn (bothP a b) k := ⟨_, rfl⟩
      obtain ⟨x, hx⟩ : ∃ x, x = nw k := ⟨_, rfl⟩
      rw [← hx] at hlt' HBF ⊢
      rw [← hy]
      have HX := Lib.hid hx
      have HY := Lib.hid hy
      obtain ⟨px, hpx⟩ : ∃ p, p = pop x := ⟨_, rfl⟩
      obtain ⟨py, hpy⟩ : ∃ p, p = pop y := ⟨_, rfl⟩
      have HPX := Lib.hid hpx
      have HPY := Lib.hid hpy
      have HSK : Hid (¬ (py < px ∧ FreeW a x n ∧ FreeW b x n) → cmn (bothP a b) (k + 1) = y) := Lib.hid (fun h => by
        rw [HWS.out, ← HX.out, ← HY.out, if_neg (fun hh => h ?_)]
        rw [HPX.out, HPY.out]
        exact ⟨hh.1, HBF.out.1 hh.2⟩)
      have HTK : Hid ((py < px ∧ FreeW a x n ∧ FreeW b x n) → cmn (bothP a b) (k + 1) = x) := Lib.hid (fun h => by
        rw [HPX.out, HPY.out] at h
        rw [HWS.out, ← HX.out, ← HY.out, if_pos ⟨h.1, HBF.out.2 h.2⟩])
      have HA1 := HFA x
      have HB1 := HFB x
      clear hx hy hpx hpy hkw hkw1 hnwlt
      go_wp2_with fail
      refine (Size_any _ _).mono ?_
      rintro e w' ⟨rfl, rfl⟩
      rw [← HPX.out]
      go_wp2_with fail
      refine (Size_any _ _).mono ?_
      rintro e w' ⟨rfl, rfl⟩
      rw [← HPY.out]
      by_cases hlt2 : py < px
      · go_wp2_with fail
        refine HA1.out.mono ?_
        clear HA1
        rintro e w' ⟨ba, rfl, hba, rfl⟩
        have HBA := Lib.hid hba
        clear hba
        cases ba with
        | true =>
          go_wp2_with fail
          refine HB1.out.mono ?_
          clear HB1
          rintro e w' ⟨bb, rfl, hbb, rfl⟩
          have HBB := Lib.hid hbb
          clear hbb
          cases bb with
          | true =>
            have HT2 := Lib.hid (HTK.out ⟨hlt2, by simpa using HBA.out, HBB.out.1 rfl⟩)
            clear HBA HBB HTK HSK
            go_wp2_with fail
            go_round
            case rel => exact ⟨k + 1, by omega, by rw [HX.out, HSU.out], by rw [HT2.out]⟩
            case measure => rw [HX.out, HSU.out]; simp [intOf]; rw [HKW.out, HKW1.out]; omega
          | false =>
            have HS2 := Lib.hid (HSK.out (fun h => by have := HBB.out.2 h.2.2; cases this))
            clear HBA HBB HTK HSK
            go_wp2_with fail
            go_round
            case rel => exact ⟨k + 1, by omega, by rw [HX.out, HSU.out], by rw [HS2.out]⟩
            case measure => rw [HX.out, HSU.out]; simp [intOf]; rw [HKW.out, HKW1.out]; omega
        | false =>
          have HS2 := Lib.hid (HSK.out (fun h => by have := HBA.out.2 h.2.1; cases this))
          clear HBA HTK HSK
          go_wp2_with fail
          go_round
          case rel => exact ⟨k + 1, by omega, by rw [HX.out, HSU.out], by rw [HS2.out]⟩
          case measure => rw [HX.out, HSU.out]; simp [intOf]; rw [HKW.out, HKW1.out]; omega
      · have HS2 := Lib.hid (HSK.out (fun h => hlt2 h.1))
        clear HTK HSK
        go_wp2_with fail
        go_round
        case rel => exact ⟨k + 1, by omega, by rw [HX.out, HSU.out], by rw [HS2.out]⟩
        case measure => rw [HX.out, HSU.out]; simp [intOf]; rw [HKW.out, HKW1.out]; omega
    · obtain rfl : k = P := by omega
      have hge : ¬ wN (nw k) < wN (wShl w1 n) := by rw [hkw, HLIM.out]; omega
      clear hkw hkw1
      go_wp2_with fail
      go_ret
      exact ⟨rfl, rfl⟩

set_option maxRecDepth 100000 in
set_option maxHeartbeats 1000000 in
theorem law_LotsCommons (A B : Option Addr) (n c m d : Nat) (a b : List (BitVec 32)) (w : World) (ha : a.length = n) (hb : b.length = m) (hn : n ≤ maxLen) (hm : m ≤ maxLen) (hra : Els w w.heap.size 1 wcell A a) (hrb : Els w w.heap.size 1 wcell B b) (htab : TabOk w) :
    Calls Tryd.prog 9 #[.slice A n c, .slice B m d] w fun e w' => e = .returned (.bool true) ∧ Below w.heap.size w w' := by
  have HP := Lib.hid (lots_Common A B n c m d a b w ha hb hn hm hra hrb htab)
  have HLA := Lib.hid ha
  have HLB := Lib.hid hb
  have HRA := Lib.hid hra
  have HRB := Lib.hid hrb
  have HE : Hid (commonE a b = if lotsCheck a ≠ 0 then lotsCheck a else if lotsCheck b ≠ 0 then lotsCheck b else if n ≠ m then 3 else 0) := by subst ha hb; rfl
  clear ha hb hra hrb htab
  go_enter Tryd.func9, Tryd.ntmps9
  go_wp2_with fail
  refine HP.out.mono ?_
  clear HP
  rintro e v1 ⟨x, er, rfl, hb1, hbad, hgood⟩
  have hz := hb1.size
  have hra1 := (HRA.out.below hb1).more hz
  have hrb1 := (HRB.out.below hb1).more hz
  have HCA := Lib.hid (ref_LotsCheck A n c a v1 HLA.out hn hra1)
  have HCB := Lib.hid (ref_LotsCheck B m d b v1 HLB.out hm hrb1)
  have HB1 := Lib.hid hb1
  have HBAD := Lib.hid hbad
  have HGOOD := Lib.hid hgood
  have HRA1 := Lib.hid hra1
  have HRB1 := Lib.hid hrb1
  clear hb1 hbad hgood hra1 hrb1
  unfold maxLen at hn hm
  go_wp2_with fail
  refine HCA.out.mono ?_
  clear HCA
  rintro e v2 ⟨rfl, rfl⟩
  have bad : ∀ y : Int, commonE a b = y → y ≠ 0 → er = y ∧ x = w0 := fun y h h0 => by
    obtain ⟨h1, h2⟩ := HBAD.out (by rw [h]; exact h0)
    exact ⟨by rw [h2, h], h1⟩
  by_cases h0 : lotsCheck a = 0
  · have H0 := Lib.hid h0
    rw [h0]
    clear h0
    go_wp2_with fail
    refine HCB.out.mono ?_
    clear HCB
    rintro e v2 ⟨rfl, rfl⟩
    by_cases h2 : lotsCheck b = 0
    · have H2 := Lib.hid h2
      have h10 := lotsCheck_n H0.out
      rw [HLA.out] at h10
      rw [h2]
      clear h2
      by_cases hnm : n = m
      · subst hnm
        obtain ⟨rfl, rfl⟩ := HGOOD.out (by rw [HE.out, if_neg (by rw [H0.out]; simp), if_neg (by rw [H2.out]; simp), if_neg (by simp)])
        have HX := Lib.hid (ref_CommonLots A B n c d a b v1 HLA.out HLB.out h10 HRA1.out HRB1.out)
        obtain ⟨y, hy⟩ : ∃ y, y = cmn (bothP a b) (2 ^ n) := ⟨_, rfl⟩
        rw [← hy] at HX ⊢
        clear hy HBAD HGOOD bad
        go_wp2_with fail
        refine HX.out.mono ?_
        clear HX
        rintro e v3 ⟨rfl, rfl⟩
        go_wp2_with fail
        go_ret
        exact ⟨ret_bool (by simp), HB1.out⟩
      · obtain ⟨rfl, rfl⟩ := bad 3 (by rw [HE.out, if_neg (by rw [H0.out]; simp), if_neg (by rw [H2.out]; simp), if_pos hnm]) (by decide)
        have h3 : wN w0 = 0 := rfl
        rw [h3]
        clear HBAD HGOOD bad h3
        go_wp2_with fail
        go_ret
        exact ⟨rfl, HB1.out⟩
    · obtain ⟨rfl, rfl⟩ := bad (lotsCheck b) (by rw [HE.out, if_neg (by rw [H0.out]; simp), if_pos h2]) h2
      have h3 : wN w0 = 0 := rfl
      have h1 : (lotsCheck b == 0) = false := by simpa using h2
      have h4 : (lotsCheck b != 0) = true := by simpa using h2
      rw [h3]
      clear HBAD HGOOD bad h3
      obtain ⟨y, hy⟩ : ∃ y, y = lotsCheck b := ⟨_, rfl⟩
      rw [← hy] at h1 h4 ⊢
      clear h2 hy
      go_wp2_with fail
      go_ret
      exact ⟨rfl, HB1.out⟩
  · obtain ⟨rfl, rfl⟩ := bad (lotsCheck a) (by rw [HE.out, if_pos h0]) h0
    have h3 : wN w0 = 0 := rfl
    have h1 : (lotsCheck a == 0) = false := by simpa using h0
    have h4 : (lotsCheck a != 0) = true := by simpa using h0
    rw [h3]
    clear HBAD HGOOD bad h3
    obtain ⟨y, hy⟩ : ∃ y, y = lotsCheck a := ⟨_, rfl⟩
    rw [← hy] at h1 h4 ⊢
    clear h0 hy
    go_wp2_with fail
    go_ret
    exact ⟨rfl, HB1.out⟩
theorem LotsCommons_row (C D : Sls Int) (W : World) (htab : TabOk W) (hC : C.Good W W.heap.size 1 (fun n : Int => [.int .u32 n]) OkU) (hD : D.Good W W.heap.size 1 (fun n : Int => [.int .u32 n]) OkU) :
    Calls Tryd.prog 9 #[C.val, D.val] W fun e w' => e = .returned (.bool true) ∧ Below W.heap.size W w' :=
  law_LotsCommons C.A D.A C.l.length C.c D.l.length D.c (C.l.map wordOf) (D.l.map wordOf) W (by simp) (by simp) hC.1 hD.1
    (hC.2.2.1.map_ wordOf fun a ha => by rw [wcell, wN_wordOf (hC.2.2.2 a ha).1 (hC.2.2.2 a ha).2]) (hD.2.2.1.map_ wordOf fun a ha => by rw [wcell, wN_wordOf (hD.2.2.2 a ha).1 (hD.2.2.2 a ha).2]) htab
end Go.Proofs.YtnpcbbdfpbnakaaDoor
