/- The largest set that is free by both: the program and the reference. Conditions: the words read as lists; the table. -/
import Derived.Test.YtnpcbbdfpbnakaaDoorLotsT
import Derived.Test.YtnpcbbdfpbnakaaDoorCount
namespace Go.Proofs.YtnpcbbdfpbnakaaDoor
open Go.RowKit
attribute [local go_sem ↓] w_and w_or w_xor w_andNot w_and1 w_and255 w_xor1 w_or0 w_shl w_shl1 w_shr w_sub w_add w_sub1 w_add1
attribute [local go_sem] w_eq0 w_ne0 w_eq1 w_eq w_ne

/-- The first of the largest, of those for which p holds, among the first k. -/
def cmn (p : BitVec 32 → Bool) : Nat → BitVec 32
  | 0 => w0
  | k + 1 => if pop (cmn p k) < pop (nw k) ∧ p (nw k) = true then nw k else cmn p k
theorem cmn_congr {p q : BitVec 32 → Bool} : ∀ k, (∀ j, j < k → p (nw j) = q (nw j)) → cmn p k = cmn q k
  | 0, _ => rfl
  | k + 1, h => by
    rw [cmn, cmn, cmn_congr k (fun j hj => h j (by omega)), h k (by omega)]
noncomputable def rkW (l : List (BitVec 32)) (x : BitVec 32) : Nat := rk ((bitsL x).map (lw l)).reverse
noncomputable def bothP (a b : List (BitVec 32)) (x : BitVec 32) : Bool := decide (rkW a x = pop x) && decide (rkW b x = pop x)
def commonE (a b : List (BitVec 32)) : Int := if lotsCheck a ≠ 0 then lotsCheck a else if lotsCheck b ≠ 0 then lotsCheck b else if a.length ≠ b.length then 3 else 0

set_option maxRecDepth 100000 in
set_option maxHeartbeats 2000000 in
theorem lots_Common (A B : Option Addr) (n c m d : Nat) (a b : List (BitVec 32)) (w : World) (ha : a.length = n) (hb : b.length = m) (hn : n ≤ maxLen) (hm : m ≤ maxLen) (hra : Els w w.heap.size 1 wcell A a) (hrb : Els w w.heap.size 1 wcell B b) (htab : TabOk w) :
    Calls Tryd.prog 30 #[.slice A n c, .slice B m d] w fun e w' => ∃ (x : BitVec 32) (er : Int), e = .returned (.tuple #[.int .u32 (wN x), .int .i64 er]) ∧ Below w.heap.size w w' ∧ (commonE a b ≠ 0 → x = w0 ∧ er = commonE a b) ∧ (commonE a b = 0 → x = cmn (bothP a b) (2 ^ n) ∧ er = 0) := by
  have HA := Lib.hid ha
  have HB := Lib.hid hb
  have HRA := Lib.hid hra
  have HRB := Lib.hid hrb
  have HT := Lib.hid htab
  have HE : Hid (commonE a b = if lotsCheck a ≠ 0 then lotsCheck a else if lotsCheck b ≠ 0 then lotsCheck b else if n ≠ m then 3 else 0) := by subst ha hb; rfl
  have HCA := fun (w1 : World) (h : Below w.heap.size w w1) => Lib.hid (lots_check A n c a w1 ha hn ((hra.below h).more h.size))
  have HCB := fun (w1 : World) (h : Below w.heap.size w w1) => Lib.hid (lots_check B m d b w1 hb hm ((hrb.below h).more h.size))
  clear ha hb hra hrb htab
  have i0 : ∀ w, (Instr.index 92 (.agg #[.slice A n c, .slice B m d]) (.int .i64 0)).run Tryd.prog w = .ok (.slice A n c) w := fun _ => by kernel_rfl
  have i1 : ∀ w, (Instr.index 92 (.agg #[.slice A n c, .slice B m d]) (.int .i64 1)).run Tryd.prog w = .ok (.slice B m d) w := fun _ => by kernel_rfl
  go_enter Tryd.func30, Tryd.ntmps30
  go_wp2_with fail
  go_loopw [15] (fun i wr => ∃ k : Nat, k ≤ 2 ∧ i = .int .i64 k ∧ (1 ≤ k → lotsCheck a = 0) ∧ (2 ≤ k → lotsCheck b = 0) ∧ Below w.heap.size w wr) (fun i _ => 2 - (intOf i).toNat)
  case atStart => exact ⟨0, by omega, rfl, fun h => absurd h (by omega), fun h => absurd h (by omega), Below.refl _ _⟩
  case round =>
    rename World => wr
    obtain ⟨k, hk, rfl, h1, h2, hbw⟩ := hrel
    have HBW := Lib.hid hbw
    have hz := hbw.size
    obtain rfl | rfl | rfl : k = 0 ∨ k = 1 ∨ k = 2 := by omega
    · have HC := HCA wr hbw
      clear hbw
      go_wp2_with fail
      refine HC.out.mono ?_
      clear HC
      rintro e w1 ⟨rfl, hb1⟩
      have HB1 := Lib.hid (HBW.out.trans (hb1.mono hz))
      clear hb1
      by_cases h0 : lotsCheck a = 0
      · have H0 := Lib.hid h0
        rw [h0]
        clear h0
        go_wp2_with fail
        go_roundw
        case rel => exact ⟨1, by omega, rfl, fun _ => H0.out, fun h => absurd h (by omega), HB1.out⟩
        case measure => simp [intOf]
      · have hq : (lotsCheck a != 0) = true := by simpa using h0
        have H0 := Lib.hid h0
        obtain ⟨y, hy⟩ : ∃ y, y = lotsCheck a := ⟨_, rfl⟩
        rw [← hy] at hq ⊢
        have HY := Lib.hid hy
        clear h0 hy
        go_wp2_with fail
        refine bodyPost_ret (v := .tuple #[.int .u32 0, .int .i64 y]) (by simp [results, Tryd.results30, go_sem]) rfl ?_
        refine ⟨w0, y, rfl, HB1.out, fun _ => ⟨rfl, by rw [HE.out, if_pos H0.out]; exact HY.out⟩, fun h => ?_⟩
        rw [HE.out, if_pos H0.out] at h
        exact absurd h H0.out
    · have HC := HCB wr hbw
      have H1 := Lib.hid (h1 (by omega))
      clear hbw
      go_wp2_with fail
      refine HC.out.mono ?_
      clear HC
      rintro e w1 ⟨rfl, hb1⟩
      have HB1 := Lib.hid (HBW.out.trans (hb1.mono hz))
      clear hb1
      by_cases h0 : lotsCheck b = 0
      · have H0 := Lib.hid h0
        rw [h0]
        clear h0
        go_wp2_with fail
        go_roundw
        case rel => exact ⟨2, by omega, rfl, fun _ => H1.out, fun _ => H0.out, HB1.out⟩
        case measure => simp [intOf]
      · have hq : (lotsCheck b != 0) = true := by simpa using h0
        have H0 := Lib.hid h0
        obtain ⟨y, hy⟩ : ∃ y, y = lotsCheck b := ⟨_, rfl⟩
        rw [← hy] at hq ⊢
        have HY := Lib.hid hy
        clear h0 hy
        go_wp2_with fail
        refine bodyPost_ret (v := .tuple #[.int .u32 0, .int .i64 y]) (by simp [results, Tryd.results30, go_sem]) rfl ?_
        have he : commonE a b = lotsCheck b := by rw [HE.out, if_neg (by rw [H1.out]; simp), if_pos H0.out]
        exact ⟨w0, y, rfl, HB1.out, fun _ => ⟨rfl, by rw [he]; exact HY.out⟩, fun h => absurd (he ▸ h) H0.out⟩
    · have HZA := Lib.hid (h1 (by omega))
      have HZB := Lib.hid (h2 (by omega))
      have h10 := lotsCheck_n HZA.out
      rw [HA.out] at h10
      have h10b := lotsCheck_n HZB.out
      rw [HB.out] at h10b
      clear hbw
      rw [show ((2 : Nat) : Int) = 2 from rfl]
      by_cases hnm : n = m
      · subst hnm
        have HE0 : Hid (commonE a b = 0) := Lib.hid (by rw [HE.out, if_neg (by rw [HZA.out]; simp), if_neg (by rw [HZB.out]; simp), if_neg (by simp)])
        have hP1 : 2 ^ n ≤ 1024 := Nat.le_trans (Nat.pow_le_pow_right (by omega) h10) (by omega)
        have hlim : wN (wShl w1 n) = ((2 ^ n : Nat) : Int) := by unfold wN; rw [wN_shl1 (by omega)]
        obtain ⟨P, hP⟩ : ∃ P, P = 2 ^ n := ⟨_, rfl⟩
        rw [← hP] at hP1 hlim
        have HLIM := Lib.hid hlim
        have HP := Lib.hid hP
        clear hP hlim
        go_wp2_with fail
        go_loopw [32, 9] (fun i s wx => ∃ k : Nat, k ≤ P ∧ i = .int .u32 (wN (nw k)) ∧ s = .int .u32 (wN (cmn (bothP a b) k)) ∧ Below w.heap.size w wx) (fun i _ _ => P - (intOf i).toNat)
        case atStart => exact ⟨0, by omega, rfl, rfl, HBW.out⟩
        case round =>
          clear HBW
          rename World => wx
          obtain ⟨k, hk, rfl, rfl, hbx⟩ := hrel
          have hkw := wN_nw (k := k) (by omega)
          have hkw1 := wN_nw (k := k + 1) (by omega)
          have HKW := Lib.hid hkw
          have HKW1 := Lib.hid hkw1
          have HSU := Lib.hid (nw_succ k)
          have HB1 := Lib.hid hbx
          have hsz := hbx.size
          by_cases hlt : k < P
          · have hlt' : wN (nw k) < wN (wShl w1 n) := by rw [hkw, HLIM.out]; omega
            have HWS : Hid (cmn (bothP a b) (k + 1) = if pop (cmn (bothP a b) k) < pop (nw k) ∧ bothP a b (nw k) = true then nw k else cmn (bothP a b) k) := Lib.hid rfl
            have hnwlt : (nw k).toNat < 2 ^ n := by rw [← HP.out]; unfold wN at hkw; omega
            have HRK := fun (X : Option Addr) (cc : Nat) (l : List (BitVec 32)) (w1 : World) (hl : l.length = n) (hr : Els w w.heap.size 1 wcell X l) (h : Below w.heap.size w w1) =>
              Lib.hid (lots_rank X n cc l (nw k) w1 hl (by omega) ((hr.below h).more h.size) (HT.out.below h HT.out.1) (bits_below hnwlt))
            obtain ⟨y, hy⟩ : ∃ y, y = cmn (bothP a b) k := ⟨_, rfl⟩
            obtain ⟨x, hx⟩ : ∃ x, x = nw k := ⟨_, rfl⟩
            have HBP : Hid (bothP a b x = (decide (rkW a x = pop x) && decide (rkW b x = pop x))) := Lib.hid rfl
            rw [← hx] at hlt' HRK ⊢
            rw [← hy] at ⊢
            have HX := Lib.hid hx
            have HY := Lib.hid hy
            obtain ⟨px, hpx⟩ : ∃ p, p = pop x := ⟨_, rfl⟩
            obtain ⟨py, hpy⟩ : ∃ p, p = pop y := ⟨_, rfl⟩
            obtain ⟨ra, hra⟩ : ∃ p, p = rkW a x := ⟨_, rfl⟩
            obtain ⟨rb, hrb⟩ : ∃ p, p = rkW b x := ⟨_, rfl⟩
            have HPX := Lib.hid hpx
            have HPY := Lib.hid hpy
            have HRAK := Lib.hid hra
            have HRBK := Lib.hid hrb
            have skip : ¬ (py < px ∧ ra = px ∧ rb = px) → cmn (bothP a b) (k + 1) = y := fun h => by
              rw [HWS.out, ← HX.out, ← HY.out, if_neg (fun hh => h ?_)]
              obtain ⟨h1, h2⟩ := hh
              rw [HBP.out, Bool.and_eq_true, decide_eq_true_iff, decide_eq_true_iff] at h2
              rw [HPX.out, HPY.out, HRAK.out, HRBK.out]
              exact ⟨h1, h2⟩
            have take : (py < px ∧ ra = px ∧ rb = px) → cmn (bothP a b) (k + 1) = x := fun h => by
              rw [HPX.out, HPY.out, HRAK.out, HRBK.out] at h
              rw [HWS.out, ← HX.out, ← HY.out, if_pos ⟨h.1, by rw [HBP.out, Bool.and_eq_true, decide_eq_true_iff, decide_eq_true_iff]; exact h.2⟩]
            have HSK := Lib.hid skip
            have HTK := Lib.hid take
            have eRA : rk ((bitsL x).map (lw a)).reverse = ra := hra.symm
            have eRB : rk ((bitsL x).map (lw b)).reverse = rb := hrb.symm
            have ERA := Lib.hid eRA
            have ERB := Lib.hid eRB
            clear hx hy hpx hpy hkw hkw1 hbx skip take hra hrb eRA eRB hnwlt
            go_wp2_with fail
            refine (OnesCount32_any _ _).mono ?_
            rintro e w' ⟨rfl, q1, rfl⟩
            rw [← HPX.out]
            go_wp2_with fail
            refine (OnesCount32_any _ _).mono ?_
            rintro e w' ⟨rfl, q2, rfl⟩
            rw [← HPY.out]
            have hb2 := below_drewN HB1.out (q1 + q2)
            have HB2 := Lib.hid hb2
            by_cases hlt2 : py < px
            · have HK := HRK A c a _ HA.out HRA.out hb2
              clear hb2
              go_wp2_with fail
              refine HK.out.mono ?_
              clear HK
              rintro e w3 ⟨rfl, hb3⟩
              rw [ERA.out]
              have hb4 := HB2.out.trans (hb3.mono HB2.out.size)
              have HB4 := Lib.hid hb4
              by_cases hra : ra = px
              · have HK := HRK B d b _ HB.out HRB.out hb4
                have HT2 : Hid (rb = ra → cmn (bothP a b) (k + 1) = x) := Lib.hid (fun h => HTK.out ⟨hlt2, hra, h.trans hra⟩)
                have HS2 : Hid (rb ≠ ra → cmn (bothP a b) (k + 1) = y) := Lib.hid (fun h => HSK.out (fun hh => h (hh.2.2.trans hra.symm)))
                clear hb3 hb4 HSK HTK
                subst hra
                go_wp2_with fail
                refine HK.out.mono ?_
                clear HK
                rintro e w5 ⟨rfl, hb5⟩
                rw [ERB.out]
                have HB5 := Lib.hid (HB4.out.trans (hb5.mono HB4.out.size))
                clear hb5
                by_cases hrb : rb = ra
                · have HT3 := Lib.hid (HT2.out hrb)
                  clear HT2 HS2
                  subst hrb
                  go_wp2_with fail
                  go_roundw
                  case rel => exact ⟨k + 1, by omega, by rw [HX.out, HSU.out], by rw [HT3.out], HB5.out⟩
                  case measure => rw [HX.out, HSU.out]; simp [intOf]; rw [HKW.out, HKW1.out]; omega
                · go_wp2_with fail
                  go_roundw
                  case rel => exact ⟨k + 1, by omega, by rw [HX.out, HSU.out], by rw [HS2.out hrb], HB5.out⟩
                  case measure => rw [HX.out, HSU.out]; simp [intOf]; rw [HKW.out, HKW1.out]; omega
              · clear hb3 hb4
                go_wp2_with fail
                go_roundw
                case rel => exact ⟨k + 1, by omega, by rw [HX.out, HSU.out], by rw [HSK.out (fun h => hra h.2.1)], HB4.out⟩
                case measure => rw [HX.out, HSU.out]; simp [intOf]; rw [HKW.out, HKW1.out]; omega
            · clear hb2
              go_wp2_with fail
              go_roundw
              case rel => exact ⟨k + 1, by omega, by rw [HX.out, HSU.out], by rw [HSK.out (fun h => hlt2 h.1)], HB2.out⟩
              case measure => rw [HX.out, HSU.out]; simp [intOf]; rw [HKW.out, HKW1.out]; omega
          · obtain rfl : k = P := by omega
            have hge : ¬ wN (nw k) < wN (wShl w1 n) := by rw [hkw, HLIM.out]; omega
            obtain ⟨y, hy⟩ : ∃ y, y = cmn (bothP a b) k := ⟨_, rfl⟩
            rw [← hy]
            have HY := Lib.hid hy
            clear hy hkw hkw1 hbx
            go_wp2_with fail
            refine bodyPost_ret (v := .tuple #[.int .u32 (wN y), .int .i64 0]) (by simp [results, Tryd.results30, go_sem]) rfl ?_
            exact ⟨y, 0, rfl, HB1.out, fun h => absurd HE0.out h, fun _ => ⟨by rw [← HP.out]; exact HY.out, rfl⟩⟩
      · have he : commonE a b = 3 := by rw [HE.out, if_neg (by rw [HZA.out]; simp), if_neg (by rw [HZB.out]; simp), if_pos hnm]
        have HE3 := Lib.hid he
        clear he
        go_wp2_with fail
        refine bodyPost_ret (v := .tuple #[.int .u32 0, .int .i64 3]) (by simp [results, Tryd.results30, go_sem]) rfl ?_
        refine ⟨w0, 3, rfl, HBW.out, fun _ => ⟨rfl, HE3.out.symm⟩, fun h => ?_⟩
        rw [HE3.out] at h
        cases h
end Go.Proofs.YtnpcbbdfpbnakaaDoor
