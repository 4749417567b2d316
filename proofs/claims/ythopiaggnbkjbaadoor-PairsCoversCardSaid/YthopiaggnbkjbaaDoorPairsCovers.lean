/- The smallest cover: what both searches compute; the statement's walk. Conditions: the words read as a list; the table. -/
import Derived.Test.YthopiaggnbkjbaaDoorPairsA
import Derived.Test.YthopiaggnbkjbaaDoorPairsCovP
import Derived.Test.YthopiaggnbkjbaaDoorOpen
namespace Go.Proofs.YthopiaggnbkjbaaDoor
open Go.RowKit
attribute [local go_sem ↓] w_and w_or w_xor w_andNot w_and1 w_and255 w_xor1 w_or0 w_shl w_shl1 w_shr w_sub w_add w_sub1 w_add1
attribute [local go_sem] w_eq0 w_ne0 w_eq1 w_eq w_ne

theorem pow_to_256 {N : Nat} (hN : N ≤ 8) : 2 ^ N ≤ 256 := by
  have := Nat.pow_le_pow_right (show 0 < 2 by omega) hN
  simpa using this
theorem but_below {n : Nat} (hn : n ≤ 8) (s : BitVec 32) : ∀ j ∈ bitsL (wBut (maskW n) s), j < n := fun j hj => by
  have := mem_bitsL.1 hj
  rw [b_but, b_mask (by omega)] at this
  rcases Nat.lt_or_ge j n with h | h
  · exact h
  · have h' : ¬ j < n := by omega
    simp [h'] at this

set_option maxRecDepth 100000 in
set_option maxHeartbeats 1000000 in
theorem pairs_Cover (A : Option Addr) (n c : Nat) (l : List (BitVec 32)) (w : World) (hl : l.length = n) (hn : n ≤ maxLen) (hr : Els w w.heap.size 1 wcell A l) (htab : TabOk w) :
    Calls Tryd.prog 19 #[.slice A n c] w fun e w' => ∃ r q, e = .returned (.tuple #[.int .u32 (wN r), .int .u32 (wN q), .int .i64 (pairsCheck l)]) ∧ Below w.heap.size w w' ∧
      (pairsCheck l ≠ 0 → r = w0 ∧ q = w0) ∧ (pairsCheck l = 0 → r = (bstC l n (2 ^ n)).1 ∧ q = rest l n (bstC l n (2 ^ n)).1) := by
  have HCK := Lib.hid (pairs_check A n c l w hl hn hr)
  have HL := Lib.hid hl
  have HM := Lib.hid hn
  have HR := Lib.hid hr
  have HTB := Lib.hid htab
  have h8 : pairsCheck l = 0 → n ≤ 8 := fun h => by
    unfold pairsCheck at h
    rw [hl] at h
    by_cases h8 : 8 < n
    · rw [if_pos h8] at h; cases h
    · omega
  have HB0 := Lib.hid htab.1
  clear hl hn hr htab
  go_enter Tryd.func19, Tryd.ntmps19
  go_wp2_with fail
  refine HCK.out.mono ?_
  clear HCK
  rintro e v1 ⟨rfl, hb1⟩
  have HB1 := Lib.hid hb1
  clear hb1
  by_cases h0 : pairsCheck l = 0
  · have hm := h8 h0
    have H0 := Lib.hid h0
    rw [h0]
    clear h0 h8
    have hP1 := pow_to_256 hm
    have hlim : wN (wAdd (wSub (wShl w1 n) w1) w1) = (2 ^ n : Nat) := by
      have e : wAdd (wSub (wShl w1 n) w1) w1 = wShl w1 n := by
        unfold wAdd wSub
        exact BitVec.sub_add_cancel _ _
      rw [e, wN_pow (by omega)]
    obtain ⟨P, hP⟩ : ∃ P, P = 2 ^ n := ⟨_, rfl⟩
    have HP := Lib.hid hP
    have HLIM : Hid (wN (wAdd (wSub (wShl w1 n) w1) w1) = (P : Int)) := by
      show wN (wAdd (wSub (wShl w1 n) w1) w1) = (P : Int)
      rw [hlim, hP]
    rw [← hP] at hP1
    clear hP hlim
    go_wp2_with fail
    go_loopw [26, 7, 8] (fun i s m wr => ∃ k : Nat, k ≤ P ∧ i = .int .u32 (wN (nw k)) ∧ s = .int .u32 (wN (bstC l n k).1) ∧ m = .int .i64 (bstC l n k).2 ∧ -1 ≤ (bstC l n k).2 ∧ (bstC l n k).2 ≤ 100 ∧ Below w.heap.size w wr) (fun i _ _ _ => P - (intOf i).toNat)
    case atStart => exact ⟨0, by omega, rfl, rfl, rfl, by show (-1 : Int) ≤ (n : Int) + 8 + 1; omega, by show (n : Int) + 8 + 1 ≤ 100; omega, HB1.out⟩
    case round =>
      obtain ⟨k, hk, rfl, rfl, rfl, hlo, hhi, hb⟩ := hrel
      have hkw := wN_nw (k := k) (by omega)
      have hkw1 := wN_nw (k := k + 1) (by omega)
      have HKW := Lib.hid hkw
      have HKW1 := Lib.hid hkw1
      have HSU := Lib.hid (nw_succ k)
      have HB := Lib.hid hb
      have hsz := hb.size
      obtain ⟨y, hy⟩ : ∃ y, y = (bstC l n k).1 := ⟨_, rfl⟩
      obtain ⟨my, hmy⟩ : ∃ p, p = (bstC l n k).2 := ⟨_, rfl⟩
      have HBS : Hid (bstC l n (k + 1) = if (pop (nw k) : Int) + pop (rest l n (nw k)) < (bstC l n k).2 then (nw k, (pop (nw k) : Int) + pop (rest l n (nw k))) else bstC l n k) := Lib.hid rfl
      rw [← hy]
      rw [← hmy] at hlo hhi ⊢
      have HY := Lib.hid hy
      have HMY := Lib.hid hmy
      clear hy hmy
      by_cases hlt : k < P
      · have hlt' : wN (nw k) < wN (wAdd (wSub (wShl w1 n) w1) w1) := by rw [hkw, HLIM.out]; omega
        have HRT : Hid (∀ w' : World, Below w.heap.size w w' → Calls Tryd.prog 44 #[.slice A n c, .int .u32 (wN (wBut (wSub (wShl w1 n) w1) (nw k)))] w' fun e w'' => e = .returned (.int .u32 (wN (rest l n (nw k)))) ∧ Below w'.heap.size w' w'') :=
          fun w' hb' => pairs_right A n c w.heap.size l (wBut (maskW n) (nw k)) w' HL.out HM.out (HR.out.below hb') hb'.size (HTB.out.below hb' HB0.out) (but_below hm _)
        obtain ⟨x, hx⟩ : ∃ x, x = nw k := ⟨_, rfl⟩
        rw [← hx] at hlt' HRT HBS ⊢
        have HX := Lib.hid hx
        have p1 := pop_le x
        have p2 := pop_le (rest l n x)
        obtain ⟨px, hpx⟩ : ∃ p, p = pop x := ⟨_, rfl⟩
        obtain ⟨pz, hpz⟩ : ∃ p, p = pop (rest l n x) := ⟨_, rfl⟩
        rw [← hpx] at p1 HBS
        rw [← hpz] at p2 HBS
        have HPX := Lib.hid hpx
        have HPZ := Lib.hid hpz
        clear hx hpx hpz hkw hkw1 hb
        go_wp2_with fail
        refine (OnesCount32_any _ _).mono ?_
        rintro e w' ⟨rfl, q1, rfl⟩
        rw [← HPX.out]
        go_wp2_with fail
        refine (HRT.out _ (below_drewN HB.out q1)).mono ?_
        rintro e w3 ⟨rfl, hb3⟩
        have HB3 := Lib.hid ((below_drewN HB.out q1).trans (hb3.mono (by exact hsz)))
        clear hb3
        go_wp2_with fail
        refine (OnesCount32_any _ _).mono ?_
        rintro e w' ⟨rfl, q2, rfl⟩
        rw [← HPZ.out]
        by_cases hcmp : (px : Int) + pz < my
        · have HS1 : Hid (bstC l n (k + 1) = (x, (px : Int) + pz)) := by rw [HBS.out, if_pos (by rw [← HMY.out]; exact hcmp)]; exact Lib.hid rfl
          go_wp2_with fail
          go_roundw
          case rel => exact ⟨k + 1, by omega, by rw [HX.out, HSU.out], by rw [HS1.out], by rw [HS1.out], by rw [HS1.out]; simp only; omega, by rw [HS1.out]; simp only; omega, below_drewN HB3.out q2⟩
          case measure => rw [HX.out, HSU.out]; simp [intOf]; rw [HKW.out, HKW1.out]; omega
        · have HS1 : Hid (bstC l n (k + 1) = bstC l n k) := by rw [HBS.out, if_neg (by rw [← HMY.out]; exact hcmp)]; exact Lib.hid rfl
          go_wp2_with fail
          go_roundw
          case rel => exact ⟨k + 1, by omega, by rw [HX.out, HSU.out], by rw [HS1.out, HY.out], by rw [HS1.out, HMY.out], by rw [HS1.out, ← HMY.out]; omega, by rw [HS1.out, ← HMY.out]; omega, below_drewN HB3.out q2⟩
          case measure => rw [HX.out, HSU.out]; simp [intOf]; rw [HKW.out, HKW1.out]; omega
      · obtain rfl : k = P := by omega
        have hge : ¬ wN (nw k) < wN (wAdd (wSub (wShl w1 n) w1) w1) := by rw [hkw, HLIM.out]; omega
        have HRT : Hid (Calls Tryd.prog 44 #[.slice A n c, .int .u32 (wN (wBut (wSub (wShl w1 n) w1) y))] wr fun e w'' => e = .returned (.int .u32 (wN (rest l n y))) ∧ Below wr.heap.size wr w'') :=
          pairs_right A n c w.heap.size l (wBut (maskW n) y) wr HL.out HM.out (HR.out.below HB.out) hsz (HTB.out.below HB.out HB0.out) (but_below hm _)
        clear hkw hkw1 hb HBS
        go_wp2_with fail
        refine HRT.out.mono ?_
        clear HRT
        rintro e w3 ⟨rfl, hb3⟩
        have HB3 := Lib.hid (HB.out.trans (hb3.mono hsz))
        obtain ⟨z, hz⟩ : ∃ z, z = rest l n y := ⟨_, rfl⟩
        rw [← hz]
        have HZ := Lib.hid hz
        clear hb3 hz
        go_wp2_with fail
        refine bodyPost_ret (v := .tuple #[.int .u32 (wN y), .int .u32 (wN z), .int .i64 0]) (by simp [results, Tryd.results19, go_sem]) rfl ?_
        exact ⟨y, z, by rw [H0.out], HB3.out, fun h => absurd H0.out h, fun _ => by rw [← HP.out, ← HY.out]; exact ⟨rfl, HZ.out⟩⟩
  · have h1 : (pairsCheck l != 0) = true := by simpa using h0
    have H0 := Lib.hid h0
    obtain ⟨x, hx⟩ : ∃ x, x = pairsCheck l := ⟨_, rfl⟩
    rw [← hx] at h1 ⊢
    have HX := Lib.hid hx
    clear h0 hx h8
    go_wp2_with fail
    refine bodyPost_ret (v := .tuple #[.int .u32 0, .int .u32 0, .int .i64 x]) (by simp [results, Tryd.results19, go_sem]) rfl ?_
    exact ⟨w0, w0, by rw [HX.out]; rfl, HB1.out, fun _ => ⟨rfl, rfl⟩, fun h => absurd h H0.out⟩

set_option maxRecDepth 100000 in
theorem ref_Covers (A : Option Addr) (n c B : Nat) (l : List (BitVec 32)) (s y : BitVec 32) (w : World) (hl : l.length = n) (hn : n ≤ maxLen) (hr : Els w B 1 wcell A l) :
    Calls Tryd.prog 47 #[.slice A n c, .int .u32 (wN s), .int .u32 (wN y)] w fun e w' => e = .returned (.bool (covsTo l s y n)) ∧ w = w' := by
  have HL := Lib.hid hl
  clear hl
  unfold maxLen at hn
  have hstep : ∀ k, covsTo l s y (k + 1) = (covsTo l s y k && (bitB s k || (wBut (lw l k) y == w0))) := fun k => by
    unfold covsTo
    rw [List.range_succ, List.all_append]
    simp
  have hfalse : ∀ k, k < n → (bitB s k || (wBut (lw l k) y == w0)) = false → covsTo l s y n = false := fun k hk h => by
    unfold covsTo
    rw [List.all_eq_false]
    exact ⟨k, List.mem_range.2 hk, by rw [h]; simp⟩
  have HST := Lib.hid hstep
  have HFL := Lib.hid hfalse
  clear hstep hfalse
  go_enter Tryd.func47, Tryd.ntmps47
  go_wp2_with fail
  go_loop [11] (fun i => ∃ k : Nat, k ≤ n ∧ i = .int .i64 k ∧ covsTo l s y k = true) (fun i => n - (intOf i).toNat)
  case atStart => exact ⟨0, by omega, rfl, rfl⟩
  case round =>
    obtain ⟨k, hk, rfl, hc⟩ := hrel
    have HC := Lib.hid hc
    clear hc
    by_cases hlt : k < n
    · have hkl : k < l.length := by rw [HL.out]; exact hlt
      obtain ⟨b, off, rfl, hbb, g0⟩ := hr.at1 hkl
      rw [← lw_at l k hkl] at g0
      have HS := Lib.hid (HST.out k)
      have HF := Lib.hid (HFL.out k hlt)
      obtain ⟨x, hx⟩ : ∃ x, x = lw l k := ⟨_, rfl⟩
      rw [← hx] at g0 HS HF
      clear hx
      rcases hb : bitB s k with _ | _
      · have HB := Lib.hid hb
        rcases hz : (wBut x y != w0) with _ | _
        · have HZ : Hid ((wBut x y == w0) = true) := Lib.hid (by simpa using hz)
          clear hb
          go_wp2_with fail
          refine (Bit_any s k _).mono ?_
          rintro e w' ⟨rfl, rfl⟩
          rw [HB.out]
          go_wp2_with fail
          go_round
          case rel => exact ⟨k + 1, by omega, by go_num, by rw [HS.out, HC.out, HB.out, HZ.out]; rfl⟩
          case measure => simp [intOf]; omega
        · have HZ : Hid ((wBut x y == w0) = false) := Lib.hid (by simpa using hz)
          clear hb
          go_wp2_with fail
          refine (Bit_any s k _).mono ?_
          rintro e w' ⟨rfl, rfl⟩
          rw [HB.out]
          go_wp2_with fail
          go_ret
          exact ⟨ret_bool (HF.out (by rw [HB.out, HZ.out]; rfl)).symm, rfl⟩
      · have HB := Lib.hid hb
        clear hb
        go_wp2_with fail
        refine (Bit_any s k _).mono ?_
        rintro e w' ⟨rfl, rfl⟩
        rw [HB.out]
        go_wp2_with fail
        go_round
        case rel => exact ⟨k + 1, by omega, by go_num, by rw [HS.out, HC.out, HB.out]; rfl⟩
        case measure => simp [intOf]; omega
    · obtain rfl : k = n := by omega
      go_wp2_with fail
      go_ret
      exact ⟨ret_bool HC.out.symm, rfl⟩

set_option maxRecDepth 100000 in
set_option maxHeartbeats 1000000 in
theorem ref_Cover (A : Option Addr) (n c : Nat) (l : List (BitVec 32)) (w : World) (hl : l.length = n) (hm : n ≤ 8) (hr : Els w w.heap.size 1 wcell A l) :
    Calls Tryd.prog 20 #[.slice A n c] w fun e w' => e = .returned (.tuple #[.int .u32 (wN (outC l n (2 ^ n)).1), .int .u32 (wN (outC l n (2 ^ n)).2)]) ∧ w = w' := by
  have HL := Lib.hid hl
  clear hl
  have hP1 := pow_to_256 hm
  have hlim := wN_pow (n := n) (by omega)
  obtain ⟨P, hP⟩ : ∃ P, P = 2 ^ n := ⟨_, rfl⟩
  have HP := Lib.hid hP
  have HLIM : Hid (wN (wShl w1 n) = (P : Int)) := by
    show wN (wShl w1 n) = (P : Int)
    rw [hlim, hP]
  rw [← hP] at hP1 ⊢
  clear hP hlim
  go_enter Tryd.func20, Tryd.ntmps20
  go_wp2_with fail
  go_loop [6, 4, 5] (fun i a b => ∃ k : Nat, k ≤ P ∧ i = .int .u32 (wN (nw k)) ∧ a = .int .u32 (wN (outC l n k).1) ∧ b = .int .u32 (wN (outC l n k).2)) (fun i _ _ => P - (intOf i).toNat)
  case atStart => exact ⟨0, by omega, rfl, rfl, rfl⟩
  case round =>
    obtain ⟨k, hk, rfl, rfl, rfl⟩ := hrel
    have hkw := wN_nw (k := k) (by omega)
    have hkw1 := wN_nw (k := k + 1) (by omega)
    have HKW := Lib.hid hkw
    have HKW1 := Lib.hid hkw1
    have HSU := Lib.hid (nw_succ k)
    by_cases hlt : k < P
    · have hlt' : wN (nw k) < wN (wShl w1 n) := by rw [hkw, HLIM.out]; omega
      have HOS : Hid (outC l n (k + 1) = innC l n (nw k) (outC l n k) 256) := Lib.hid rfl
      obtain ⟨ab, hab⟩ : ∃ p, p = outC l n k := ⟨_, rfl⟩
      obtain ⟨x, hx⟩ : ∃ x, x = nw k := ⟨_, rfl⟩
      rw [← hx] at hlt' HOS ⊢
      rw [← hab] at HOS ⊢
      have HX := Lib.hid hx
      clear hx hab hkw hkw1
      go_wp2_with fail
      go_loop [7, 4, 5] (fun j a b => ∃ k : Nat, k ≤ 256 ∧ j = .int .u32 (wN (nw k)) ∧ a = .int .u32 (wN (innC l n x ab k).1) ∧ b = .int .u32 (wN (innC l n x ab k).2)) (fun i _ _ => 256 - (intOf i).toNat)
      case atStart => exact ⟨0, by omega, rfl, rfl, rfl⟩
      case round =>
        obtain ⟨j, hj, rfl, rfl, rfl⟩ := hrel
        have hjw := wN_nw (k := j) (by omega)
        have hjw1 := wN_nw (k := j + 1) (by omega)
        have HJW := Lib.hid hjw
        have HJW1 := Lib.hid hjw1
        have HSJ := Lib.hid (nw_succ j)
        by_cases hlj : j < 256
        · have hlj' : wN (nw j) < 256 := by rw [hjw]; omega
          have HIS : Hid (innC l n x ab (j + 1) = if pop x + pop (nw j) < pop (innC l n x ab j).1 + pop (innC l n x ab j).2 ∧ covsTo l x (nw j) n = true then (x, nw j) else innC l n x ab j) := Lib.hid rfl
          have HCV := Lib.hid (ref_Covers A n c w.heap.size l x (nw j) w HL.out (by unfold maxLen; omega) hr)
          obtain ⟨a, ha⟩ : ∃ p, p = (innC l n x ab j).1 := ⟨_, rfl⟩
          obtain ⟨b, hb⟩ : ∃ p, p = (innC l n x ab j).2 := ⟨_, rfl⟩
          obtain ⟨y, hy⟩ : ∃ y, y = nw j := ⟨_, rfl⟩
          rw [← hy] at hlj' HIS HCV ⊢
          rw [← ha, ← hb] at HIS ⊢
          have HA := Lib.hid ha
          have HB := Lib.hid hb
          have HY := Lib.hid hy
          have p1 := pop_le x
          have p2 := pop_le y
          have p3 := pop_le a
          have p4 := pop_le b
          obtain ⟨q1, e1⟩ : ∃ p, p = pop x := ⟨_, rfl⟩
          obtain ⟨q2, e2⟩ : ∃ p, p = pop y := ⟨_, rfl⟩
          obtain ⟨q3, e3⟩ : ∃ p, p = pop a := ⟨_, rfl⟩
          obtain ⟨q4, e4⟩ : ∃ p, p = pop b := ⟨_, rfl⟩
          rw [← e1] at p1 HIS
          rw [← e2] at p2 HIS
          rw [← e3] at p3 HIS
          rw [← e4] at p4 HIS
          have E1 := Lib.hid e1
          have E2 := Lib.hid e2
          have E3 := Lib.hid e3
          have E4 := Lib.hid e4
          clear ha hb hy e1 e2 e3 e4 hjw hjw1
          go_wp2_with fail
          refine (Size_any _ _).mono ?_
          rintro e w' ⟨rfl, rfl⟩
          rw [← E1.out]
          go_wp2_with fail
          refine (Size_any _ _).mono ?_
          rintro e w' ⟨rfl, rfl⟩
          rw [← E2.out]
          go_wp2_with fail
          refine (Size_any _ _).mono ?_
          rintro e w' ⟨rfl, rfl⟩
          rw [← E3.out]
          go_wp2_with fail
          refine (Size_any _ _).mono ?_
          rintro e w' ⟨rfl, rfl⟩
          rw [← E4.out]
          by_cases hcmp : q1 + q2 < q3 + q4
          · rcases hcv : covsTo l x y n with _ | _
            · have HS1 : Hid (innC l n x ab (j + 1) = innC l n x ab j) := by rw [HIS.out, if_neg (fun h => by rw [hcv] at h; cases h.2)]; exact Lib.hid rfl
              rw [hcv] at HCV
              clear hcv
              go_wp2_with fail
              refine HCV.out.mono ?_
              rintro e w' ⟨rfl, rfl⟩
              go_wp2_with fail
              go_round
              case rel => exact ⟨j + 1, by omega, by rw [HY.out, HSJ.out], by rw [HS1.out, HA.out], by rw [HS1.out, HB.out]⟩
              case measure => rw [HY.out, HSJ.out]; simp [intOf]; rw [HJW.out, HJW1.out]; omega
            · have HS1 : Hid (innC l n x ab (j + 1) = (x, y)) := by rw [HIS.out, if_pos ⟨hcmp, hcv⟩]; exact Lib.hid rfl
              rw [hcv] at HCV
              clear hcv
              go_wp2_with fail
              refine HCV.out.mono ?_
              rintro e w' ⟨rfl, rfl⟩
              go_wp2_with fail
              go_round
              case rel => exact ⟨j + 1, by omega, by rw [HY.out, HSJ.out], by rw [HS1.out], by rw [HS1.out]⟩
              case measure => rw [HY.out, HSJ.out]; simp [intOf]; rw [HJW.out, HJW1.out]; omega
          · have HS1 : Hid (innC l n x ab (j + 1) = innC l n x ab j) := by rw [HIS.out, if_neg (fun h => hcmp h.1)]; exact Lib.hid rfl
            go_wp2_with fail
            go_round
            case rel => exact ⟨j + 1, by omega, by rw [HY.out, HSJ.out], by rw [HS1.out, HA.out], by rw [HS1.out, HB.out]⟩
            case measure => rw [HY.out, HSJ.out]; simp [intOf]; rw [HJW.out, HJW1.out]; omega
        · obtain rfl : j = 256 := by omega
          have hge : ¬ wN (nw 256) < 256 := by rw [hjw]; omega
          rw [← HOS.out]
          obtain ⟨z, hz⟩ : ∃ z, z = outC l n (k + 1) := ⟨_, rfl⟩
          rw [← hz]
          have HZ := Lib.hid hz
          clear hjw hjw1 hz
          go_wp2_with fail
          go_round
          case rel => exact ⟨k + 1, by omega, by rw [HX.out, HSU.out], by rw [HZ.out], by rw [HZ.out]⟩
          case measure => rw [HX.out, HSU.out]; simp [intOf]; rw [HKW.out, HKW1.out]; omega
    · obtain rfl : k = P := by omega
      have hge : ¬ wN (nw k) < wN (wShl w1 n) := by rw [hkw, HLIM.out]; omega
      clear hkw hkw1
      go_wp2_with fail
      refine bodyPost_ret (v := .tuple #[.int .u32 (wN (outC l n k).1), .int .u32 (wN (outC l n k).2)]) (by simp [results, Tryd.results20, go_sem]) rfl ?_
      exact ⟨rfl, rfl⟩

theorem cover_words {l : List (BitVec 32)} (h : pairsCheck l = 0) : l.length ≤ 8 ∧ ∀ i b, 8 ≤ b → (lw l i).getLsbD b = false := by
  unfold pairsCheck at h
  by_cases h8 : 8 < l.length
  · rw [if_pos h8] at h; cases h
  · rw [if_neg h8] at h
    by_cases hw : l.any wide8 = true
    · rw [if_pos hw] at h; cases h
    · refine ⟨by omega, fun i b hb => ?_⟩
      by_cases hi : i < l.length
      · have h1 := List.any_eq_false.1 (by simpa using hw) (l[i]) (List.getElem_mem hi)
        unfold wide8 at h1
        rw [shr_zero_iff] at h1
        rw [lw_at l i hi]
        exact bit_lt (n := 8) (by simpa using h1) hb
      · have : lw l i = w0 := by
          unfold lw
          simp [List.getD_eq_getElem?_getD, List.getElem?_eq_none (show l.length ≤ i by omega)]
        rw [this, b_0]

theorem law_PairsCovers (A : Option Addr) (n c : Nat) (l : List (BitVec 32)) (w : World) (htab : TabOk w) (hl : l.length = n) (hn : n ≤ maxLen) (hr : Els w w.heap.size 1 wcell A l) :
    Calls Tryd.prog 5 #[.slice A n c] w fun e w' => e = .returned (.bool true) ∧ Below w.heap.size w w' := by
  have HL := Lib.hid hl
  have HM := Lib.hid hn
  have HK := Lib.hid (pairs_Cover A n c l w hl hn hr htab)
  have HR := Lib.hid hr
  clear hl hn hr htab
  go_enter Tryd.func5, Tryd.ntmps5
  go_wp2_with fail
  refine HK.out.mono ?_
  clear HK
  rintro e w1 ⟨r, q, rfl, hb1, hne, he⟩
  have HB1 := Lib.hid hb1
  have hr1 := HR.out.below hb1
  have hsz := hb1.size
  clear hb1
  go_wp2_with fail
  refine (ref_PairsCheck A n c l _ HL.out HM.out (hr1.more hsz)).mono ?_
  rintro e w' ⟨rfl, rfl⟩
  by_cases h0 : pairsCheck l = 0
  · obtain ⟨h8, hw⟩ := cover_words h0
    have hm : n ≤ 8 := by rw [← HL.out]; exact h8
    obtain ⟨hr1', hq1'⟩ := he h0
    have hsame := cover_same l hm hw
    rw [← hq1', ← hr1'] at hsame
    have HRF := Lib.hid (ref_Cover A n c l w1 HL.out hm (hr1.more hsz))
    rw [hsame] at HRF
    rw [h0]
    clear he hne h0 hr1' hq1' hsame h8 hw
    go_wp2_with fail
    refine HRF.out.mono ?_
    rintro e w' ⟨rfl, rfl⟩
    go_wp2_with fail
    go_ret
    exact ⟨rfl, HB1.out⟩
  · have h1 : (pairsCheck l != 0) = true := by simpa using h0
    obtain ⟨rfl, rfl⟩ := hne h0
    obtain ⟨x, hx⟩ : ∃ x, x = pairsCheck l := ⟨_, rfl⟩
    rw [← hx] at h1 ⊢
    clear he hne h0 hx
    go_wp2_with fail
    go_ret
    exact ⟨rfl, HB1.out⟩
theorem PairsCovers_row (C : Sls Int) (W : World) (htab : TabOk W) (hC : C.Good W W.heap.size 1 (fun n : Int => [.int .u32 n]) OkU) :
    Calls Tryd.prog 5 #[C.val] W fun e w' => e = .returned (.bool true) ∧ Below W.heap.size W w' :=
  law_PairsCovers C.A C.l.length C.c (C.l.map wordOf) W htab (by simp) hC.1 (hC.2.2.1.map_ wordOf fun a ha => by rw [wcell, wN_wordOf (hC.2.2.2 a ha).1 (hC.2.2.2 a ha).2])
end Go.Proofs.YthopiaggnbkjbaaDoor
