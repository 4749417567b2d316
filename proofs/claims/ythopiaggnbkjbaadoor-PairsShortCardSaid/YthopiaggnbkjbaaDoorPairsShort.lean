/- The set that lacks the most: both searches compute the one function; the statement's walk. Conditions: the words read as a list; the table. -/
import Derived.Test.YthopiaggnbkjbaaDoorPairsA
import Derived.Test.YthopiaggnbkjbaaDoorCount
import Derived.Test.YthopiaggnbkjbaaDoorOpen
namespace Go.Proofs.YthopiaggnbkjbaaDoor
open Go.RowKit
attribute [local go_sem ↓] w_and w_or w_xor w_andNot w_and1 w_and255 w_xor1 w_or0 w_shl w_shl1 w_shr w_sub w_add w_sub1 w_add1
attribute [local go_sem] w_eq0 w_ne0 w_eq1 w_eq w_ne

theorem pow_le_256 {N : Nat} (hN : N ≤ 8) : 2 ^ N ≤ 256 := by
  have := Nat.pow_le_pow_right (show 0 < 2 by omega) hN
  simpa using this
theorem nw_below {k n : Nat} (hn : n ≤ 8) (hk : k < 2 ^ n) : ∀ j ∈ bitsL (nw k), j < n := bits_below (by
  have h := wN_nw (k := k) (by have := pow_le_256 hn; omega)
  unfold wN at h
  omega)
/-- How much a set lacks; the first one that lacks the most, of the first k. -/
def lack (l : List (BitVec 32)) (n : Nat) (s : BitVec 32) : Int := (pop s : Int) - pop (orTo l s n)
def worst (l : List (BitVec 32)) (n : Nat) : Nat → BitVec 32
  | 0 => w0
  | k + 1 => if lack l n (worst l n k) < lack l n (nw k) then nw k else worst l n k
theorem lack_0 (l : List (BitVec 32)) (n : Nat) : lack l n w0 = 0 := by
  have h0 : ∀ k, orTo l w0 k = w0 := fun k => by
    induction k with
    | zero => rfl
    | succ k ih => rw [orTo, if_neg (by rw [bitB_nat, b_0]; simp), ih]
  unfold lack
  rw [h0]
  omega
theorem lack_le (l : List (BitVec 32)) (n : Nat) (s : BitVec 32) : -32 ≤ lack l n s ∧ lack l n s ≤ 32 := by
  have := pop_le s
  have := pop_le (orTo l s n)
  unfold lack
  omega

set_option maxRecDepth 100000 in
set_option maxHeartbeats 1000000 in
theorem pairs_Short (A : Option Addr) (n c : Nat) (l : List (BitVec 32)) (w : World) (hl : l.length = n) (hn : n ≤ maxLen) (hr : Els w w.heap.size 1 wcell A l) (htab : TabOk w) :
    Calls Tryd.prog 16 #[.slice A n c] w fun e w' => ∃ r, e = .returned (.tuple #[.int .u32 (wN r), .int .i64 (pairsCheck l)]) ∧ Below w.heap.size w w' ∧ (pairsCheck l ≠ 0 → r = w0) ∧ (pairsCheck l = 0 → r = worst l n (2 ^ n)) := by
  have HCK := Lib.hid (pairs_check A n c l w hl hn hr)
  have HL := Lib.hid hl
  have HM := Lib.hid hn
  have HR := Lib.hid hr
  have HTB := Lib.hid htab
  have h8 : pairsCheck l = 0 → n ≤ 8 := fun h => by
    unfold pairsCheck at h
    rw [hl] at h
    by_cases h8 : 8 < n
    · rw [if_pos h8] at h; cases h
    · omega
  have HB0 := Lib.hid htab.1
  clear hl hn hr htab
  go_enter Tryd.func16, Tryd.ntmps16
  go_wp2_with fail
  refine HCK.out.mono ?_
  clear HCK
  rintro e v1 ⟨rfl, hb1⟩
  have HB1 := Lib.hid hb1
  clear hb1
  by_cases h0 : pairsCheck l = 0
  · have hm := h8 h0
    have H0 := Lib.hid h0
    rw [h0]
    clear h0 h8
    have hP1 := pow_le_256 hm
    have hlim := wN_pow (n := n) (by omega)
    obtain ⟨P, hP⟩ : ∃ P, P = 2 ^ n := ⟨_, rfl⟩
    have HP := Lib.hid hP
    have HLIM : Hid (wN (wShl w1 n) = (P : Int)) := by
      show wN (wShl w1 n) = (P : Int)
      rw [hlim, hP]
    rw [← hP] at hP1
    clear hP hlim
    go_wp2_with fail
    go_loopw [17, 5, 6] (fun i s m wr => ∃ k : Nat, k ≤ P ∧ i = .int .u32 (wN (nw k)) ∧ s = .int .u32 (wN (worst l n k)) ∧ m = .int .i64 (lack l n (worst l n k)) ∧ Below w.heap.size w wr) (fun i _ _ _ => P - (intOf i).toNat)
    case atStart => exact ⟨0, by omega, rfl, rfl, by show _ = Value.int .i64 (lack l n w0); rw [lack_0], HB1.out⟩
    case round =>
      obtain ⟨k, hk, rfl, rfl, rfl, hb⟩ := hrel
      have hkw := wN_nw (k := k) (by omega)
      have hkw1 := wN_nw (k := k + 1) (by omega)
      have HKW := Lib.hid hkw
      have HKW1 := Lib.hid hkw1
      have HSU := Lib.hid (nw_succ k)
      have HB := Lib.hid hb
      have hsz := hb.size
      by_cases hlt : k < P
      · have hlt' : wN (nw k) < wN (wShl w1 n) := by rw [hkw, HLIM.out]; omega
        have HWS : Hid (worst l n (k + 1) = if lack l n (worst l n k) < lack l n (nw k) then nw k else worst l n k) := Lib.hid rfl
        have HRT := Lib.hid (pairs_right A n c w.heap.size l (nw k))
        have HBE := Lib.hid (nw_below hm (by rw [← HP.out]; exact hlt))
        have hll := lack_le l n (worst l n k)
        obtain ⟨y, hy⟩ : ∃ y, y = worst l n k := ⟨_, rfl⟩
        obtain ⟨x, hx⟩ : ∃ x, x = nw k := ⟨_, rfl⟩
        rw [← hx] at hlt' HRT HBE ⊢
        rw [← hy] at hll ⊢
        have HX := Lib.hid hx
        have HY := Lib.hid hy
        have p1 := pop_le x
        have p2 := pop_le (orTo l x n)
        have hdef : lack l n x = (pop x : Int) - pop (orTo l x n) := rfl
        have HDEF := Lib.hid hdef
        obtain ⟨px, hpx⟩ : ∃ p, p = pop x := ⟨_, rfl⟩
        obtain ⟨pz, hpz⟩ : ∃ p, p = pop (orTo l x n) := ⟨_, rfl⟩
        obtain ⟨my, hmy⟩ : ∃ p, p = lack l n y := ⟨_, rfl⟩
        rw [← hpx] at p1 HDEF
        rw [← hpz] at p2 HDEF
        rw [← hmy] at hll ⊢
        have HPX := Lib.hid hpx
        have HPZ := Lib.hid hpz
        have HMY := Lib.hid hmy
        clear hx hy hpx hpz hmy hdef hkw hkw1 hb
        go_wp2_with fail
        refine (OnesCount32_any _ _).mono ?_
        rintro e w' ⟨rfl, q1, rfl⟩
        rw [← HPX.out]
        go_wp2_with fail
        refine (HRT.out _ HL.out HM.out ((HR.out.below HB.out).drewN q1) hsz ((HTB.out.below HB.out HB0.out).block (Nat.le_refl _) rfl) HBE.out).mono ?_
        rintro e w3 ⟨rfl, hb3⟩
        have HB3 := Lib.hid ((below_drewN HB.out q1).trans (hb3.mono (by exact hsz)))
        clear hb3
        go_wp2_with fail
        refine (OnesCount32_any _ _).mono ?_
        rintro e w' ⟨rfl, q2, rfl⟩
        rw [← HPZ.out]
        by_cases hcmp : my < (px : Int) - pz
        · go_wp2_with fail
          go_roundw
          case rel => exact ⟨k + 1, by omega, by rw [HX.out, HSU.out], by rw [HWS.out, ← HX.out, ← HY.out, if_pos (by rw [HDEF.out, ← HMY.out]; exact hcmp)], by rw [HWS.out, ← HX.out, ← HY.out, if_pos (by rw [HDEF.out, ← HMY.out]; exact hcmp), HDEF.out], below_drewN HB3.out q2⟩
          case measure => rw [HX.out, HSU.out]; simp [intOf]; rw [HKW.out, HKW1.out]; omega
        · go_wp2_with fail
          go_roundw
          case rel => exact ⟨k + 1, by omega, by rw [HX.out, HSU.out], by rw [HWS.out, ← HX.out, ← HY.out, if_neg (by rw [HDEF.out, ← HMY.out]; omega)], by rw [HWS.out, ← HX.out, ← HY.out, if_neg (by rw [HDEF.out, ← HMY.out]; omega), HMY.out], below_drewN HB3.out q2⟩
          case measure => rw [HX.out, HSU.out]; simp [intOf]; rw [HKW.out, HKW1.out]; omega
      · obtain rfl : k = P := by omega
        have hge : ¬ wN (nw k) < wN (wShl w1 n) := by rw [hkw, HLIM.out]; omega
        clear hkw hkw1 hb
        obtain ⟨y, hy⟩ : ∃ y, y = worst l n k := ⟨_, rfl⟩
        rw [← hy]
        have HY := Lib.hid hy
        clear hy
        go_wp2_with fail
        refine bodyPost_ret (v := .tuple #[.int .u32 (wN y), .int .i64 0]) (by simp [results, Tryd.results16, go_sem]) rfl ?_
        exact ⟨y, by rw [H0.out], HB.out, fun h => absurd H0.out h, fun _ => by rw [← HP.out]; exact HY.out⟩
  · have h1 : (pairsCheck l != 0) = true := by simpa using h0
    have H0 := Lib.hid h0
    obtain ⟨x, hx⟩ : ∃ x, x = pairsCheck l := ⟨_, rfl⟩
    rw [← hx] at h1 ⊢
    have HX := Lib.hid hx
    clear h0 hx h8
    go_wp2_with fail
    refine bodyPost_ret (v := .tuple #[.int .u32 0, .int .i64 x]) (by simp [results, Tryd.results16, go_sem]) rfl ?_
    exact ⟨w0, by rw [HX.out]; rfl, HB1.out, fun _ => rfl, fun h => absurd h H0.out⟩

set_option maxRecDepth 100000 in
set_option maxHeartbeats 1000000 in
theorem ref_Short (A : Option Addr) (n c : Nat) (l : List (BitVec 32)) (w : World) (hl : l.length = n) (hm : n ≤ 8) (hr : Els w w.heap.size 1 wcell A l) :
    Calls Tryd.prog 18 #[.slice A n c] w fun e w' => e = .returned (.int .u32 (wN (worst l n (2 ^ n)))) ∧ w = w' := by
  have HL := Lib.hid hl
  clear hl
  have hP1 := pow_le_256 hm
  have hlim := wN_pow (n := n) (by omega)
  obtain ⟨P, hP⟩ : ∃ P, P = 2 ^ n := ⟨_, rfl⟩
  have HP := Lib.hid hP
  have HLIM : Hid (wN (wShl w1 n) = (P : Int)) := by
    show wN (wShl w1 n) = (P : Int)
    rw [hlim, hP]
  rw [← hP] at hP1 ⊢
  clear hP hlim
  go_enter Tryd.func18, Tryd.ntmps18
  go_wp2_with fail
  go_loop [4, 3] (fun i s => ∃ k : Nat, k ≤ P ∧ i = .int .u32 (wN (nw k)) ∧ s = .int .u32 (wN (worst l n k))) (fun i _ => P - (intOf i).toNat)
  case atStart => exact ⟨0, by omega, rfl, rfl⟩
  case round =>
    obtain ⟨k, hk, rfl, rfl⟩ := hrel
    have hkw := wN_nw (k := k) (by omega)
    have hkw1 := wN_nw (k := k + 1) (by omega)
    have HKW := Lib.hid hkw
    have HKW1 := Lib.hid hkw1
    have HSU := Lib.hid (nw_succ k)
    by_cases hlt : k < P
    · have hlt' : wN (nw k) < wN (wShl w1 n) := by rw [hkw, HLIM.out]; omega
      have HWS : Hid (worst l n (k + 1) = if lack l n (worst l n k) < lack l n (nw k) then nw k else worst l n k) := Lib.hid rfl
      have HFX := Lib.hid (ref_Friends A n c w.heap.size l (nw k) w HL.out (by unfold maxLen; omega) hr)
      have HFY := Lib.hid (ref_Friends A n c w.heap.size l (worst l n k) w HL.out (by unfold maxLen; omega) hr)
      obtain ⟨y, hy⟩ : ∃ y, y = worst l n k := ⟨_, rfl⟩
      obtain ⟨x, hx⟩ : ∃ x, x = nw k := ⟨_, rfl⟩
      rw [← hx] at hlt' HFX ⊢
      rw [← hy] at HFY ⊢
      have HX := Lib.hid hx
      have HY := Lib.hid hy
      have p1 := pop_le x
      have p2 := pop_le (orTo l x n)
      have p3 := pop_le y
      have p4 := pop_le (orTo l y n)
      have HDX := Lib.hid (show lack l n x = (pop x : Int) - pop (orTo l x n) from rfl)
      have HDY := Lib.hid (show lack l n y = (pop y : Int) - pop (orTo l y n) from rfl)
      obtain ⟨px, hpx⟩ : ∃ p, p = pop x := ⟨_, rfl⟩
      obtain ⟨pz, hpz⟩ : ∃ p, p = pop (orTo l x n) := ⟨_, rfl⟩
      obtain ⟨qx, hqx⟩ : ∃ p, p = pop y := ⟨_, rfl⟩
      obtain ⟨qz, hqz⟩ : ∃ p, p = pop (orTo l y n) := ⟨_, rfl⟩
      rw [← hpx] at p1 HDX
      rw [← hpz] at p2 HDX
      rw [← hqx] at p3 HDY
      rw [← hqz] at p4 HDY
      have HPX := Lib.hid hpx
      have HPZ := Lib.hid hpz
      have HQX := Lib.hid hqx
      have HQZ := Lib.hid hqz
      clear hx hy hpx hpz hqx hqz hkw hkw1
      go_wp2_with fail
      refine (Size_any _ _).mono ?_
      rintro e w' ⟨rfl, rfl⟩
      rw [← HPX.out]
      go_wp2_with fail
      refine HFX.out.mono ?_
      rintro e w' ⟨rfl, rfl⟩
      go_wp2_with fail
      refine (Size_any _ _).mono ?_
      rintro e w' ⟨rfl, rfl⟩
      rw [← HPZ.out]
      go_wp2_with fail
      refine (Size_any _ _).mono ?_
      rintro e w' ⟨rfl, rfl⟩
      rw [← HQX.out]
      go_wp2_with fail
      refine HFY.out.mono ?_
      rintro e w' ⟨rfl, rfl⟩
      go_wp2_with fail
      refine (Size_any _ _).mono ?_
      rintro e w' ⟨rfl, rfl⟩
      rw [← HQZ.out]
      by_cases hcmp : (qx : Int) - qz < (px : Int) - pz
      · go_wp2_with fail
        go_round
        case rel => exact ⟨k + 1, by omega, by rw [HX.out, HSU.out], by rw [HWS.out, ← HX.out, ← HY.out, if_pos (by rw [HDX.out, HDY.out]; exact hcmp)]⟩
        case measure => rw [HX.out, HSU.out]; simp [intOf]; rw [HKW.out, HKW1.out]; omega
      · go_wp2_with fail
        go_round
        case rel => exact ⟨k + 1, by omega, by rw [HX.out, HSU.out], by rw [HWS.out, ← HX.out, ← HY.out, if_neg (by rw [HDX.out, HDY.out]; omega)]⟩
        case measure => rw [HX.out, HSU.out]; simp [intOf]; rw [HKW.out, HKW1.out]; omega
    · obtain rfl : k = P := by omega
      have hge : ¬ wN (nw k) < wN (wShl w1 n) := by rw [hkw, HLIM.out]; omega
      clear hkw hkw1
      go_wp2_with fail
      go_ret
      exact ⟨rfl, rfl⟩

theorem law_PairsShort (A : Option Addr) (n c : Nat) (l : List (BitVec 32)) (w : World) (htab : TabOk w) (hl : l.length = n) (hn : n ≤ maxLen) (hr : Els w w.heap.size 1 wcell A l) :
    Calls Tryd.prog 4 #[.slice A n c] w fun e w' => e = .returned (.bool true) ∧ Below w.heap.size w w' := by
  have HL := Lib.hid hl
  have HM := Lib.hid hn
  have HK := Lib.hid (pairs_Short A n c l w hl hn hr htab)
  have h8 : pairsCheck l = 0 → n ≤ 8 := fun h => by
    unfold pairsCheck at h
    rw [hl] at h
    by_cases h8 : 8 < n
    · rw [if_pos h8] at h; cases h
    · omega
  have HR := Lib.hid hr
  clear hl hn hr htab
  go_enter Tryd.func4, Tryd.ntmps4
  go_wp2_with fail
  refine HK.out.mono ?_
  clear HK
  rintro e w1 ⟨r, rfl, hb1, hne, he⟩
  have HB1 := Lib.hid hb1
  have hr1 := HR.out.below hb1
  have hsz := hb1.size
  clear hb1
  go_wp2_with fail
  refine (ref_PairsCheck A n c l _ HL.out HM.out (hr1.more hsz)).mono ?_
  rintro e w' ⟨rfl, rfl⟩
  by_cases h0 : pairsCheck l = 0
  · have HE := Lib.hid (he h0)
    have hm := h8 h0
    rw [h0]
    clear he hne h8 h0
    go_wp2_with fail
    refine (ref_Short A n c l _ HL.out hm (hr1.more hsz)).mono ?_
    rintro e w' ⟨rfl, rfl⟩
    rw [← HE.out]
    go_wp2_with fail
    go_ret
    exact ⟨rfl, HB1.out⟩
  · have h1 : (pairsCheck l != 0) = true := by simpa using h0
    obtain rfl := hne h0
    obtain ⟨x, hx⟩ : ∃ x, x = pairsCheck l := ⟨_, rfl⟩
    rw [← hx] at h1 ⊢
    clear he hne h8 h0 hx
    go_wp2_with fail
    go_ret
    exact ⟨rfl, HB1.out⟩
theorem PairsShort_row (C : Sls Int) (W : World) (htab : TabOk W) (hC : C.Good W W.heap.size 1 (fun n : Int => [.int .u32 n]) OkU) :
    Calls Tryd.prog 4 #[C.val] W fun e w' => e = .returned (.bool true) ∧ Below W.heap.size W w' :=
  law_PairsShort C.A C.l.length C.c (C.l.map wordOf) W htab (by simp) hC.1 (hC.2.2.1.map_ wordOf fun a ha => by rw [wcell, wN_wordOf (hC.2.2.2 a ha).1 (hC.2.2.2 a ha).2])
end Go.Proofs.YthopiaggnbkjbaaDoor
