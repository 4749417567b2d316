/- The row of lots' best. Conditions: the words and the worths read as lists. -/
import Derived.Test.YtdinknpagklkjaaLotsBests16
import Derived.Test.YtdinknpagklkjaaLotsBests17
import Derived.Test.YtdinknpagklkjaaLotsBests1
namespace Go.Proofs.Ytdinknpagklkjaa
open Go.RowKit
attribute [local go_sem ↓] w_and w_or w_xor w_andNot w_and1 w_and255 w_xor1 w_or0 w_shl w_shl1 w_shr w_sub w_add w_sub1 w_add1
attribute [local go_sem] w_eq0 w_ne0 w_eq1 w_eq w_ne

set_option maxRecDepth 100000 in
set_option maxHeartbeats 1000000 in
theorem ref_BestLots (A B : Option Addr) (n c d : Nat) (l : List (BitVec 32)) (z : List Int) (w : World) (hl : l.length = n) (hz : z.length = n) (h10 : n ≤ 10) (hr : Els w w.heap.size 1 wcell A l) (hq : Els w w.heap.size 1 icell B z) (hbd : ∀ y ∈ z, -1048576 ≤ y ∧ y ≤ 1048576) :
    Calls Try.prog 40 #[.slice A n c, .slice B n d] w fun e w' => e = .returned (.int .u32 (wN (bst l (rk ((bitsL (wSub (wShl w1 n) w1)).map (lw l)).reverse) (zAt z) n (2 ^ n)).1)) ∧ Below w.heap.size w w' := by
  have hP1 : 2 ^ n ≤ 1024 := Nat.le_trans (Nat.pow_le_pow_right (by omega) h10) (by omega)
  have hlim : wN (wShl w1 n) = ((2 ^ n : Nat) : Int) := by unfold wN; rw [wN_shl1 (by omega)]
  have hu : IntKind.u64.wrap (n : Int) = (n : Int) := by unfold IntKind.wrap; simp [IntKind.bits]; omega
  have hn0 : (0 : Int) ≤ (n : Int) := by omega
  have HRK := Lib.hid (ref_Rank A n c l (wSub (wShl w1 n) w1) w hl h10 hr (full_small (by omega)))
  obtain ⟨R, hR⟩ : ∃ R, R = rk ((bitsL (wSub (wShl w1 n) w1)).map (lw l)).reverse := ⟨_, rfl⟩
  rw [← hR] at HRK ⊢
  obtain ⟨P, hP⟩ : ∃ P, P = 2 ^ n := ⟨_, rfl⟩
  rw [← hP] at hP1 hlim ⊢
  have HLIM := Lib.hid hlim
  have HP := Lib.hid hP
  have HF := Lib.hid (fun (x : BitVec 32) (v : World) (hb : Below w.heap.size w v) => ref_Free A n c l x v hl (by omega) ((hr.below hb).more hb.size))
  have HWT := Lib.hid (fun (x : BitVec 32) (v : World) (hb : Below w.heap.size w v) => ref_LotWorth B n d z x v hz h10 hbd ((hq.below hb).more hb.size))
  clear hl hz hr hq hbd hR hP hlim
  go_enter Try.func40, Try.ntmps40
  go_wp2_with fail
  refine HRK.out.mono ?_
  clear HRK
  rintro e v ⟨rfl, hbv⟩
  have HBV := Lib.hid hbv
  have HF2 := fun x => Lib.hid (HF.out x v hbv)
  have HW2 := fun x => Lib.hid (HWT.out x v hbv)
  clear hbv HF HWT
  go_wp2_with fail
  go_loop [8, 7, 6] (fun s8 s7 s6 => ∃ k : Nat, k ≤ P ∧ s8 = .int .u32 (wN (nw k)) ∧ s7 = .bool (bst l R (zAt z) n k).2 ∧ s6 = .int .u32 (wN (bst l R (zAt z) n k).1)) (fun s8 _ _ => P - (intOf s8).toNat)
  case atStart => exact ⟨0, by omega, rfl, rfl, rfl⟩
  case round =>
    obtain ⟨k, hk, rfl, rfl, rfl⟩ := hrel
    have hkw := wN_nw (k := k) (by omega)
    have hkw1 := wN_nw (k := k + 1) (by omega)
    have HKW := Lib.hid hkw
    have HKW1 := Lib.hid hkw1
    have HSU := Lib.hid (nw_succ k)
    by_cases hlt : k < P
    · have hlt' : wN (nw k) < wN (wShl w1 n) := by rw [hkw, HLIM.out]; omega
      have hnwlt : (nw k).toNat < 2 ^ n := by rw [← HP.out]; unfold wN at hkw; omega
      have hfi := free_iff l (x := nw k) (n := n) (by omega) hnwlt
      have hst : bst l R (zAt z) n (k + 1) = if candP l R (nw k) = true ∧ ((bst l R (zAt z) n k).2 = false ∨ betP (zAt z) n (nw k) (bst l R (zAt z) n k).1 = true) then (nw k, true) else bst l R (zAt z) n k := rfl
      obtain ⟨b, hb⟩ : ∃ b, b = (bst l R (zAt z) n k).1 := ⟨_, rfl⟩
      obtain ⟨fd, hfd⟩ : ∃ fd, fd = (bst l R (zAt z) n k).2 := ⟨_, rfl⟩
      have hpair : bst l R (zAt z) n k = (b, fd) := by rw [hb, hfd]
      rw [hpair] at hst ⊢
      simp only at hst ⊢
      obtain ⟨x, hx⟩ : ∃ x, x = nw k := ⟨_, rfl⟩
      rw [← hx] at hlt' hfi hst ⊢
      have HX := Lib.hid hx
      have hcd : candP l R x = true ↔ (pop x = R ∧ FreeW l x n) := by
        unfold candP
        rw [hfi, Bool.and_eq_true, decide_eq_true_iff, decide_eq_true_iff]
      have hbet : betP (zAt z) n x b = true ↔ (worthTo (zAt z) b n < worthTo (zAt z) x n ∨ (worthTo (zAt z) x n = worthTo (zAt z) b n ∧ earlF x b = true)) := by
        unfold betP
        rw [Bool.or_eq_true, Bool.and_eq_true, decide_eq_true_iff, decide_eq_true_iff]
      have HYES : Hid (pop x = R → FreeW l x n → (fd = false ∨ worthTo (zAt z) b n < worthTo (zAt z) x n ∨ (worthTo (zAt z) x n = worthTo (zAt z) b n ∧ earlF x b = true)) → bst l R (zAt z) n (k + 1) = (x, true)) := Lib.hid (fun h1 h2 h3 => by
        rw [hst, if_pos ⟨hcd.2 ⟨h1, h2⟩, h3.imp id hbet.2⟩])
      have HNO : Hid (¬(pop x = R ∧ FreeW l x n ∧ (fd = false ∨ worthTo (zAt z) b n < worthTo (zAt z) x n ∨ (worthTo (zAt z) x n = worthTo (zAt z) b n ∧ earlF x b = true))) → bst l R (zAt z) n (k + 1) = (b, fd)) := Lib.hid (fun h => by
        rw [hst, if_neg (fun hh => h ⟨(hcd.1 hh.1).1, (hcd.1 hh.1).2, hh.2.imp id hbet.1⟩)])
      have HFR := HF2 x
      have HWX := HW2 x
      have HWB := HW2 b
      obtain ⟨px, hpx⟩ : ∃ p, p = pop x := ⟨_, rfl⟩
      rw [← hpx] at HYES HNO
      have HPX := Lib.hid hpx
      clear hx hb hfd hpair hst hcd hbet hfi hpx hkw hkw1 hnwlt
      by_cases hpr : px = R
      · have hpn : ((px : Int) != (R : Int)) = false := by simp [hpr]
        go_wp2_with fail
        refine (Size_any _ _).mono ?_
        rintro e w' ⟨rfl, rfl⟩
        rw [← HPX.out]
        go_wp2_with fail
        refine HFR.out.mono ?_
        clear HFR
        rintro e w' ⟨ba, rfl, hba, rfl⟩
        have HBA := Lib.hid hba
        clear hba
        cases ba with
        | false =>
          have HS2 := Lib.hid (HNO.out (fun h => by have := HBA.out.2 h.2.1; cases this))
          clear HBA HYES HNO
          go_wp2_with fail
          go_round
          case rel => exact ⟨k + 1, by omega, by rw [HX.out, HSU.out], by rw [HS2.out], by rw [HS2.out]⟩
          case measure => rw [HX.out, HSU.out]; simp [intOf]; rw [HKW.out, HKW1.out]; omega
        | true =>
          have hfree := HBA.out.1 rfl
          have HYES2 := Lib.hid (HYES.out hpr hfree)
          have HNO2 : Hid (¬(fd = false ∨ worthTo (zAt z) b n < worthTo (zAt z) x n ∨ (worthTo (zAt z) x n = worthTo (zAt z) b n ∧ earlF x b = true)) → bst l R (zAt z) n (k + 1) = (b, fd)) := Lib.hid (fun h => HNO.out (fun hh => h hh.2.2))
          obtain ⟨wx, hwx⟩ : ∃ wx, wx = worthTo (zAt z) x n := ⟨_, rfl⟩
          obtain ⟨wb, hwb⟩ : ∃ wb, wb = worthTo (zAt z) b n := ⟨_, rfl⟩
          rw [← hwx] at HWX HYES2 HNO2
          rw [← hwb] at HWB HYES2 HNO2
          clear HBA HYES HNO hfree hwx hwb
          cases fd with
          | false =>
            have HS2 := Lib.hid (HYES2.out (.inl rfl))
            clear HYES2 HNO2
            go_wp2_with fail
            refine HWX.out.mono ?_
            rintro e w' ⟨rfl, rfl⟩
            go_wp2_with fail
            refine HWB.out.mono ?_
            rintro e w' ⟨rfl, rfl⟩
            go_wp2_with fail
            go_round
            case rel => exact ⟨k + 1, by omega, by rw [HX.out, HSU.out], by rw [HS2.out], by rw [HS2.out]⟩
            case measure => rw [HX.out, HSU.out]; simp [intOf]; rw [HKW.out, HKW1.out]; omega
          | true =>
            by_cases hgt : wb < wx
            · have HS2 := Lib.hid (HYES2.out (.inr (.inl hgt)))
              clear HYES2 HNO2
              go_wp2_with fail
              refine HWX.out.mono ?_
              rintro e w' ⟨rfl, rfl⟩
              go_wp2_with fail
              refine HWB.out.mono ?_
              rintro e w' ⟨rfl, rfl⟩
              go_wp2_with fail
              go_round
              case rel => exact ⟨k + 1, by omega, by rw [HX.out, HSU.out], by rw [HS2.out], by rw [HS2.out]⟩
              case measure => rw [HX.out, HSU.out]; simp [intOf]; rw [HKW.out, HKW1.out]; omega
            · by_cases heq : wx = wb
              · subst heq
                have hbe : (wx == wx) = true := by simp
                have HER := Lib.hid (ref_earlier x b v)
                cases her : earlF x b with
                | true =>
                  have HS2 := Lib.hid (HYES2.out (.inr (.inr ⟨rfl, her⟩)))
                  rw [her] at HER
                  clear HYES2 HNO2 her
                  go_wp2_with fail
                  refine HWX.out.mono ?_
                  rintro e w' ⟨rfl, rfl⟩
                  go_wp2_with fail
                  refine HWB.out.mono ?_
                  rintro e w' ⟨rfl, rfl⟩
                  go_wp2_with fail
                  refine HER.out.mono ?_
                  rintro e w' ⟨rfl, rfl⟩
                  go_wp2_with fail
                  go_round
                  case rel => exact ⟨k + 1, by omega, by rw [HX.out, HSU.out], by rw [HS2.out], by rw [HS2.out]⟩
                  case measure => rw [HX.out, HSU.out]; simp [intOf]; rw [HKW.out, HKW1.out]; omega
                | false =>
                  have HS2 := Lib.hid (HNO2.out (fun h => by
                    rcases h with h | h | h
                    · cases h
                    · omega
                    · rw [her] at h; cases h.2))
                  rw [her] at HER
                  clear HYES2 HNO2 her
                  go_wp2_with fail
                  refine HWX.out.mono ?_
                  rintro e w' ⟨rfl, rfl⟩
                  go_wp2_with fail
                  refine HWB.out.mono ?_
                  rintro e w' ⟨rfl, rfl⟩
                  go_wp2_with fail
                  refine HER.out.mono ?_
                  rintro e w' ⟨rfl, rfl⟩
                  go_wp2_with fail
                  go_round
                  case rel => exact ⟨k + 1, by omega, by rw [HX.out, HSU.out], by rw [HS2.out], by rw [HS2.out]⟩
                  case measure => rw [HX.out, HSU.out]; simp [intOf]; rw [HKW.out, HKW1.out]; omega
              · have hbe : (wx == wb) = false := by simpa using heq
                have HS2 := Lib.hid (HNO2.out (fun h => by
                  rcases h with h | h | h
                  · cases h
                  · omega
                  · exact heq h.1))
                clear HYES2 HNO2
                go_wp2_with fail
                refine HWX.out.mono ?_
                rintro e w' ⟨rfl, rfl⟩
                go_wp2_with fail
                refine HWB.out.mono ?_
                rintro e w' ⟨rfl, rfl⟩
                go_wp2_with fail
                go_round
                case rel => exact ⟨k + 1, by omega, by rw [HX.out, HSU.out], by rw [HS2.out], by rw [HS2.out]⟩
                case measure => rw [HX.out, HSU.out]; simp [intOf]; rw [HKW.out, HKW1.out]; omega
      · have hpn : ((px : Int) != (R : Int)) = true := by simp; omega
        have HS2 := Lib.hid (HNO.out (fun h => hpr h.1))
        clear HYES HNO
        go_wp2_with fail
        refine (Size_any _ _).mono ?_
        rintro e w' ⟨rfl, rfl⟩
        rw [← HPX.out]
        go_wp2_with fail
        go_round
        case rel => exact ⟨k + 1, by omega, by rw [HX.out, HSU.out], by rw [HS2.out], by rw [HS2.out]⟩
        case measure => rw [HX.out, HSU.out]; simp [intOf]; rw [HKW.out, HKW1.out]; omega
    · obtain rfl : k = P := by omega
      have hge : ¬ wN (nw k) < wN (wShl w1 n) := by rw [hkw, HLIM.out]; omega
      clear hkw hkw1
      obtain ⟨b, hb⟩ : ∃ b, b = (bst l R (zAt z) n k).1 := ⟨_, rfl⟩
      obtain ⟨fd, hfd⟩ : ∃ fd, fd = (bst l R (zAt z) n k).2 := ⟨_, rfl⟩
      rw [← hb, ← hfd]
      have HB := Lib.hid hb
      clear hb hfd
      go_wp2_with fail
      go_ret
      exact ⟨by rw [HB.out]; rfl, HBV.out⟩
theorem falls_sorted {sz : List Int} {n : Nat} (hn : sz.length = n) : (fallsTo sz n).Pairwise (bef sz) := by
  obtain ⟨u, hu⟩ := sort_exists sz n n (Nat.le_refl _)
  obtain ⟨P, h1, h2, h3, h4⟩ := hu.split
  have e : restL n n = [] := by unfold restL; rw [Nat.sub_self]; rfl
  rw [e, List.append_nil] at h1
  obtain ⟨he, _⟩ := sort_end hn hu
  rw [← he, h1]
  exact h3
theorem ordN_sorted {z : List Int} {n : Nat} (hn : z.length = n) : (ordN z n).Pairwise (before (zAt z)) := by
  unfold ordN
  refine List.pairwise_map.2 ((falls_sorted hn).imp_of_mem fun {a b} ha hb h => ?_)
  have h1 := ((falls_all hn).2 a).1 ha
  have h2 := ((falls_all hn).2 b).1 hb
  unfold before
  rcases h with h | h
  · exact .inl h
  · exact .inr ⟨h.1, by omega⟩
theorem ordN_nodup {z : List Int} {n : Nat} (hn : z.length = n) : (ordN z n).Nodup := (ordN_sorted hn).imp fun {a b} h e => by
  subst e
  unfold before at h
  omega
def errTo (x : Int) (z : List Int) (k : Nat) : Int := if x ≠ 0 then x else if (z.take k).any worthBad then 4 else 0
theorem any_take {z : List Int} {k : Nat} (hk : k < z.length) : (z.take (k + 1)).any worthBad = ((z.take k).any worthBad || worthBad z[k]) := by
  rw [List.take_succ_eq_append_getElem hk, List.any_append, List.any_cons, List.any_nil, Bool.or_false]
theorem errTo_0 (x : Int) (z : List Int) : errTo x z 0 = x := by
  unfold errTo
  by_cases h : x = 0
  · subst h; simp
  · rw [if_pos h]
theorem errTo_succ (x : Int) {z : List Int} {k : Nat} (hk : k < z.length) : errTo x z (k + 1) = if errTo x z k = 0 ∧ worthBad z[k] = true then 4 else errTo x z k := by
  unfold errTo
  rw [any_take hk]
  by_cases h : x = 0
  · subst h
    cases (z.take k).any worthBad <;> cases worthBad z[k] <;> simp
  · rw [if_pos h, if_pos h, if_neg (fun e => h e.1)]
set_option maxRecDepth 100000 in
set_option maxHeartbeats 2000000 in
theorem law_LotsBests (A B : Option Addr) (n c m d : Nat) (l : List (BitVec 32)) (z : List Int) (w : World) (hl : l.length = n) (hz : z.length = m) (hn : n ≤ maxLen) (hm : m ≤ maxLen) (hr : Els w w.heap.size 1 wcell A l) (hq : Els w w.heap.size 1 icell B z) :
    Calls Try.prog 10 #[.slice A n c, .slice B m d] w fun e w' => e = .returned (.bool true) ∧ Below w.heap.size w w' := by
  have HP := Lib.hid (lots_Best A B n c m d l z w hl hz hn hm hr hq)
  have HCK := Lib.hid (fun (v : World) (hb : Below w.heap.size w v) => ref_LotsCheck A n c l v hl hn ((hr.below hb).more hb.size))
  have hbe : bestE l z = errTo (if lotsCheck l ≠ 0 then lotsCheck l else if m ≠ n then 3 else 0) z m := by
    unfold bestE errTo
    rw [hl, hz, List.take_of_length_le (by omega)]
    by_cases h1 : lotsCheck l = 0
    · by_cases h2 : m = n
      · simp [h1, h2]
      · simp [h1, h2]
    · simp [h1]
  have hgood : bestE l z = 0 → m = n ∧ n ≤ 10 ∧ ∀ y ∈ z, -1048576 ≤ y ∧ y ≤ 1048576 := fun h => by
    unfold bestE at h
    split at h
    · rename_i h1; exact absurd h h1
    · rename_i h1
      split at h
      · omega
      · rename_i h2
        split at h
        · omega
        · rename_i h3
          have h10 := lotsCheck_n (by omega : lotsCheck l = 0)
          refine ⟨by omega, by omega, fun y hy => ?_⟩
          have := List.any_eq_false.1 (by simpa using h3) y hy
          unfold worthBad at this
          simp at this
          omega
  have HGD := Lib.hid hgood
  have HREF := Lib.hid (fun (v : World) (hb : Below w.heap.size w v) (hmn : m = n) (h10 : n ≤ 10) (hbd : ∀ y ∈ z, -1048576 ≤ y ∧ y ≤ 1048576) => ref_BestLots A B n c d l z v hl (by omega) h10 ((hr.below hb).more hb.size) ((hq.below hb).more hb.size) hbd)
  obtain ⟨er, her⟩ : ∃ er, er = bestE l z := ⟨_, rfl⟩
  rw [← her] at HP HGD hbe
  obtain ⟨lc, hlc⟩ : ∃ lc, lc = lotsCheck l := ⟨_, rfl⟩
  rw [← hlc] at HCK hbe
  have HL := Lib.hid hl
  have HZ := Lib.hid hz
  have HQ := Lib.hid hq
  have HBE := Lib.hid hbe
  have hnn : n ≤ maxLen := hn
  have hmm : m ≤ maxLen := hm
  unfold maxLen at hnn hmm
  clear hl hz hn hm hr hq hbe hgood her hlc
  go_enter Try.func10, Try.ntmps10
  go_wp2_with fail
  refine HP.out.mono ?_
  clear HP
  rintro e v1 ⟨x, rfl, hb1, hbad, hok⟩
  have HB1 := Lib.hid hb1
  have HC := Lib.hid (HCK.out v1 hb1)
  have HBAD := Lib.hid hbad
  have HOK := Lib.hid hok
  have HQ1 := Lib.hid (HQ.out.below hb1)
  clear hb1 hbad hok HCK
  go_wp2_with fail
  refine HC.out.mono ?_
  clear HC
  rintro e v2 ⟨rfl, rfl⟩
  by_cases h0 : lc = 0
  · subst h0
    by_cases hmn0 : m = n
    · subst hmn0
      have hne : ((m : Int) != (m : Int)) = false := by simp
      have HKEY : Hid (er = errTo 0 z m) := Lib.hid (by rw [HBE.out]; simp)
      go_wp2_with fail
      go_loop [29, 7] (fun s29 s7 => ∃ k : Nat, k ≤ m ∧ s29 = .int .i64 k ∧ s7 = .int .i64 (errTo 0 z k)) (fun s29 _ => m - (intOf s29).toNat)
      case atStart => exact ⟨0, Nat.zero_le _, rfl, by rw [errTo_0]⟩
      case round =>
        obtain ⟨k, hk, rfl, rfl⟩ := hrel
        by_cases hkm : k < m
        · have hkz : k < z.length := by rw [HZ.out]; exact hkm
          obtain ⟨b, o, hB, _, t0⟩ := HQ1.out.at1 (f := fun x : Int => .int .i64 x) hkz
          subst hB
          have hsu := errTo_succ 0 hkz
          have hwb : worthBad z[k] = (decide (z[k] < -1048576) || decide (1048576 < z[k])) := rfl
          obtain ⟨y, hy⟩ : ∃ y, y = z[k] := ⟨_, rfl⟩
          rw [← hy] at t0 hwb hsu
          obtain ⟨cur, hcur⟩ : ∃ cur, cur = errTo 0 z k := ⟨_, rfl⟩
          rw [← hcur] at hsu ⊢
          by_cases hc0 : cur = 0
          · subst hc0
            by_cases hy1 : y < -1048576
            · rw [if_pos ⟨rfl, by rw [hwb, decide_eq_true hy1]; rfl⟩] at hsu
              have HSU := Lib.hid hsu
              clear hsu hwb hy hcur
              go_wp2_with fail
              go_round
              case rel => exact ⟨k + 1, by omega, by go_num, by rw [HSU.out]⟩
              case measure => simp [intOf]; omega
            · by_cases hy2 : 1048576 < y
              · rw [if_pos ⟨rfl, by rw [hwb, decide_eq_true hy2, Bool.or_true]⟩] at hsu
                have HSU := Lib.hid hsu
                clear hsu hwb hy hcur
                go_wp2_with fail
                go_round
                case rel => exact ⟨k + 1, by omega, by go_num, by rw [HSU.out]⟩
                case measure => simp [intOf]; omega
              · rw [if_neg (fun h => by rw [hwb, decide_eq_false hy1, decide_eq_false hy2] at h; cases h.2)] at hsu
                have HSU := Lib.hid hsu
                clear hsu hwb hy hcur
                go_wp2_with fail
                go_round
                case rel => exact ⟨k + 1, by omega, by go_num, by rw [HSU.out]⟩
                case measure => simp [intOf]; omega
          · rw [if_neg (fun h => hc0 h.1)] at hsu
            have HSU := Lib.hid hsu
            have hcb : (cur == 0) = false := by simpa using hc0
            clear hsu hwb hy hcur
            go_wp2_with fail
            go_round
            case rel => exact ⟨k + 1, by omega, by go_num, by rw [HSU.out]⟩
            case measure => simp [intOf]; omega
        · obtain rfl : k = m := by omega
          rw [← HKEY.out]
          by_cases he0 : er = 0
          · obtain ⟨hmn, h10, hbd⟩ := HGD.out he0
            have hx := HOK.out he0
            have hzn : z.length = k := by have h9 := HZ.out; omega
            have hbt := best_taken (l := l) (wt := zAt z) (L := ordN z k) (n := k) (by omega) (ordN_nodup hzn) (ordN_mem (falls_all hzn).2) (ordN_sorted hzn) (full_bits (by omega)) rfl
            have HRR := Lib.hid (HREF.out v1 HB1.out (by omega) h10 hbd)
            rw [hbt] at HRR
            simp only at HRR
            rw [← hx] at HRR
            have hxx : (x == x) = true := by simp
            cases hmn
            rw [he0]
            clear hx hbt HBAD HOK HGD HKEY HBE HREF he0
            go_wp2_with fail
            refine HRR.out.mono ?_
            clear HRR
            rintro e v3 ⟨rfl, hb3⟩
            go_wp2_with fail
            go_ret
            exact ⟨ret_bool (by simp), HB1.out.trans (hb3.mono HB1.out.size)⟩
          · have hx := HBAD.out he0
            subst hx
            have h3 : wN w0 = 0 := rfl
            rw [h3]
            have h1 : (er == 0) = false := by simpa using he0
            have h4 : (er != 0) = true := by simpa using he0
            have h5 : (er == er) = true := by simp
            clear HBAD HOK HGD HKEY HBE HREF h3 he0
            go_wp2_with fail
            go_ret
            exact ⟨ret_bool (by simp), HB1.out⟩
    · have hne : ((m : Int) != (n : Int)) = true := by simp; omega
      have HKEY : Hid (er = errTo 3 z m) := Lib.hid (by rw [HBE.out, if_neg (by simp), if_pos hmn0])
      go_wp2_with fail
      go_loop [29, 7] (fun s29 s7 => ∃ k : Nat, k ≤ m ∧ s29 = .int .i64 k ∧ s7 = .int .i64 (errTo 3 z k)) (fun s29 _ => m - (intOf s29).toNat)
      case atStart => exact ⟨0, Nat.zero_le _, rfl, by rw [errTo_0]⟩
      case round =>
        obtain ⟨k, hk, rfl, rfl⟩ := hrel
        by_cases hkm : k < m
        · have hkz : k < z.length := by rw [HZ.out]; exact hkm
          obtain ⟨b, o, hB, _, t0⟩ := HQ1.out.at1 (f := fun x : Int => .int .i64 x) hkz
          subst hB
          have hsu := errTo_succ 3 hkz
          have hwb : worthBad z[k] = (decide (z[k] < -1048576) || decide (1048576 < z[k])) := rfl
          obtain ⟨y, hy⟩ : ∃ y, y = z[k] := ⟨_, rfl⟩
          rw [← hy] at t0 hwb hsu
          obtain ⟨cur, hcur⟩ : ∃ cur, cur = errTo 3 z k := ⟨_, rfl⟩
          rw [← hcur] at hsu ⊢
          by_cases hc0 : cur = 0
          · subst hc0
            by_cases hy1 : y < -1048576
            · rw [if_pos ⟨rfl, by rw [hwb, decide_eq_true hy1]; rfl⟩] at hsu
              have HSU := Lib.hid hsu
              clear hsu hwb hy hcur
              go_wp2_with fail
              go_round
              case rel => exact ⟨k + 1, by omega, by go_num, by rw [HSU.out]⟩
              case measure => simp [intOf]; omega
            · by_cases hy2 : 1048576 < y
              · rw [if_pos ⟨rfl, by rw [hwb, decide_eq_true hy2, Bool.or_true]⟩] at hsu
                have HSU := Lib.hid hsu
                clear hsu hwb hy hcur
                go_wp2_with fail
                go_round
                case rel => exact ⟨k + 1, by omega, by go_num, by rw [HSU.out]⟩
                case measure => simp [intOf]; omega
              · rw [if_neg (fun h => by rw [hwb, decide_eq_false hy1, decide_eq_false hy2] at h; cases h.2)] at hsu
                have HSU := Lib.hid hsu
                clear hsu hwb hy hcur
                go_wp2_with fail
                go_round
                case rel => exact ⟨k + 1, by omega, by go_num, by rw [HSU.out]⟩
                case measure => simp [intOf]; omega
          · rw [if_neg (fun h => hc0 h.1)] at hsu
            have HSU := Lib.hid hsu
            have hcb : (cur == 0) = false := by simpa using hc0
            clear hsu hwb hy hcur
            go_wp2_with fail
            go_round
            case rel => exact ⟨k + 1, by omega, by go_num, by rw [HSU.out]⟩
            case measure => simp [intOf]; omega
        · obtain rfl : k = m := by omega
          rw [← HKEY.out]
          by_cases he0 : er = 0
          · obtain ⟨hmn, h10, hbd⟩ := HGD.out he0
            have hx := HOK.out he0
            have hzn : z.length = n := by have h9 := HZ.out; omega
            have hbt := best_taken (l := l) (wt := zAt z) (L := ordN z n) (n := n) (by omega) (ordN_nodup hzn) (ordN_mem (falls_all hzn).2) (ordN_sorted hzn) (full_bits (by omega)) rfl
            have HRR := Lib.hid (HREF.out v1 HB1.out (by omega) h10 hbd)
            rw [hbt] at HRR
            simp only at HRR
            rw [← hx] at HRR
            have hxx : (x == x) = true := by simp
            cases hmn
            rw [he0]
            clear hx hbt HBAD HOK HGD HKEY HBE HREF he0
            go_wp2_with fail
            refine HRR.out.mono ?_
            clear HRR
            rintro e v3 ⟨rfl, hb3⟩
            go_wp2_with fail
            go_ret
            exact ⟨ret_bool (by simp), HB1.out.trans (hb3.mono HB1.out.size)⟩
          · have hx := HBAD.out he0
            subst hx
            have h3 : wN w0 = 0 := rfl
            rw [h3]
            have h1 : (er == 0) = false := by simpa using he0
            have h4 : (er != 0) = true := by simpa using he0
            have h5 : (er == er) = true := by simp
            clear HBAD HOK HGD HKEY HBE HREF h3 he0
            go_wp2_with fail
            go_ret
            exact ⟨ret_bool (by simp), HB1.out⟩
  · have hlc0 : (lc == 0) = false := by simpa using h0
    have HKEY : Hid (er = errTo lc z m) := Lib.hid (by rw [HBE.out, if_pos h0])
    go_wp2_with fail
    go_loop [29, 7] (fun s29 s7 => ∃ k : Nat, k ≤ m ∧ s29 = .int .i64 k ∧ s7 = .int .i64 (errTo lc z k)) (fun s29 _ => m - (intOf s29).toNat)
    case atStart => exact ⟨0, Nat.zero_le _, rfl, by rw [errTo_0]⟩
    case round =>
      obtain ⟨k, hk, rfl, rfl⟩ := hrel
      by_cases hkm : k < m
      · have hkz : k < z.length := by rw [HZ.out]; exact hkm
        obtain ⟨b, o, hB, _, t0⟩ := HQ1.out.at1 (f := fun x : Int => .int .i64 x) hkz
        subst hB
        have hsu := errTo_succ lc hkz
        have hwb : worthBad z[k] = (decide (z[k] < -1048576) || decide (1048576 < z[k])) := rfl
        obtain ⟨y, hy⟩ : ∃ y, y = z[k] := ⟨_, rfl⟩
        rw [← hy] at t0 hwb hsu
        obtain ⟨cur, hcur⟩ : ∃ cur, cur = errTo lc z k := ⟨_, rfl⟩
        rw [← hcur] at hsu ⊢
        by_cases hc0 : cur = 0
        · subst hc0
          by_cases hy1 : y < -1048576
          · rw [if_pos ⟨rfl, by rw [hwb, decide_eq_true hy1]; rfl⟩] at hsu
            have HSU := Lib.hid hsu
            clear hsu hwb hy hcur
            go_wp2_with fail
            go_round
            case rel => exact ⟨k + 1, by omega, by go_num, by rw [HSU.out]⟩
            case measure => simp [intOf]; omega
          · by_cases hy2 : 1048576 < y
            · rw [if_pos ⟨rfl, by rw [hwb, decide_eq_true hy2, Bool.or_true]⟩] at hsu
              have HSU := Lib.hid hsu
              clear hsu hwb hy hcur
              go_wp2_with fail
              go_round
              case rel => exact ⟨k + 1, by omega, by go_num, by rw [HSU.out]⟩
              case measure => simp [intOf]; omega
            · rw [if_neg (fun h => by rw [hwb, decide_eq_false hy1, decide_eq_false hy2] at h; cases h.2)] at hsu
              have HSU := Lib.hid hsu
              clear hsu hwb hy hcur
              go_wp2_with fail
              go_round
              case rel => exact ⟨k + 1, by omega, by go_num, by rw [HSU.out]⟩
              case measure => simp [intOf]; omega
        · rw [if_neg (fun h => hc0 h.1)] at hsu
          have HSU := Lib.hid hsu
          have hcb : (cur == 0) = false := by simpa using hc0
          clear hsu hwb hy hcur
          go_wp2_with fail
          go_round
          case rel => exact ⟨k + 1, by omega, by go_num, by rw [HSU.out]⟩
          case measure => simp [intOf]; omega
      · obtain rfl : k = m := by omega
        rw [← HKEY.out]
        by_cases he0 : er = 0
        · obtain ⟨hmn, h10, hbd⟩ := HGD.out he0
          have hx := HOK.out he0
          have hzn : z.length = n := by have h9 := HZ.out; omega
          have hbt := best_taken (l := l) (wt := zAt z) (L := ordN z n) (n := n) (by omega) (ordN_nodup hzn) (ordN_mem (falls_all hzn).2) (ordN_sorted hzn) (full_bits (by omega)) rfl
          have HRR := Lib.hid (HREF.out v1 HB1.out (by omega) h10 hbd)
          rw [hbt] at HRR
          simp only at HRR
          rw [← hx] at HRR
          have hxx : (x == x) = true := by simp
          cases hmn
          rw [he0]
          clear hx hbt HBAD HOK HGD HKEY HBE HREF he0
          go_wp2_with fail
          refine HRR.out.mono ?_
          clear HRR
          rintro e v3 ⟨rfl, hb3⟩
          go_wp2_with fail
          go_ret
          exact ⟨ret_bool (by simp), HB1.out.trans (hb3.mono HB1.out.size)⟩
        · have hx := HBAD.out he0
          subst hx
          have h3 : wN w0 = 0 := rfl
          rw [h3]
          have h1 : (er == 0) = false := by simpa using he0
          have h4 : (er != 0) = true := by simpa using he0
          have h5 : (er == er) = true := by simp
          clear HBAD HOK HGD HKEY HBE HREF h3 he0
          go_wp2_with fail
          go_ret
          exact ⟨ret_bool (by simp), HB1.out⟩
theorem LotsBests_row (C D : Sls Int) (W : World) (hC : C.Good W W.heap.size 1 (fun n : Int => [.int .u32 n]) OkU) (hD : D.Good W W.heap.size 1 (fun n : Int => [.int .i64 n]) OkI) :
    Calls Try.prog 10 #[C.val, D.val] W fun e w' => e = .returned (.bool true) ∧ Below W.heap.size W w' :=
  law_LotsBests C.A D.A C.l.length C.c D.l.length D.c (C.l.map wordOf) D.l W (by simp) rfl hC.1 hD.1
    (hC.2.2.1.map_ wordOf fun a ha => by rw [wcell, wN_wordOf (hC.2.2.2 a ha).1 (hC.2.2.2 a ha).2]) hD.2.2.1
end Go.Proofs.Ytdinknpagklkjaa
