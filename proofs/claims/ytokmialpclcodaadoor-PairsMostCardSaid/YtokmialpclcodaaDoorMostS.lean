/- Whom each takes: the reference's walk. Conditions: the words read as a list. -/
import Derived.Test.YtokmialpclcodaaDoorMostR
namespace Go.Proofs.YtokmialpclcodaaDoor
open Go.RowKit
attribute [local go_sem ↓] w_and w_or w_xor w_andNot w_and1 w_and255 w_xor1 w_or0 w_shl w_shl1 w_shr w_sub w_add w_sub1 w_add1
attribute [local go_sem] w_eq0 w_ne0 w_eq1 w_eq w_ne

theorem own_heldR {α : Type} {ex : List Nat} {w w' : World} {B c cap : Nat} {e : TypeId} {f : α → List Value} {A : Option Addr} {l : List α} (h : Own w B e c f A cap l) (hh : Held ex w w') (hx : ∀ k ∈ ex, k < B) : Own w' B e c f A cap l := by
  refine ⟨h.1, h.2.1, ?_⟩
  rcases h.2.2 with hn | ⟨g', cp, cur, hv, hb, hg, r⟩
  · exact .inl hn
  · refine .inr ⟨g', cp, cur, hv, hb, (hh.block g' (lt_of_block hg) (fun hm => ?_)).trans hg, r⟩
    have := hx g' hm
    omega
/-- Where the way through the words has come to. -/
def PairI (near : List (BitVec 32)) (R n : Nat) (w : World) (s6 s4 s5 : Value) (wr : World) : Prop :=
  ∃ (i : Nat) (A5 : Option Addr) (cap5 : Nat) (L : List (Int × Value)), i ≤ n ∧ s6 = .int .i64 i ∧ s4 = .int .u32 (wN (pairsTo near i).2) ∧ s5 = .slice A5 i cap5 ∧ Below R w wr ∧ MapB wr R kvu L ∧ MemoP (mostK near) L ∧ Own wr (R + 1) 3 1 icell A5 cap5 (pairsTo near i).1
def TakeI (near : List (BitVec 32)) (R i : Nat) (w : World) (A5 : Option Addr) (cap5 : Nat) (l : List Int) (g : BitVec 32 → Nat) (X u : BitVec 32) (want : Nat) (s9 s8 : Value) (wr : World) : Prop :=
  ∃ (m : Nat) (L : List (Int × Value)), m ≤ 8 ∧ s9 = .int .i64 (7 - (m : Int)) ∧ s8 = .int .i64 (tkD g X u want m) ∧ Below R w wr ∧ MapB wr R kvu L ∧ MemoP (mostK near) L ∧ Own wr (R + 1) 3 1 icell A5 cap5 l
set_option maxRecDepth 100000 in
set_option maxHeartbeats 1000000 in
theorem ref_Pairs (near : List (BitVec 32)) (n c : Nat) (A : Option Addr) (w : World) (hl : near.length = n) (h8 : n ≤ 8) (hw : ∀ k q, Nr near k q → q < 8) (hr : Els w w.heap.size 1 wcell A near) :
    Calls Tryd.prog 14 #[.slice A n c] w fun e w' => ∃ A' cap, e = .returned (.slice A' n cap) ∧ Below w.heap.size w w' ∧ Own w' w.heap.size 3 1 icell A' cap (pairsTo near n).1 := by
  obtain ⟨R, hR⟩ : ∃ R, R = w.heap.size := ⟨_, rfl⟩
  have hmk : ∀ W : World, (Instr.makeMap 57 none).run Tryd.prog W = .ok (.map (some W.heap.size)) (W.alloc (.map #[] 0)) := fun W => by rw [run_makeMap]
  obtain ⟨W1, hW1⟩ : ∃ W1, W1 = w.alloc (.map #[] 0) := ⟨_, rfl⟩
  have m1_ := MapB.made (kv := kvu) w
  rw [← hW1, ← hR] at m1_
  have hb1 : Below R w W1 := by rw [hW1, hR]; exact (Below.refl _ w).alloc (Nat.le_refl _) _
  rw [← hR] at hr
  have HR := Lib.hid hr
  have HM1 := Lib.hid m1_
  have HB1 := Lib.hid hb1
  have HW1 := Lib.hid hW1
  have HRR := Lib.hid hR
  have HL := Lib.hid hl
  have HW := Lib.hid hw
  clear hr m1_ hb1 hW1 hR hl hw
  go_enter Tryd.func14, Tryd.ntmps14
  go_wp2_with fail
  rw [← HW1.out, ← HRR.out]
  clear hmk
  go_loopw [6, 4, 5] (fun s6 s4 s5 wr => PairI near R n w s6 s4 s5 wr) (fun s6 _ _ _ => n - (intOf s6).toNat)
  case atStart => exact ⟨0, none, 0, [], Nat.zero_le _, rfl, rfl, rfl, HB1.out, HM1.out, (fun u k v _ h => by cases h), Own.nil _ _ _ (fun _ => rfl)⟩
  case round =>
    clear HB1 HM1 HW1
    rename World => wr
    obtain ⟨i, A5, cap5, L, hi, rfl, rfl, rfl, hb, hm, hme, how⟩ := hrel
    have hz := hb.size
    have hub := pairsTo_bits near i
    have hpl := pairsTo_length near i
    obtain ⟨l, hll⟩ : ∃ l, l = (pairsTo near i).1 := ⟨_, rfl⟩
    obtain ⟨u, hu⟩ : ∃ u, u = (pairsTo near i).2 := ⟨_, rfl⟩
    have hst : pairsTo near (i + 1) = (l ++ [tkD (mF (near.drop (i + 1))) (lw near i) u (mF (near.drop i) u) 8], if 0 ≤ tkD (mF (near.drop (i + 1))) (lw near i) u (mF (near.drop i) u) 8 then wAdd u (wShl w1 (tkD (mF (near.drop (i + 1))) (lw near i) u (mF (near.drop i) u) 8).toNat) else u) := by rw [hll, hu, pairsTo]
    rw [← hu] at hub ⊢
    rw [← hll] at hpl how
    have HLL := Lib.hid hll
    have HUB := Lib.hid hub
    have HPL := Lib.hid hpl
    clear hll hu hub hpl
    by_cases hin : i < n
    · have hil : i < near.length := by rw [HL.out]; exact hin
      have HMOST := Lib.hid (ref_most near n R R c A HL.out h8 (Nat.le_refl _) (n - i) i u wr L (by omega) HUB.out (HR.out.below hb) (by have := HRR.out; omega) hm hme)
      obtain ⟨want, hwant⟩ : ∃ want, want = mF (near.drop i) u := ⟨_, rfl⟩
      obtain ⟨X, hX⟩ : ∃ X, X = lw near i := ⟨_, rfl⟩
      rw [← hwant] at HMOST
      rw [← hwant, ← hX] at hst
      have hw8 : want ≤ 8 := by rw [hwant]; exact Nat.le_trans (mF_le _ _) (by rw [List.length_drop, HL.out]; omega)
      have HXX := Lib.hid hX
      have HST := Lib.hid hst
      have HB := Lib.hid hb
      have HO := Lib.hid how
      have hnxt : IntKind.i64.wrap ((i : Int) + 1) = ((i + 1 : Nat) : Int) := by rw [IntWalk.i64_in _ (by omega)]; omega
      clear hb hm hme how hst hX hwant
      go_wp2_with fail
      refine HMOST.out.mono ?_
      clear HMOST
      rintro e W2 ⟨rfl, hH2, L2, hm2, hme2⟩
      have hb2 := HB.out.trans (hH2.to (B := R) (by have := HRR.out; omega) (by simp))
      have HB2 := Lib.hid hb2
      have HO2 := Lib.hid (own_heldR HO.out hH2 (by simp))
      have HM2 := Lib.hid hm2
      have HME2 := Lib.hid hme2
      clear hH2 hm2 hme2 hb2
      go_wp2_with fail
      go_loopw [9, 8] (fun s9 s8 w2 => TakeI near R i w A5 cap5 l (mF (near.drop (i + 1))) X u want s9 s8 w2) (fun s9 _ _ => (intOf s9 + 1).toNat)
      case atStart => exact ⟨0, L2, by omega, rfl, rfl, HB2.out, HM2.out, HME2.out, HO2.out⟩
      case round =>
        clear HB2 HM2 HME2 HO2
        rename World => w2
        obtain ⟨m, L, hm8, rfl, rfl, hb, hm, hme, how⟩ := hrel
        have hz2 := hb.size
        have HB2 := Lib.hid hb
        have HM2 := Lib.hid hm
        have HME2 := Lib.hid hme
        have HO2 := Lib.hid how
        have hstep : tkD (mF (near.drop (i + 1))) X u want (m + 1) = if okT (mF (near.drop (i + 1))) X u want (7 - m) = true then ((7 - m : Nat) : Int) else tkD (mF (near.drop (i + 1))) X u want m := rfl
        obtain ⟨t, ht⟩ : ∃ t, t = tkD (mF (near.drop (i + 1))) X u want m := ⟨_, rfl⟩
        have htin := tkD_in (mF (near.drop (i + 1))) X u want m
        rw [← ht] at hstep htin ⊢
        have HTT := Lib.hid ht
        by_cases hm7 : m < 8
        · obtain ⟨j, hj⟩ : ∃ j : Nat, j = 7 - m := ⟨_, rfl⟩
          have hjm : (7 : Int) - (m : Int) = (j : Int) := by omega
          rw [← hj] at hstep
          rw [hjm]
          have hj8 : j < 8 := by omega
          obtain ⟨nb, no, hA, _, g0⟩ := (HR.out.below hb).at1 (f := fun x : BitVec 32 => .int .u32 (wN x)) hil
          subst hA
          rw [← lw_at near i hil, ← HXX.out] at g0
          have hbX : bitB X (j : Int) = X.getLsbD j := bitB_nat X j
          have hbx : bitB u (j : Int) = u.getLsbD j := bitB_nat u j
          have HBX := Lib.hid (Bit_any X (j : Int) w2)
          have HBx := Lib.hid (Bit_any u (j : Int) w2)
          rw [hbX] at HBX
          rw [hbx] at HBx
          have HSTEP := Lib.hid hstep
          have hjn : ((j : Int) - 1) = 7 - ((m + 1 : Nat) : Int) := by omega
          have HJN := Lib.hid hjn
          have hge : decide ((0 : Int) ≤ (j : Int)) = true := decide_eq_true (by omega)
          clear hb hm hme how hstep ht hbX hbx hjm hj hjn
          cases hXj : X.getLsbD j with
          | false =>
            have HS2 : Hid (tkD (mF (near.drop (i + 1))) X u want (m + 1) = t) := Lib.hid (by rw [HSTEP.out, if_neg]; unfold okT; rw [hXj]; simp)
            rw [hXj] at HBX
            clear hXj
            go_wp2_with fail
            refine HBX.out.mono ?_
            clear HBX
            rintro e W ⟨rfl, rfl⟩
            go_wp2_with fail
            go_roundw
            case rel => exact ⟨m + 1, L, by omega, by rw [← HJN.out], by rw [HS2.out], HB2.out, HM2.out, HME2.out, HO2.out⟩
            case measure => simp [intOf] <;> omega
          | true =>
            rw [hXj] at HBX
            cases hxj : u.getLsbD j with
            | true =>
              have HS2 : Hid (tkD (mF (near.drop (i + 1))) X u want (m + 1) = t) := Lib.hid (by rw [HSTEP.out, if_neg]; unfold okT; rw [hxj]; simp)
              rw [hxj] at HBx
              clear hXj hxj
              go_wp2_with fail
              refine HBX.out.mono ?_
              clear HBX
              rintro e W ⟨rfl, rfl⟩
              go_wp2_with fail
              refine HBx.out.mono ?_
              clear HBx
              rintro e W ⟨rfl, rfl⟩
              go_wp2_with fail
              go_roundw
              case rel => exact ⟨m + 1, L, by omega, by rw [← HJN.out], by rw [HS2.out], HB2.out, HM2.out, HME2.out, HO2.out⟩
              case measure => simp [intOf] <;> omega
            | false =>
              rw [hxj] at HBx
              obtain ⟨z, hz3⟩ : ∃ z, z = wAdd u (wShl w1 j) := ⟨_, rfl⟩
              have HREC := Lib.hid (ref_most near n R R c (some ⟨nb, no, none⟩) HL.out h8 (Nat.le_refl _) (n - (i + 1)) (i + 1) z w2 L (by omega) (by rw [hz3]; exact add_bits HUB.out hj8 hxj) (HR.out.below HB2.out) (by have := HRR.out; omega) HM2.out HME2.out)
              have hb1 : mF (near.drop (i + 1)) z ≤ 8 := Nat.le_trans (mF_le _ _) (by rw [List.length_drop]; have := HL.out; omega)
              have hokt : okT (mF (near.drop (i + 1))) X u want j = decide (1 + mF (near.drop (i + 1)) z = want) := by unfold okT; rw [hXj, hxj, ← hz3]; simp
              obtain ⟨p, hp⟩ : ∃ p, p = mF (near.drop (i + 1)) z := ⟨_, rfl⟩
              rw [← hp] at HREC hb1 hokt
              have HZ := Lib.hid hz3
              by_cases hwt : 1 + p = want
              · have HS2 : Hid (tkD (mF (near.drop (i + 1))) X u want (m + 1) = (j : Int)) := Lib.hid (by rw [HSTEP.out, if_pos]; rw [hokt]; exact decide_eq_true hwt)
                have hd : ((1 + (p : Int)) == (want : Int)) = true := by rw [beq_iff_eq]; omega
                have hd2 : decide (1 + (p : Int) = (want : Int)) = true := decide_eq_true (by omega)
                clear hXj hxj hz3 hp hokt hwt
                go_wp2_with fail
                refine HBX.out.mono ?_
                clear HBX
                rintro e W ⟨rfl, rfl⟩
                go_wp2_with fail
                refine HBx.out.mono ?_
                clear HBx
                rintro e W ⟨rfl, rfl⟩
                go_wp2_with fail
                rw [← HZ.out]
                refine HREC.out.mono ?_
                clear HREC
                rintro e W3 ⟨rfl, hH3, L3, hm3, hme3⟩
                have HB3 := Lib.hid (HB2.out.trans (hH3.to (B := R) (by have := HRR.out; omega) (by simp)))
                have HO3 := Lib.hid (own_heldR HO2.out hH3 (by simp))
                have HM3 := Lib.hid hm3
                have HME3 := Lib.hid hme3
                clear hH3 hm3 hme3
                go_wp2_with fail
                go_roundw
                case rel => exact ⟨m + 1, L3, by omega, by rw [← HJN.out], by rw [HS2.out], HB3.out, HM3.out, HME3.out, HO3.out⟩
                case measure => simp [intOf] <;> omega
              · have HS2 : Hid (tkD (mF (near.drop (i + 1))) X u want (m + 1) = t) := Lib.hid (by rw [HSTEP.out, if_neg]; rw [hokt]; simpa using hwt)
                have hd : ((1 + (p : Int)) == (want : Int)) = false := by rw [beq_eq_false_iff_ne]; omega
                have hd2 : decide (1 + (p : Int) = (want : Int)) = false := decide_eq_false (by omega)
                clear hXj hxj hz3 hp hokt hwt
                go_wp2_with fail
                refine HBX.out.mono ?_
                clear HBX
                rintro e W ⟨rfl, rfl⟩
                go_wp2_with fail
                refine HBx.out.mono ?_
                clear HBx
                rintro e W ⟨rfl, rfl⟩
                go_wp2_with fail
                rw [← HZ.out]
                refine HREC.out.mono ?_
                clear HREC
                rintro e W3 ⟨rfl, hH3, L3, hm3, hme3⟩
                have HB3 := Lib.hid (HB2.out.trans (hH3.to (B := R) (by have := HRR.out; omega) (by simp)))
                have HO3 := Lib.hid (own_heldR HO2.out hH3 (by simp))
                have HM3 := Lib.hid hm3
                have HME3 := Lib.hid hme3
                clear hH3 hm3 hme3
                go_wp2_with fail
                go_roundw
                case rel => exact ⟨m + 1, L3, by omega, by rw [← HJN.out], by rw [HS2.out], HB3.out, HM3.out, HME3.out, HO3.out⟩
                case measure => simp [intOf] <;> omega
        · obtain rfl : m = 8 := by omega
          rw [← HTT.out] at HST
          have hm1 : (7 : Int) - ((8 : Nat) : Int) = -1 := rfl
          rw [hm1]
          have hneg : decide ((0 : Int) ≤ -1) = false := by decide
          clear hb hm hme how hstep ht
          have hrow : ∀ g, blkOf A5 = some g → R ≤ g := fun g hg => by have := (HO2.out.lt g hg).1; omega
          have HROW := Lib.hid hrow
          clear hrow
          have hR1 : R + 1 ≤ w2.heap.size := HM2.out.lt
          have hRne : ∀ g, blkOf A5 = some g → some R ≠ some g := fun g hg e => by
            have := (HO2.out.lt g hg).1
            injection e with e
            omega
          have HRNE := Lib.hid hRne
          clear hRne
          rcases htin with h | ⟨j, hj8, h, -⟩
          · subst h
            have HS3 : Hid (pairsTo near (i + 1) = (l ++ [-1], u)) := Lib.hid (by rw [HST.out, if_neg (by omega)])
            have hd : decide ((0 : Int) ≤ -1) = false := by decide
            go_wp2_with (at_builtin; go_loud (refine wpList_push rfl _ _ _ rfl (R + 1) 1 3 (.int .i64 0) 8 Tryd.underlying23 (by kernel_rfl) rfl (by omega) icell w2 #[.int .i64 (-1)] A5 i cap5 l HPL.out rfl HO2.out 1 [-1] rfl rfl _ rfl rfl (by simp [Value.oneCell']) (by unfold maxLen; omega) (by omega) hR1 ?_; intro A6 c6 w4 hown4 hgrow hloc))
            have hm4 : MapB w4 R kvu L := (HM2.out.alloc _).grown hgrow (fun e => HRNE.out R e.symm rfl)
            have HB4 := Lib.hid ((HB2.out.alloc (by have := HRR.out; omega) (.cells #[.int .i64 (-1)] 3)).grown hgrow (by rw [size_alloc']; omega) HROW.out)
            have HM4 := Lib.hid hm4
            have HO4 := Lib.hid hown4
            clear hm4 hown4 hgrow hloc
            go_roundw
            case rel => exact ⟨i + 1, A6, c6, L, by omega, by go_num, by rw [HS3.out], rfl, HB4.out, HM4.out, HME2.out, by rw [HS3.out]; exact HO4.out⟩
            case measure => simp [intOf] <;> omega
          · subst h
            have HS3 : Hid (pairsTo near (i + 1) = (l ++ [(j : Int)], wAdd u (wShl w1 j))) := Lib.hid (by rw [HST.out, if_pos (by omega), Int.toNat_natCast])
            have hd : decide ((0 : Int) ≤ (j : Int)) = true := decide_eq_true (by omega)
            go_wp2_with (at_builtin; go_loud (refine wpList_push rfl _ _ _ rfl (R + 1) 1 3 (.int .i64 0) 8 Tryd.underlying23 (by kernel_rfl) rfl (by omega) icell w2 #[.int .i64 (j : Int)] A5 i cap5 l HPL.out rfl HO2.out 1 [(j : Int)] rfl rfl _ rfl rfl (by simp [Value.oneCell']) (by unfold maxLen; omega) (by omega) hR1 ?_; intro A6 c6 w4 hown4 hgrow hloc))
            have hm4 : MapB w4 R kvu L := (HM2.out.alloc _).grown hgrow (fun e => HRNE.out R e.symm rfl)
            have HB4 := Lib.hid ((HB2.out.alloc (by have := HRR.out; omega) (.cells #[.int .i64 (j : Int)] 3)).grown hgrow (by rw [size_alloc']; omega) HROW.out)
            have HM4 := Lib.hid hm4
            have HO4 := Lib.hid hown4
            clear hm4 hown4 hgrow hloc
            go_roundw
            case rel => exact ⟨i + 1, A6, c6, L, by omega, by go_num, by rw [HS3.out], rfl, HB4.out, HM4.out, HME2.out, by rw [HS3.out]; exact HO4.out⟩
            case measure => simp [intOf] <;> omega
    · obtain rfl : i = n := by omega
      have HB := Lib.hid hb
      have HO := Lib.hid how
      clear hb how hm hme hst
      go_wp2_with fail
      go_ret
      exact ⟨A5, cap5, rfl, by rw [← HRR.out]; exact HB.out, by rw [← HLL.out, ← HRR.out]; exact HO.out.weaken (Nat.le_succ _)⟩
end Go.Proofs.YtokmialpclcodaaDoor
