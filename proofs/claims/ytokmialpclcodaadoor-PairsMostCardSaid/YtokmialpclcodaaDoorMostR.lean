/- How many can be paired from one on, by a table; whom each takes: the reference's walks. Conditions: the words read as a list. -/
import Derived.Test.YtokmialpclcodaaDoorMostQ
import Derived.Test.YtokmialpclcodaaDoorMaps
import Derived.Test.YtokmialpclcodaaDoorBit
import Derived.Test.YtokmialpclcodaaDoorCount
import Derived.Test.YtokmialpclcodaaDoorTurned
import Derived.Test.YtokmialpclcodaaDoorMarks
import Derived.Test.YtokmialpclcodaaDoorHeldB
import Derived.IntWalk
namespace Go.Proofs.YtokmialpclcodaaDoor
open Go.RowKit
attribute [local go_sem ↓] w_and w_or w_xor w_andNot w_and1 w_and255 w_xor1 w_or0 w_shl w_shl1 w_shr w_sub w_add w_sub1 w_add1
attribute [local go_sem] w_eq0 w_ne0 w_eq1 w_eq w_ne

theorem keyL_w {P : Program} {t : TypeId} (h : P.underlying t = some (.int .u32)) : KeyL P t (fun n : Int => .int .u32 n) where
  chk b a w := MapKept.run_checkKey h (by simp [MapKept.IsKey]) b 9999
  eqv a b w := by
    unfold Op.equal
    rw [show Op.maxDepth = 9999 + 1 from rfl, run_equalIn_int w 9999 t .u32 .u32 a b h]
    rfl
  desc := ⟨_, h, .inr fun a b => by simp [Instr.sameNow]; rfl⟩
  self a := by simp [Instr.sameBits]
abbrev kvu : Int → Value := fun n => .int .u32 n
def keyP (u k : Nat) : Int := ((u * 16 + k : Nat) : Int)
def MemoP (f : Nat → Nat → Nat) (L : List (Int × Value)) : Prop := ∀ u k v, k ≤ 8 → getK L (keyP u k) = some v → v = .int .i64 (f u k)
theorem MemoP.put {f : Nat → Nat → Nat} {L : List (Int × Value)} (h : MemoP f L) {u k : Nat} (hk : k ≤ 8) : MemoP f (putK L (keyP u k) (.int .i64 (f u k))) := fun u' k' v hk' hy => by
  by_cases e : keyP u' k' = keyP u k
  · rw [e, getK_put_same] at hy
    injection hy with hy
    unfold keyP at e
    have e1 : u' = u := by omega
    have e2 : k' = k := by omega
    rw [e1, e2]
    exact hy.symm
  · rw [getK_put_other L _ e] at hy
    exact h u' k' v hk' hy
abbrev mostK (near : List (BitVec 32)) (u k : Nat) : Nat := mF (near.drop k) (nw u)
theorem word8_lt {x : BitVec 32} (hx : ∀ j, x.getLsbD j = true → j < 8) : x.toNat < 256 := Nat.lt_pow_two_of_testBit (n := 8) _ fun j hj => by
  cases h : x.toNat.testBit j with
  | false => rfl
  | true =>
    have := hx j (by unfold BitVec.getLsbD; exact h)
    omega

set_option maxRecDepth 100000 in
set_option maxHeartbeats 1000000 in
theorem ref_most (near : List (BitVec 32)) (n r B c : Nat) (A : Option Addr) (hl : near.length = n) (h8 : n ≤ 8) (hBr : B ≤ r) : ∀ (d k : Nat) (x : BitVec 32) (w : World) (L : List (Int × Value)), k + d = n → (∀ j, x.getLsbD j = true → j < 8) → Els w B 1 wcell A near → B ≤ w.heap.size → MapB w r kvu L → MemoP (mostK near) L →
    Calls Tryd.prog 34 #[.slice A n c, .int .i64 k, .int .u32 (wN x), .map (some r)] w fun e w' => e = .returned (.int .i64 (mF (near.drop k) x : Nat)) ∧ Held [r] w w' ∧ ∃ L', MapB w' r kvu L' ∧ MemoP (mostK near) L' := by
  intro d
  induction d with
  | zero =>
    intro k x w L hkd hx hr hBw hm hme
    obtain rfl : k = n := by omega
    have e0 : mF (near.drop k) x = 0 := by
      rw [List.drop_of_length_le (by omega)]
      rfl
    rw [e0]
    have HME := Lib.hid hme
    have HM := Lib.hid hm
    clear hme hm hr e0
    go_enter Tryd.func34, Tryd.ntmps34
    go_wp2_with fail
    go_ret
    exact ⟨rfl, Held.refl [r] w, L, HM.out, HME.out⟩
  | succ d ih =>
    intro k x w L hkd hx hr hBw hm hme
    have hkn : k < n := by omega
    have hkl : k < near.length := by omega
    have hx1 := word8_lt hx
    have hmul : IntKind.u32.wrap (wN x * 16) = (x.toNat : Int) * 16 := by
      show IntKind.u32.wrap ((x.toNat : Int) * 16) = _
      unfold IntKind.wrap
      simp [IntKind.bits]
      omega
    have hck : IntKind.u32.wrap (k : Int) = k := by unfold IntKind.wrap; simp [IntKind.bits]; omega
    have hkey : (x.toNat : Int) * 16 + (k : Int) = keyP x.toNat k := by unfold keyP; omega
    have hadd : IntKind.u32.wrap ((x.toNat : Int) * 16 + (k : Int)) = (x.toNat : Int) * 16 + (k : Int) := by
      unfold IntKind.wrap
      simp [IntKind.bits]
      omega
    have hk1 : IntKind.i64.wrap ((k : Int) + 1) = ((k + 1 : Nat) : Int) := by rw [IntWalk.i64_in _ (by omega)]; omega
    have hrS : r < w.heap.size := hm.lt
    have hlook := run_look (P := Tryd.prog) (keyL_w Tryd.underlying51) Tryd.underlying57 (z := .int .i64 0) (fun u => by kernel_rfl) hm ((x.toNat : Int) * 16 + (k : Int)) true
    have hne : ((k : Int) == (n : Int)) = false := by simp; omega
    have HREC1 := Lib.hid (ih (k + 1) x w L (by omega) hx hr hBw hm hme)
    have HIH := Lib.hid ih
    have HM := Lib.hid hm
    have HR := Lib.hid hr
    have HME := Lib.hid hme
    have HKEY := Lib.hid hkey
    have HL := Lib.hid hl
    have HX := Lib.hid hx
    have hmc := mF_cons near hkl x
    obtain ⟨X, hX⟩ : ∃ X, X = lw near k := ⟨_, rfl⟩
    rw [← hX] at hmc
    have HMC := Lib.hid hmc
    have HXX := Lib.hid hX
    clear hr hm hme hkey hx ih hmc hX
    cases hgk : getK L ((x.toNat : Int) * 16 + (k : Int)) with
    | some v =>
      have hv := HME.out x.toNat k v (by omega) (by rw [← HKEY.out]; exact hgk)
      subst hv
      rw [hgk] at hlook
      obtain ⟨res, hres⟩ : ∃ res, res = mF (near.drop k) x := ⟨_, rfl⟩
      have hres' : mostK near x.toNat k = res := by unfold mostK; rw [nw_toNat, ← hres]
      rw [← hres]
      rw [hres'] at hlook
      simp only [Option.getD_some, Option.isSome_some] at hlook
      clear hgk hres hres'
      go_enter Tryd.func34, Tryd.ntmps34
      go_wp2_with fail
      go_ret
      exact ⟨rfl, Held.refl _ _, L, HM.out, HME.out⟩
    | none =>
      rw [hgk] at hlook
      simp only [Option.getD_none, Option.isSome_none] at hlook
      clear hgk
      go_enter Tryd.func34, Tryd.ntmps34
      go_wp2_with fail
      refine HREC1.out.mono ?_
      clear HREC1 hlook
      rintro e W2 ⟨rfl, hH2, L2, hm2, hme2⟩
      have hb0 : mF (near.drop (k + 1)) x ≤ 8 := Nat.le_trans (mF_le _ _) (by rw [List.length_drop]; omega)
      have HH2 := Lib.hid hH2
      have HM2 := Lib.hid hm2
      have HME2 := Lib.hid hme2
      clear hH2 hm2 hme2
      go_wp2_with fail
      go_loopw [12, 10] (fun s12 s10 wr => ∃ (j : Nat) (L' : List (Int × Value)), j ≤ 8 ∧ s12 = .int .i64 j ∧ s10 = .int .i64 (mJ (mF (near.drop (k + 1))) X x j : Nat) ∧ Held [r] w wr ∧ MapB wr r kvu L' ∧ MemoP (mostK near) L') (fun s12 _ _ => 8 - (intOf s12).toNat)
      case atStart => exact ⟨0, L2, by omega, rfl, rfl, HH2.out, HM2.out, HME2.out⟩
      case round =>
        clear HH2 HM2 HME2
        rename World => wr
        obtain ⟨j, L', hj, rfl, rfl, hH, hm, hme⟩ := hrel
        have HH := Lib.hid hH
        have HM := Lib.hid hm
        have HME := Lib.hid hme
        have hz := hH.size
        have hmj8 : mJ (mF (near.drop (k + 1))) X x j ≤ 9 := by
          rcases mJ_is (mF (near.drop (k + 1))) X x j with h | ⟨q, _, _, _, h⟩
          · omega
          · have := mF_le (near.drop (k + 1)) (wAdd x (wShl w1 q))
            rw [List.length_drop] at this
            omega
        obtain ⟨m, hmm⟩ : ∃ m, m = mJ (mF (near.drop (k + 1))) X x j := ⟨_, rfl⟩
        have hstep : mJ (mF (near.drop (k + 1))) X x (j + 1) = if (X.getLsbD j = true ∧ x.getLsbD j = false) ∧ m < 1 + mF (near.drop (k + 1)) (wAdd x (wShl w1 j)) then 1 + mF (near.drop (k + 1)) (wAdd x (wShl w1 j)) else m := by rw [hmm, mJ]
        rw [← hmm] at hmj8 ⊢
        have HMM := Lib.hid hmm
        have HST := Lib.hid hstep
        by_cases hj8 : j < 8
        · obtain ⟨nb, no, hA, _, g0⟩ := (HR.out.below (hH.to hBw (by simp; omega))).at1 (f := fun x : BitVec 32 => .int .u32 (wN x)) hkl
          subst hA
          rw [← lw_at near k hkl, ← HXX.out] at g0
          have hd8 : decide ((j : Int) < 8) = true := decide_eq_true (by omega)
          have hbX : bitB X (j : Int) = X.getLsbD j := bitB_nat X j
          have hbx : bitB x (j : Int) = x.getLsbD j := bitB_nat x j
          have HBX := Lib.hid (Bit_any X (j : Int) wr)
          have HBx := Lib.hid (Bit_any x (j : Int) wr)
          rw [hbX] at HBX
          rw [hbx] at HBx
          clear hH hm hme hmm hstep hbX hbx
          cases hXj : X.getLsbD j with
          | false =>
            have HS2 := Lib.hid (HST.out.trans (if_neg (fun h => by rw [hXj] at h; cases h.1.1)))
            rw [hXj] at HBX
            clear hXj
            go_wp2_with fail
            refine HBX.out.mono ?_
            clear HBX
            rintro e W ⟨rfl, rfl⟩
            go_wp2_with fail
            go_roundw
            case rel => exact ⟨j + 1, L', by omega, by go_num, by rw [HS2.out], HH.out, HM.out, HME.out⟩
            case measure => simp [intOf]; omega
          | true =>
            rw [hXj] at HBX
            cases hxj : x.getLsbD j with
            | true =>
              have HS2 := Lib.hid (HST.out.trans (if_neg (fun h => by rw [hxj] at h; cases h.1.2)))
              rw [hxj] at HBx
              clear hXj hxj
              go_wp2_with fail
              refine HBX.out.mono ?_
              clear HBX
              rintro e W ⟨rfl, rfl⟩
              go_wp2_with fail
              refine HBx.out.mono ?_
              clear HBx
              rintro e W ⟨rfl, rfl⟩
              go_wp2_with fail
              go_roundw
              case rel => exact ⟨j + 1, L', by omega, by go_num, by rw [HS2.out], HH.out, HM.out, HME.out⟩
              case measure => simp [intOf]; omega
            | false =>
              rw [hxj] at HBx
              obtain ⟨z, hz2⟩ : ∃ z, z = wAdd x (wShl w1 j) := ⟨_, rfl⟩
              rw [← hz2] at HST
              have HREC2 := Lib.hid (HIH.out (k + 1) z wr L' (by omega) (by rw [hz2]; exact add_bits HX.out hj8 hxj) (HR.out.below (HH.out.to hBw (by simp; omega))) (by omega) HM.out HME.out)
              have hb1 : mF (near.drop (k + 1)) z ≤ 8 := Nat.le_trans (mF_le _ _) (by rw [List.length_drop]; have := HL.out; omega)
              obtain ⟨p, hp⟩ : ∃ p, p = mF (near.drop (k + 1)) z := ⟨_, rfl⟩
              rw [← hp] at HREC2 hb1 HST
              have HZ := Lib.hid hz2
              by_cases hlt : m < 1 + p
              · have HS2 := Lib.hid (HST.out.trans (if_pos ⟨⟨hXj, hxj⟩, hlt⟩))
                have hd : decide ((m : Int) < 1 + (p : Int)) = true := decide_eq_true (by omega)
                clear hXj hxj hz2 hp
                go_wp2_with fail
                refine HBX.out.mono ?_
                clear HBX
                rintro e W ⟨rfl, rfl⟩
                go_wp2_with fail
                refine HBx.out.mono ?_
                clear HBx
                rintro e W ⟨rfl, rfl⟩
                go_wp2_with fail
                rw [← HZ.out]
                refine HREC2.out.mono ?_
                clear HREC2
                rintro e W3 ⟨rfl, hH3, L3, hm3, hme3⟩
                have HH3 := Lib.hid (HH.out.then hH3 (by simp))
                have HM3 := Lib.hid hm3
                have HME3 := Lib.hid hme3
                clear hH3 hm3 hme3
                go_wp2_with fail
                go_roundw
                case rel => exact ⟨j + 1, L3, by omega, by go_num, by rw [HS2.out]; go_num, HH3.out, HM3.out, HME3.out⟩
                case measure => simp [intOf]; omega
              · have HS2 := Lib.hid (HST.out.trans (if_neg (fun h => hlt h.2)))
                have hd : decide ((m : Int) < 1 + (p : Int)) = false := decide_eq_false (by omega)
                clear hXj hxj hz2 hp
                go_wp2_with fail
                refine HBX.out.mono ?_
                clear HBX
                rintro e W ⟨rfl, rfl⟩
                go_wp2_with fail
                refine HBx.out.mono ?_
                clear HBx
                rintro e W ⟨rfl, rfl⟩
                go_wp2_with fail
                rw [← HZ.out]
                refine HREC2.out.mono ?_
                clear HREC2
                rintro e W3 ⟨rfl, hH3, L3, hm3, hme3⟩
                have HH3 := Lib.hid (HH.out.then hH3 (by simp))
                have HM3 := Lib.hid hm3
                have HME3 := Lib.hid hme3
                clear hH3 hm3 hme3
                go_wp2_with fail
                go_roundw
                case rel => exact ⟨j + 1, L3, by omega, by go_num, by rw [HS2.out], HH3.out, HM3.out, HME3.out⟩
                case measure => simp [intOf]; omega
        · obtain rfl : j = 8 := by omega
          have hres : mF (near.drop k) x = m := by rw [HMC.out, HMM.out]
          obtain ⟨W9, hput, hm9, hgr9, hsz9⟩ := run_put (P := Tryd.prog) (keyL_w Tryd.underlying51) Tryd.underlying57 hm ((x.toNat : Int) * 16 + (k : Int)) (.int .i64 (m : Nat))
          have hme9 : MemoP (mostK near) (putK L' ((x.toNat : Int) * 16 + (k : Int)) (.int .i64 (m : Nat))) := by
            rw [HKEY.out, ← hres]
            have := hme.put (u := x.toNat) (k := k) (by omega)
            unfold mostK at this
            rwa [nw_toNat] at this
          have HH9 := Lib.hid (hH.turned hgr9 (by simp))
          have HM9 := Lib.hid hm9
          have HME9 := Lib.hid hme9
          have HRES := Lib.hid hres
          have hd8 : decide (((8 : Nat) : Int) < 8) = false := by decide
          clear hm9 hme9 hres hgr9 hsz9 hH hm hme hmm hstep
          go_wp2_with fail
          go_ret
          exact ⟨by rw [HRES.out]; rfl, HH9.out, _, HM9.out, HME9.out⟩
end Go.Proofs.YtokmialpclcodaaDoor
