/- The rank of a set; whether it is free: the reference's walk. Conditions: the words read as a list. -/
import Derived.Test.YtnpcbbdfpbnakaaDoorLotsS
namespace Go.Proofs.YtnpcbbdfpbnakaaDoor
open Go.RowKit
attribute [local go_sem ↓] w_and w_or w_xor w_andNot w_and1 w_and255 w_xor1 w_or0 w_shl w_shl1 w_shr w_sub w_add w_sub1 w_add1
attribute [local go_sem] w_eq0 w_ne0 w_eq1 w_eq w_ne

set_option maxRecDepth 100000 in
theorem ref_Free (A : Option Addr) (n c : Nat) (l : List (BitVec 32)) (x : BitVec 32) (w : World) (hl : l.length = n) (hn : n ≤ 32) (hr : Els w w.heap.size 1 wcell A l) :
    Calls Tryd.prog 67 #[.slice A n c, .int .u32 (wN x)] w fun e w' => ∃ b : Bool, e = .returned (.bool b) ∧ (b = true ↔ FreeW l x n) ∧ w = w' := by
  have HS := fun (s : BitVec 32) => Lib.hid (ref_sum A n c l s w hl hn hr)
  clear hl hr
  go_enter Tryd.func67, Tryd.ntmps67
  go_wp2_with fail
  go_loopw [5] (fun i wr => ∃ s : BitVec 32, i = .int .u32 (wN s) ∧ Sb s x ∧ (∀ t, Sb t x → s.toNat < t.toNat → sumW l t n ≠ w0) ∧ w = wr) (fun i _ => (intOf i).toNat)
  case atStart => exact ⟨x, rfl, Sb_self x, fun t ht hlt => absurd (sub_le ht) (by omega), rfl⟩
  case round =>
    rename World => wr
    obtain ⟨s, rfl, hs, hno, rfl⟩ := hrel
    have HSB := Lib.hid hs
    have HNO := Lib.hid hno
    clear hs hno
    by_cases h0 : s = w0
    · have hg : ¬ (0 < wN s) := by rw [h0]; simp [wN_0]
      have hd : decide (0 < wN s) = false := decide_eq_false hg
      have H0 := Lib.hid h0
      clear h0 hg
      go_wp2_with fail
      go_ret
      refine ⟨true, rfl, ⟨fun _ t ht h1 => HNO.out t ht ?_, fun _ => rfl⟩, rfl⟩
      rw [H0.out]
      exact lot_pos h1
    · have hp := lot_pos h0
      have hg : 0 < wN s := by unfold wN; omega
      have HS1 := HS s
      have H0 := Lib.hid h0
      clear h0 hp
      go_wp2_with fail
      refine HS1.out.mono ?_
      clear HS1
      rintro e w' ⟨rfl, rfl⟩
      by_cases hz : sumW l s n = w0
      · have hzz : (sumW l s n == w0) = true := by simp [hz]
        have HZ := Lib.hid hz
        clear hz
        go_wp2_with fail
        go_ret
        exact ⟨false, rfl, ⟨fun h => (by cases h), fun h => absurd HZ.out (h s HSB.out H0.out)⟩, rfl⟩
      · have hzz : (sumW l s n == w0) = false := by simp [hz]
        have HZ := Lib.hid hz
        clear hz
        go_wp2_with fail
        go_roundw
        case rel =>
          refine ⟨wAnd (wSub s w1) x, rfl, lotNext_sb s x, fun t ht hlt => ?_, trivial⟩
          rcases Nat.lt_trichotomy t.toNat s.toNat with e | e | e
          · have := lotNext_top HSB.out ht e
            omega
          · rw [BitVec.eq_of_toNat_eq e]
            exact HZ.out
          · exact HNO.out t ht e
        case measure => exact lotNext_lt H0.out
theorem half_pow (k : Nat) : ((2 ^ (k + 1) : Nat) : Int) / 2 = ((2 ^ k : Nat) : Int) := by
  rw [Nat.pow_succ]
  omega
set_option maxRecDepth 100000 in
set_option maxHeartbeats 1000000 in
theorem ref_Rank (A : Option Addr) (n c : Nat) (l : List (BitVec 32)) (x : BitVec 32) (w : World) (hl : l.length = n) (hn : n ≤ 10) (hr : Els w w.heap.size 1 wcell A l) (hx : x.toNat < 2 ^ n) :
    Calls Tryd.prog 29 #[.slice A n c, .int .u32 (wN x)] w fun e w' => e = .returned (.int .i64 (rk ((bitsL x).map (lw l)).reverse)) ∧ Below w.heap.size w w' := by
  have HS := fun (s : BitVec 32) (w1 : World) (hb : Below w.heap.size w w1) => Lib.hid (ref_sum A n c l s w1 hl (by omega) ((hr.below hb).more hb.size))
  have hM0 := MapB.made (kv := lotV) w
  have hB0 := (Below.refl w.heap.size w).alloc (Nat.le_refl _) (.map #[] 0)
  have HM0 := Lib.hid hM0
  have HB0 := Lib.hid hB0
  have HX := Lib.hid hx
  have hrk : rk ((bitsL x).map (lw l)).reverse ≤ 10 := by
    have h1 := rk_le ((bitsL x).map (lw l)).reverse
    rw [List.length_reverse, List.length_map] at h1
    have h2 : (bitsL x).length ≤ n := by
      have hs : ∀ i ∈ bitsL x, i ∈ List.range n := fun i hi => List.mem_range.2 (bits_below hx i hi)
      have := (bitsL_nodup x).length_le_of_subset hs
      rwa [List.length_range] at this
    omega
  obtain ⟨R, hR⟩ : ∃ R, R = rk ((bitsL x).map (lw l)).reverse := ⟨_, rfl⟩
  rw [← hR] at hrk ⊢
  have HR := Lib.hid hR
  clear hl hr hM0 hB0 hx hR
  have hmk : (Instr.makeMap 90 none).run Tryd.prog w = .ok (.map (some w.heap.size)) (w.alloc (.map #[] 0)) := run_makeMap _ _
  go_enter Tryd.func29, Tryd.ntmps29
  go_wp2_with fail
  obtain ⟨S, hS⟩ : ∃ S, S = w.heap.size := ⟨_, rfl⟩
  rw [← hS] at HM0 ⊢
  have HSE := Lib.hid hS
  clear hS
  go_loopw [6, 7] (fun m i wr => ∃ (s : BitVec 32) (K : List (BitVec 32)), m = .int .i64 K.length ∧ i = .int .u32 (wN s) ∧ Sb s x ∧ SumsTo l x n K (s.toNat + 1) ∧ MapB wr S lotV (seenL K) ∧ Below w.heap.size w wr) (fun _ i _ => (intOf i).toNat)
  case atStart => exact ⟨x, [], rfl, rfl, Sb_self x, SumsTo.start l x n, HM0.out, HB0.out⟩
  case round =>
    clear HM0 HB0
    rename World => wr
    obtain ⟨s, K, rfl, rfl, hs, hk, hm, hb⟩ := hrel
    have HS1 := HS s wr hb
    have hlook := run_look (P := Tryd.prog) (keyL_word Tryd.underlying46) Tryd.underlying90 (z := .bool false) (fun u => by kernel_rfl) hm (sumW l s n) false
    rw [getK_seen] at hlook
    have HSB := Lib.hid hs
    have HK := Lib.hid hk
    have HM := Lib.hid hm
    have HB := Lib.hid hb
    clear hs hk hm hb
    have fin : ∀ (K2 : List (BitVec 32)) (w2 : World), s = w0 → SumsTo l x n K2 s.toNat → K2.length = 2 ^ R := fun K2 w2 h0 h2 => by rw [HR.out]; exact h2.done (by omega) HX.out h0
    by_cases hin : sumW l s n ∈ K
    · rw [if_pos hin] at hlook
      simp only [Bool.false_eq_true, if_false, Option.getD_some] at hlook
      have HK2 := Lib.hid (HK.out.old HSB.out hin)
      clear hin
      by_cases h0 : s = w0
      · have hd : (s == w0) = true := by simp [h0]
        have HF : Hid ((K.length : Int) = ((2 ^ R : Nat) : Int)) := Lib.hid (by have := fin _ wr h0 HK2.out; omega)
        clear h0 fin
        go_wp2_with fail
        refine HS1.out.mono ?_
        clear HS1
        rintro e w' ⟨rfl, rfl⟩
        have HBW := Lib.hid HB.out
        go_wp2_with fail
        go_loopw [6, 9] (fun m i wx => ∃ a b : Nat, a + b = R ∧ m = .int .i64 ((2 ^ a : Nat) : Int) ∧ i = .int .i64 b ∧ Below w.heap.size w wx) (fun m _ _ => (intOf m).toNat)
        case atStart => exact ⟨R, 0, rfl, by rw [HF.out], rfl, HBW.out⟩
        case round =>
          clear HBW HM HB HK HF
          rename World => wx
          obtain ⟨a, b, hab, rfl, rfl, hbx⟩ := hrel
          have HBX := Lib.hid hbx
          clear hbx
          cases a with
          | zero =>
            have h1 : decide ((1 : Int) < ((2 ^ 0 : Nat) : Int)) = false := by decide
            go_wp2_with fail
            go_ret
            exact ⟨ret_i64 (by omega), HBX.out⟩
          | succ a =>
            have hq := half_pow a
            have hp := Nat.two_pow_pos a
            have hp2 : 2 ^ (a + 1) = 2 * 2 ^ a := by rw [Nat.pow_succ]; omega
            have hle : 2 ^ (a + 1) ≤ 2 ^ 10 := Nat.pow_le_pow_right (by omega) (by omega)
            have hmv : (Value.int .i64 ((2 ^ a : Nat) : Int)) = .int .i64 ((2 ^ a : Nat) : Int) := rfl
            obtain ⟨q, hqe⟩ : ∃ q, q = 2 ^ a := ⟨_, rfl⟩
            obtain ⟨p, hpe⟩ : ∃ p, p = 2 ^ (a + 1) := ⟨_, rfl⟩
            have HQE := Lib.hid hqe
            rw [← hpe] at hq hp2 hle ⊢
            rw [← hqe] at hq hp hp2
            clear hqe hpe hmv
            go_wp2_with fail
            go_roundw
            case rel => exact ⟨a, b + 1, by omega, by rw [HQE.out], rfl, HBX.out⟩
            case measure =>
              show ((q : Int)).toNat < ((p : Int)).toNat
              omega
      · have hd : (s == w0) = false := by simp [h0]
        have H0 := Lib.hid h0
        clear h0 fin
        go_wp2_with fail
        refine HS1.out.mono ?_
        clear HS1
        rintro e w' ⟨rfl, rfl⟩
        go_wp2_with fail
        go_roundw
        case rel => exact ⟨wAnd (wSub s w1) x, K, rfl, rfl, lotNext_sb s x, HK2.out.next HSB.out H0.out, HM.out, HB.out⟩
        case measure => exact lotNext_lt H0.out
    · rw [if_neg hin] at hlook
      simp only [Bool.false_eq_true, if_false, Option.getD_none] at hlook
      obtain ⟨W2, hput, hM2, hgrow, hsz⟩ := run_put (P := Tryd.prog) (keyL_word Tryd.underlying46) Tryd.underlying90 HM.out (sumW l s n) (.bool true)
      rw [putK_seen hin] at hM2
      have HK2 := Lib.hid (HK.out.new HSB.out hin)
      have HM2 := Lib.hid hM2
      have HBW := Lib.hid (HB.out.grown hgrow HB.out.size (fun g hg => by cases hg; rw [HSE.out]; exact Nat.le_refl _))
      have hkl : (K ++ [sumW l s n]).length = K.length + 1 := by simp
      have hk1024 : K.length ≤ 1024 := by
        have h1 : ∀ y ∈ K, y ∈ spanL ((bitsL x).map (lw l)).reverse := fun y hy => (mem_span _ _).2 ((Sp_sums l (by omega) HX.out y).2 (by obtain ⟨t, h1, _, h3⟩ := (HK.out.2 y).1 hy; exact ⟨t, h1, h3⟩))
        have h2 := HK.out.1.length_le_of_subset h1
        rw [span_len, ← HR.out] at h2
        exact Nat.le_trans h2 (Nat.le_trans (Nat.pow_le_pow_right (by omega) hrk) (by omega))
      clear hin hM2 hgrow hsz
      by_cases h0 : s = w0
      · have hd : (s == w0) = true := by simp [h0]
        have HF : Hid ((K.length : Int) + 1 = ((2 ^ R : Nat) : Int)) := Lib.hid (by have := fin _ W2 h0 HK2.out; rw [hkl] at this; omega)
        clear h0 fin
        go_wp2_with fail
        refine HS1.out.mono ?_
        clear HS1
        rintro e w' ⟨rfl, rfl⟩
        go_wp2_with fail
        go_loopw [6, 9] (fun m i wx => ∃ a b : Nat, a + b = R ∧ m = .int .i64 ((2 ^ a : Nat) : Int) ∧ i = .int .i64 b ∧ Below w.heap.size w wx) (fun m _ _ => (intOf m).toNat)
        case atStart => exact ⟨R, 0, rfl, by rw [HF.out], rfl, HBW.out⟩
        case round =>
          clear HBW HM HB HK HF
          rename World => wx
          obtain ⟨a, b, hab, rfl, rfl, hbx⟩ := hrel
          have HBX := Lib.hid hbx
          clear hbx
          cases a with
          | zero =>
            have h1 : decide ((1 : Int) < ((2 ^ 0 : Nat) : Int)) = false := by decide
            go_wp2_with fail
            go_ret
            exact ⟨ret_i64 (by omega), HBX.out⟩
          | succ a =>
            have hq := half_pow a
            have hp := Nat.two_pow_pos a
            have hp2 : 2 ^ (a + 1) = 2 * 2 ^ a := by rw [Nat.pow_succ]; omega
            have hle : 2 ^ (a + 1) ≤ 2 ^ 10 := Nat.pow_le_pow_right (by omega) (by omega)
            have hmv : (Value.int .i64 ((2 ^ a : Nat) : Int)) = .int .i64 ((2 ^ a : Nat) : Int) := rfl
            obtain ⟨q, hqe⟩ : ∃ q, q = 2 ^ a := ⟨_, rfl⟩
            obtain ⟨p, hpe⟩ : ∃ p, p = 2 ^ (a + 1) := ⟨_, rfl⟩
            have HQE := Lib.hid hqe
            rw [← hpe] at hq hp2 hle ⊢
            rw [← hqe] at hq hp hp2
            clear hqe hpe hmv
            go_wp2_with fail
            go_roundw
            case rel => exact ⟨a, b + 1, by omega, by rw [HQE.out], rfl, HBX.out⟩
            case measure =>
              show ((q : Int)).toNat < ((p : Int)).toNat
              omega
      · have hd : (s == w0) = false := by simp [h0]
        have H0 := Lib.hid h0
        have HKL := Lib.hid hkl
        clear h0 fin
        go_wp2_with fail
        refine HS1.out.mono ?_
        clear HS1
        rintro e w' ⟨rfl, rfl⟩
        go_wp2_with fail
        go_roundw
        case rel => exact ⟨wAnd (wSub s w1) x, K ++ [sumW l s n], by rw [HKL.out]; rfl, rfl, lotNext_sb s x, HK2.out.next HSB.out H0.out, HM2.out, HBW.out⟩
        case measure => exact lotNext_lt H0.out
end Go.Proofs.YtnpcbbdfpbnakaaDoor
