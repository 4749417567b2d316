/- How many parts of what is left have an odd number of nodes: the program's count. Conditions: the words are those of a graph that may be; the table. -/
import Derived.Test.YtnpcbbdfpbnakaaDoorLaneP
namespace Go.Proofs.YtnpcbbdfpbnakaaDoor
open Go.RowKit
attribute [local go_sem ↓] w_and w_or w_xor w_andNot w_and1 w_and255 w_xor1 w_or0 w_shl w_shl1 w_shr w_sub w_add w_sub1 w_add1
attribute [local go_sem] w_eq0 w_ne0 w_eq1 w_eq w_ne

theorem w_neg (x : BitVec 32) : Op.intArith .sub .u32 0 (wN x) = pure (.int .u32 (wN (wSub w0 x))) := w_sub w0 x
attribute [local go_sem ↓] w_neg
theorem low_one_w {x : BitVec 32} (h : x ≠ w0) : wAnd x (wSub w0 x) = wShl w1 (tz x) := by
  rw [← low_one h]
  unfold wAnd wSub w0
  rw [BitVec.zero_sub]
theorem tmod2 (n : Nat) : ((n : Int).tmod 2) = ((n % 2 : Nat) : Int) := (Int.ofNat_tmod n 2).symm

set_option maxRecDepth 100000 in
set_option maxHeartbeats 1000000 in
theorem bonds_odd (N : Nat) (A : Option Addr) (c : Nat) (l : List Ed) (p : Nat → Nat) (x : BitVec 32) (w : World) (hg : GoodG N l) (hp : ∀ j, j < N → IsPart (withoutE l x) j (p j)) (hr : Els w w.heap.size 1 wcell A (nearL N l)) (htab : TabOk w) :
    Calls Tryd.prog 69 #[.slice A N c, .int .u32 (wN (wBut (maskW N) x))] w fun e w' => e = .returned (.int .i64 (oddP p x N N : Nat)) ∧ Below w.heap.size w w' := by
  have h0w : 0 < w.heap.size := Nat.lt_of_le_of_lt (Nat.zero_le _) htab.1
  have hN := hg.n10
  have HG := Lib.hid hg
  have HP := Lib.hid hp
  have HR := Lib.hid hr
  have HT := Lib.hid htab
  have HST := Lib.hid (OddI.start p x (show N < 32 by omega))
  clear hg hp hr htab
  go_enter Tryd.func69, Tryd.ntmps69
  go_wp2_with fail
  go_loopw [1, 5] (fun s1 s5 wr => ∃ (k : Nat) (left : BitVec 32), k ≤ N ∧ s1 = .int .u32 (wN left) ∧ s5 = .int .i64 (oddP p x N k : Nat) ∧ OddI p x N k left ∧ Below w.heap.size w wr) (fun s1 _ _ => (wordV s1).toNat)
  case atStart => exact ⟨0, _, by omega, rfl, rfl, HST.out, Below.refl _ _⟩
  case round =>
    clear HST
    rename World => wr
    obtain ⟨k, left, hk, rfl, rfl, ho, hb⟩ := hrel
    have hz := hb.size
    have HO := Lib.hid ho
    have HB := Lib.hid hb
    have hle := oddP_le p x N k
    clear ho hb
    by_cases h0 : left = w0
    · subst h0
      have hw0 : (w0 != w0) = false := by simp
      have HD := Lib.hid (oddP_done HO.out hk)
      go_wp2_with fail
      go_ret
      exact ⟨ret_i64 (by rw [HD.out]), HB.out⟩
    · have hyn : (left != w0) = true := by simpa using h0
      have HLOW := Lib.hid (low_one_w h0)
      have HBIT : Hid (∀ j, left.getLsbD j = true → j < N) := Lib.hid (fun j hj => ((HO.out.bit j).1 hj).1)
      have htz := HBIT.out _ (tz_bit h0)
      have HSP := Lib.hid (graph_Spread A N c (nearL N l) (wAnd left (wSub w0 left)) left wr (nearL_length _ _) (by omega) ((HR.out.below HB.out).more hz) (HT.out.below HB.out h0w) (by omega)
        (fun j hj => by rw [HLOW.out, b_one] at hj; simp at hj; omega) HBIT.out)
      have HNX := Lib.hid (fun (y : BitVec 32) hy => HO.out.next HG.out HP.out h0 (y := y) hy)
      obtain ⟨on, hon⟩ : ∃ on, on = oddP p x N k := ⟨_, rfl⟩
      rw [← hon] at hle HNX ⊢
      clear h0 htz hon
      go_wp2_with fail
      refine HSP.out.mono ?_
      clear HSP
      rintro e v2 ⟨y, rfl, hb2, hy⟩
      have HB2 := Lib.hid (HB.out.trans (hb2.mono hz))
      have hnx := HNX.out y (by rw [HLOW.out] at hy; exact hy)
      obtain ⟨n1, n2, n3, n4⟩ := hnx
      have N1 := Lib.hid n1
      have N3 := Lib.hid n3
      have N4 := Lib.hid n4
      have hle2 := oddP_le p x N (tz left + 1)
      rw [n3] at hle2
      clear hb2 hy HNX n1 n3 n4
      go_wp2_with fail
      refine (OnesCount32_any y _).mono ?_
      rintro e v3 ⟨rfl, q, rfl⟩
      have htm := tmod2 (pop y)
      obtain ⟨r, hr⟩ : ∃ r, r = pop y % 2 := ⟨_, rfl⟩
      rw [← hr] at htm N3 hle2
      have hr2 : r ≤ 1 := by omega
      clear hr
      go_wp2_with fail
      go_roundw
      case rel => exact ⟨tz left + 1, wBut left y, n2, rfl, by rw [N3.out]; go_num, N1.out, below_drewN HB2.out q⟩
      case measure => rw [wordV_of, wordV_of]; exact N4.out
end Go.Proofs.YtnpcbbdfpbnakaaDoor
