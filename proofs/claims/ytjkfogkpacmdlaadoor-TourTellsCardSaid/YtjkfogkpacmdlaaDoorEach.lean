/- graph.Each: its closure hands over the bits of its word, the least first. Conditions: its box holds the word; the table lies where it was laid. -/
import Derived.Test.YtjkfogkpacmdlaaDoorRange
import Derived.Test.YtjkfogkpacmdlaaDoorBit
namespace Go.Proofs.YtjkfogkpacmdlaaDoor
open Go.RowKit Go.Shelf
attribute [local go_sem] Oper.semAt_some
attribute [local go_sem ↓] w_and w_or w_xor w_andNot w_and1 w_and255 w_xor1 w_or0 w_shl w_shl1 w_shr w_sub w_add w_sub1 w_add1
attribute [local go_sem] w_eq0 w_ne0 w_eq1 w_eq w_ne

def bitsL (x : BitVec 32) : List Nat := (List.range 32).filter fun j => x.getLsbD j
theorem filter_cons {p q : Nat → Bool} {k : Nat} (hlow : ∀ j, j < k → p j = false) (hk : p k = true) (hq : ∀ j, q j = (p j && !decide (j = k))) : ∀ n, k < n → (List.range n).filter p = k :: (List.range n).filter q
  | 0, h => by omega
  | n + 1, h => by
    rw [List.range_succ, List.filter_append, List.filter_append]
    by_cases hkn : k < n
    · rw [filter_cons hlow hk hq n hkn, List.cons_append]
      have hd : decide (n = k) = false := by simp; omega
      have e : List.filter p [n] = List.filter q [n] := by
        simp only [List.filter_cons, List.filter_nil]
        rw [hq n, hd, Bool.not_false, Bool.and_true]
      rw [e]
    · obtain rfl : k = n := by omega
      have e1 : (List.range k).filter p = [] := List.filter_eq_nil_iff.2 fun j hj => by rw [hlow j (List.mem_range.1 hj)]; simp
      have e2 : (List.range k).filter q = [] := List.filter_eq_nil_iff.2 fun j hj => by rw [hq, hlow j (List.mem_range.1 hj)]; simp
      rw [e1, e2]
      simp [hq, hk]
theorem bitsL_cons {y : BitVec 32} (h : y ≠ w0) : bitsL y = tz y :: bitsL (wAnd y (wSub y w1)) :=
  filter_cons (fun _ hj => tz_low h hj) (tz_bit h) (fun j => drop_low h j) 32 (tz_lt h)
theorem bitsL_0 : bitsL w0 = [] := List.filter_eq_nil_iff.2 fun j _ => by rw [b_0]; simp
theorem mem_bitsL {x : BitVec 32} {j : Nat} : j ∈ bitsL x ↔ x.getLsbD j = true := by
  unfold bitsL
  rw [List.mem_filter, List.mem_range]
  refine ⟨fun h => h.2, fun h => ⟨?_, h⟩⟩
  rcases Nat.lt_or_ge j 32 with h1 | h1
  · exact h1
  · rw [b_ge x h1] at h; cases h
theorem drop_low_lt {y : BitVec 32} (h : y ≠ w0) : (wAnd y (wSub y w1)).toNat < y.toNat := by
  have h0 := toNat_ne h
  have hs : (wSub y w1).toNat = y.toNat - 1 := by
    have hlt := y.isLt
    unfold wSub w1
    rw [BitVec.toNat_sub]
    have : (1#32).toNat = 1 := rfl
    rw [this]
    omega
  unfold wAnd
  rw [BitVec.toNat_and]
  have := Nat.and_le_right (n := y.toNat) (m := (wSub y w1).toNat)
  omega
/-- What a box of a number holds. -/
def boxN (bx : Nat) (w : World) : Nat := match w.cell? ⟨bx, 0, none⟩ with
  | some (.int _ v) => v.toNat
  | _ => 0
theorem boxN_of {bx : Nat} {w : World} {t : TypeId} {y : BitVec 32} (h : Boxed w bx t (.int .u32 (wN y))) : boxN bx w = y.toNat := by
  unfold boxN
  rw [h.cell]
  show (wN y).toNat = y.toNat
  unfold wN
  omega

set_option maxRecDepth 100000 in
set_option maxHeartbeats 2000000 in
theorem Each1_seq (n bx : Nat) (x : BitVec 32) (hb0 : 0 < bx) : SeqE n Tryd.prog 28 bx 39 (.int .u32 (wN x)) (bitsL x) := by
  intro l J Jx W hbox htab hst hY h0
  refine callsIn_of_wp Tryd.func28 rfl trivial ?_ rfl
  simp only [Tryd.ntmps28, List.size_toArray, List.length_cons, List.length_nil, Nat.reduceAdd, Nat.reduceSub, Array.replicate_succ, Array.replicate_zero, List.push_toArray, List.append_toArray, List.nil_append, List.cons_append]
  have HY := Lib.hid hY
  have HST := Lib.hid hst
  clear hY hst
  gi_wp2
  gi_loopw [3] (fun _ wr => ∃ (pre : List Nat) (y : BitVec 32), pre ++ bitsL y = bitsL x ∧ Boxed wr bx 39 (.int .u32 (wN y)) ∧ TabOk wr ∧ J pre wr) (fun _ wr => boxN bx wr)
  case atStart => exact ⟨[], x, rfl, hbox, htab, h0⟩
  case round =>
    clear hbox htab h0
    rename World => wr
    obtain ⟨pre, y, hpre, hbox, htab, hJ⟩ := hrel
    have HPRE := Lib.hid hpre
    have HJ := Lib.hid hJ
    have HBX := Lib.hid hbox
    have HTB := Lib.hid htab
    have c0 := hbox.cell
    clear hpre hJ hbox htab
    by_cases hy0 : y = w0
    · subst hy0
      have hd : pre = bitsL x := by have := HPRE.out; rw [bitsL_0, List.append_nil] at this; exact this
      have HD := Lib.hid hd
      have hw0 : (w0 != w0) = false := by simp
      clear hd
      gi_wp2
      go_end0
      exact ⟨⟨_, rfl⟩, .inl (by rw [← HD.out]; exact HJ.out)⟩
    · have hyn : (y != w0) = true := by simpa using hy0
      have hcons := bitsL_cons hy0
      have hpfx : pre ++ [tz y] ++ bitsL (wAnd y (wSub y w1)) = bitsL x := by
        have := HPRE.out
        rw [hcons] at this
        rw [← this]
        simp
      have HPF := Lib.hid hpfx
      obtain ⟨fn, tmps, assign, body, hy, hR⟩ := HY.out pre (tz y) wr HJ.out ⟨_, hpfx⟩
      have HR := Lib.hid hR
      have HTZ := Lib.hid (TrailingZeros32_ne y wr hy0 HTB.out)
      have HLT := Lib.hid (drop_low_lt hy0)
      obtain ⟨k, hk⟩ : ∃ k, k = tz y := ⟨_, rfl⟩
      rw [← hk] at hy HTZ
      have HK := Lib.hid hk
      clear hcons hpfx hR hk hy0
      gi_wp2_with fail
      refine wide_call (HTZ.out.mono ?_)
      clear HTZ
      rintro e w' ⟨rfl, rfl⟩
      gi_wp2_with fail
      refine ⟨(fun h => by cases h), HR.out.mono ?_⟩
      clear HR hy
      rintro e W3 (⟨rfl, hJ3, hk3⟩ | ⟨rfl, hJx3⟩)
      · have hbox3 := hk3.1 _ HBX.out
        have htab3 := hk3.2 HTB.out
        have hbox4 := hbox3.set (.int .u32 (wN (wAnd y (wSub y w1))))
        have htab4 : TabOk (W3.setCell ⟨bx, 0, none⟩ (.int .u32 (wN (wAnd y (wSub y w1))))) := htab3.block (by simp) (Below.heap_setCell W3 ⟨bx, 0, none⟩ _ 0 (show 0 ≠ bx by omega))
        have HJ4 := Lib.hid (HST.out _ _ (.int .u32 (wN (wAnd y (wSub y w1)))) hJ3)
        have HB3 := Lib.hid hbox3
        have HB4 := Lib.hid hbox4
        have HT4 := Lib.hid htab4
        have c3 := hbox3.cell
        have f3 := hbox3.frozen
        clear hJ3 hk3 hbox3 htab3 hbox4 htab4
        gi_wp2_with fail
        go_roundw
        case rel => exact ⟨pre ++ [tz y], wAnd y (wSub y w1), HPF.out, HB4.out, HT4.out, HJ4.out⟩
        case measure => rw [boxN_of HB4.out, boxN_of HBX.out]; exact HLT.out
      · have HJX := Lib.hid hJx3
        clear hJx3
        gi_wp2_with fail
        refine bodyPost_ret (results_none rfl _ _ _) rfl ?_
        exact ⟨⟨_, rfl⟩, .inr ⟨pre ++ [tz y], ⟨_, HPF.out⟩, HJX.out⟩⟩
theorem graph_Each (x : BitVec 32) (w : World) :
    Calls Tryd.prog 16 #[.int .u32 (wN x)] w fun e w' => e = .returned (.func (.func 28) #[] #[.pointer (some ⟨w.heap.size, 0, none⟩)]) ∧ w.alloc (.cells #[.int .u32 (wN x)] 39) = w' := by
  go_enter Tryd.func16, Tryd.ntmps16
  go_wp2_with fail
  go_ret
  exact ⟨rfl, rfl⟩
end Go.Proofs.YtjkfogkpacmdlaaDoor
