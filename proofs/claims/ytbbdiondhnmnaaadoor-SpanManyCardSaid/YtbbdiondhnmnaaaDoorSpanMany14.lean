/- What Bit, Size and OnesCount32 compute of a word. Conditions: none. -/
import Derived.Test.YtbbdiondhnmnaaaDoorProg
import Derived.Test.YtbbdiondhnmnaaaDoorSpanMany2
import Derived.Test.YtbbdiondhnmnaaaDoorSpanMany13
namespace Go.Proofs.YtbbdiondhnmnaaaDoor
open Go.RowKit
attribute [local go_sem ↓] w_and w_or w_xor w_andNot w_and1 w_and255 w_xor1 w_or0 w_shl w_shl1 w_shr w_sub w_add w_sub1 w_add1
attribute [local go_sem] w_eq0 w_ne0 w_eq1 w_eq w_ne

theorem Bit_any (x : BitVec 32) (i : Int) (w : World) :
    Calls Tryd.prog 20 #[.int .u32 (wN x), .int .i64 i] w fun e w' => e = .returned (.bool (bitB x i)) ∧ w = w' := by
  by_cases h0 : 0 ≤ i
  · by_cases h1 : i < 32
    · obtain ⟨n, rfl⟩ := Int.eq_ofNat_of_zero_le h0
      go_enter Tryd.func20, Tryd.ntmps20
      go_wp2
      go_ret
      refine ⟨ret_bool ?_, rfl⟩
      rw [bitB_nat]
      exact and_shl_ne x n
    · go_enter Tryd.func20, Tryd.ntmps20
      go_wp2
      go_ret
      refine ⟨ret_bool ?_, rfl⟩
      have : bitB x i = false := by
        unfold bitB
        rw [BitVec.getLsbD_of_ge _ _ (by omega)]
        simp
      rw [this]
  · go_enter Tryd.func20, Tryd.ntmps20
    go_wp2
    go_ret
    refine ⟨ret_bool ?_, rfl⟩
    have : bitB x i = false := by
      unfold bitB
      rw [decide_eq_false (by omega)]; rfl
    rw [this]

/-- How many of the first k bits are set; of all. -/
def popTo (x : BitVec 32) (k : Nat) : Nat := (List.range k).countP fun i => x.getLsbD i
def pop (x : BitVec 32) : Nat := popTo x 32
theorem popTo_succ (x : BitVec 32) (k : Nat) : popTo x (k + 1) = popTo x k + if bitB x k = true then 1 else 0 := by
  unfold popTo
  rw [List.range_succ, List.countP_append, bitB_nat]
  simp [List.countP_cons]
theorem popTo_le (x : BitVec 32) (k : Nat) : popTo x k ≤ k := by
  have := List.countP_le_length (p := fun i => x.getLsbD i) (l := List.range k)
  simpa [popTo] using this

theorem Size_any (x : BitVec 32) (w : World) :
    Calls Tryd.prog 13 #[.int .u32 (wN x)] w fun e w' => e = .returned (.int .i64 (pop x)) ∧ w = w' := by
  go_enter Tryd.func13, Tryd.ntmps13
  go_wp2_with fail
  go_loop [3, 4] (fun n i => ∃ k : Nat, k ≤ 32 ∧ i = .int .i64 k ∧ n = .int .i64 (popTo x k)) (fun _ i => 32 - (intOf i).toNat)
  case atStart => exact ⟨0, by omega, rfl, rfl⟩
  case round =>
    obtain ⟨k, hk, rfl, rfl⟩ := hrel
    have hp := popTo_le x k
    have HS := Lib.hid (popTo_succ x k)
    by_cases hlt : k < 32
    · go_wp2_with (go_at_call 20; refine (Bit_any x k _).mono ?_; rintro e w' ⟨rfl, rfl⟩)
      all_goals
        go_round
        case rel => exact ⟨k + 1, by omega, by go_num, by rw [HS.out]; first | (rw [if_pos ‹_›]; go_num) | (rw [if_neg (by simp [‹_›])]; go_num)⟩
        case measure => simp [intOf]; omega
    · obtain rfl : k = 32 := by omega
      go_wp2_with fail
      go_ret
      exact ⟨rfl, rfl⟩

def PopTab (s : ByteArray) : Prop := s.size = 256 ∧ ∀ i : Fin 256, (s.data[i.val]?.getD 0).toNat = pop (BitVec.ofNat 32 i.val)
theorem popTab_lit : PopTab ⟨#[0, 1, 1, 2, 1, 2, 2, 3, 1, 2, 2, 3, 2, 3, 3, 4, 1, 2, 2, 3, 2, 3, 3, 4, 2, 3, 3, 4, 3, 4, 4, 5, 1, 2, 2, 3, 2, 3, 3, 4, 2, 3, 3, 4, 3, 4, 4, 5, 2, 3, 3, 4, 3, 4, 4, 5, 3, 4, 4, 5, 4, 5, 5, 6, 1, 2, 2, 3, 2, 3, 3, 4, 2, 3, 3, 4, 3, 4, 4, 5, 2, 3, 3, 4, 3, 4, 4, 5, 3, 4, 4, 5, 4, 5, 5, 6, 2, 3, 3, 4, 3, 4, 4, 5, 3, 4, 4, 5, 4, 5, 5, 6, 3, 4, 4, 5, 4, 5, 5, 6, 4, 5, 5, 6, 5, 6, 6, 7, 1, 2, 2, 3, 2, 3, 3, 4, 2, 3, 3, 4, 3, 4, 4, 5, 2, 3, 3, 4, 3, 4, 4, 5, 3, 4, 4, 5, 4, 5, 5, 6, 2, 3, 3, 4, 3, 4, 4, 5, 3, 4, 4, 5, 4, 5, 5, 6, 3, 4, 4, 5, 4, 5, 5, 6, 4, 5, 5, 6, 5, 6, 6, 7, 2, 3, 3, 4, 3, 4, 4, 5, 3, 4, 4, 5, 4, 5, 5, 6, 3, 4, 4, 5, 4, 5, 5, 6, 4, 5, 5, 6, 5, 6, 6, 7, 3, 4, 4, 5, 4, 5, 5, 6, 4, 5, 5, 6, 5, 6, 6, 7, 4, 5, 5, 6, 5, 6, 6, 7, 5, 6, 6, 7, 6, 7, 7, 8]⟩ := ⟨by decide +kernel, by decide +kernel⟩
theorem pop_index {P : Program} (t : TypeId) (s : ByteArray) (y : BitVec 32) (w : World) (ht : P.underlying t = some .string) (hs : PopTab s) (hy : y.toNat < 256) :
    (Instr.index t (.string s) (.int .u32 (wN y))).run P w = .ok (.int .u8 (pop y)) w := by
  have hz := hs.1
  have hy' : wN y < 256 := by show (y.toNat : Int) < 256; omega
  have hb : 0 ≤ wN y ∧ wN y < s.size := ⟨wN_nonneg y, by rw [hz]; exact hy'⟩
  rw [run_index_string w t s .u32 _ ht, dif_pos hb]
  congr 2
  have h := hs.2 ⟨y.toNat, hy⟩
  have e : (wN y).toNat = y.toNat := by unfold wN; omega
  have hlt : y.toNat < s.data.size := by have h1 : s.data.size = 256 := hz; omega
  simp only [Array.getElem?_eq_getElem hlt, Option.getD_some, BitVec.ofNat_toNat, BitVec.setWidth_eq] at h
  rw [← h]
  simp only [e]
  rfl
theorem byte_lt (x : BitVec 32) : (wAnd x w255).toNat < 256 := by
  unfold wAnd w255
  rw [BitVec.toNat_and]
  exact Nat.lt_of_le_of_lt Nat.and_le_right (by decide)
theorem top_lt (x : BitVec 32) : (wShr x 24).toNat < 256 := by
  unfold wShr
  rw [BitVec.toNat_ushiftRight, Nat.shiftRight_eq_div_pow]
  have := x.isLt
  omega
theorem w255_bit (i : Nat) : w255.getLsbD i = decide (i < 8) := Nat.testBit_two_pow_sub_one 8 i
theorem byte_bit (x : BitVec 32) (s i : Nat) : (wAnd (wShr x s) w255).getLsbD i = (x.getLsbD (s + i) && decide (i < 8)) := by
  unfold wAnd wShr
  rw [BitVec.getLsbD_and, BitVec.getLsbD_ushiftRight, w255_bit]
theorem pop_byte (x : BitVec 32) (s : Nat) : pop (wAnd (wShr x s) w255) = (List.range 8).countP fun i => x.getLsbD (s + i) := by
  show (List.range (8 + 24)).countP _ = _
  rw [List.range_add, List.countP_append, List.countP_map]
  rw [show (List.countP ((fun i => (wAnd (wShr x s) w255).getLsbD i) ∘ fun x => 8 + x) (List.range 24)) = 0 from by
    rw [List.countP_eq_zero]
    intro a _
    simp [byte_bit]]
  rw [Nat.add_zero]
  refine List.countP_congr fun i hi => ?_
  have : i < 8 := List.mem_range.1 hi
  simp [byte_bit, this]
theorem pop_low (x : BitVec 32) : pop (wAnd x w255) = (List.range 8).countP fun i => x.getLsbD i := by
  have h := pop_byte x 0
  have e : wShr x 0 = x := by unfold wShr; simp
  rw [e] at h
  simpa using h
theorem pop_top (x : BitVec 32) : pop (wShr x 24) = (List.range 8).countP fun i => x.getLsbD (24 + i) := by
  show (List.range (8 + 24)).countP _ = _
  rw [List.range_add, List.countP_append, List.countP_map]
  rw [show (List.countP ((fun i => (wShr x 24).getLsbD i) ∘ fun x => 8 + x) (List.range 24)) = 0 from by
    rw [List.countP_eq_zero]
    intro a _
    simp only [Function.comp, wShr, BitVec.getLsbD_ushiftRight]
    rw [BitVec.getLsbD_of_ge _ _ (by omega)]
    simp]
  rw [Nat.add_zero]
  refine List.countP_congr fun i hi => ?_
  simp only [wShr, BitVec.getLsbD_ushiftRight]
theorem pop_split (x : BitVec 32) : pop x = pop (wShr x 24) + pop (wAnd (wShr x 16) w255) + pop (wAnd (wShr x 8) w255) + pop (wAnd x w255) := by
  rw [pop_top, pop_byte, pop_byte, pop_low]
  show (List.range (8 + (8 + (8 + 8)))).countP _ = _
  rw [List.range_add, List.countP_append, List.countP_map, List.range_add, List.countP_append, List.countP_map, List.range_add, List.countP_append, List.countP_map]
  simp only [Function.comp_def, ← Nat.add_assoc, Nat.reduceAdd]
  show List.countP (fun i => x.getLsbD i) (List.range 8) + _ + _ + _ = _
  omega
theorem pop_le (x : BitVec 32) : pop x ≤ 32 := popTo_le x 32

end Go.Proofs.YtbbdiondhnmnaaaDoor

/- graph.Each: its closure hands over the bits of its word, the least first. Conditions: its box holds the word; the table lies where it was laid. -/
namespace Go.Proofs.YtbbdiondhnmnaaaDoor
open Go.RowKit Go.Shelf
attribute [local go_sem] Oper.semAt_some
attribute [local go_sem ↓] w_and w_or w_xor w_andNot w_and1 w_and255 w_xor1 w_or0 w_shl w_shl1 w_shr w_sub w_add w_sub1 w_add1
attribute [local go_sem] w_eq0 w_ne0 w_eq1 w_eq w_ne

def bitsL (x : BitVec 32) : List Nat := (List.range 32).filter fun j => x.getLsbD j
theorem filter_cons {p q : Nat → Bool} {k : Nat} (hlow : ∀ j, j < k → p j = false) (hk : p k = true) (hq : ∀ j, q j = (p j && !decide (j = k))) : ∀ n, k < n → (List.range n).filter p = k :: (List.range n).filter q
  | 0, h => by omega
  | n + 1, h => by
    rw [List.range_succ, List.filter_append, List.filter_append]
    by_cases hkn : k < n
    · rw [filter_cons hlow hk hq n hkn, List.cons_append]
      have hd : decide (n = k) = false := by simp; omega
      have e : List.filter p [n] = List.filter q [n] := by
        simp only [List.filter_cons, List.filter_nil]
        rw [hq n, hd, Bool.not_false, Bool.and_true]
      rw [e]
    · obtain rfl : k = n := by omega
      have e1 : (List.range k).filter p = [] := List.filter_eq_nil_iff.2 fun j hj => by rw [hlow j (List.mem_range.1 hj)]; simp
      have e2 : (List.range k).filter q = [] := List.filter_eq_nil_iff.2 fun j hj => by rw [hq, hlow j (List.mem_range.1 hj)]; simp
      rw [e1, e2]
      simp [hq, hk]
theorem bitsL_cons {y : BitVec 32} (h : y ≠ w0) : bitsL y = tz y :: bitsL (wAnd y (wSub y w1)) :=
  filter_cons (fun _ hj => tz_low h hj) (tz_bit h) (fun j => drop_low h j) 32 (tz_lt h)
theorem bitsL_0 : bitsL w0 = [] := List.filter_eq_nil_iff.2 fun j _ => by rw [b_0]; simp
theorem mem_bitsL {x : BitVec 32} {j : Nat} : j ∈ bitsL x ↔ x.getLsbD j = true := by
  unfold bitsL
  rw [List.mem_filter, List.mem_range]
  refine ⟨fun h => h.2, fun h => ⟨?_, h⟩⟩
  rcases Nat.lt_or_ge j 32 with h1 | h1
  · exact h1
  · rw [b_ge x h1] at h; cases h
theorem drop_low_lt {y : BitVec 32} (h : y ≠ w0) : (wAnd y (wSub y w1)).toNat < y.toNat := by
  have h0 := toNat_ne h
  have hs : (wSub y w1).toNat = y.toNat - 1 := by
    have hlt := y.isLt
    unfold wSub w1
    rw [BitVec.toNat_sub]
    have : (1#32).toNat = 1 := rfl
    rw [this]
    omega
  unfold wAnd
  rw [BitVec.toNat_and]
  have := Nat.and_le_right (n := y.toNat) (m := (wSub y w1).toNat)
  omega
/-- What a box of a number holds. -/
def boxN (bx : Nat) (w : World) : Nat := match w.cell? ⟨bx, 0, none⟩ with
  | some (.int _ v) => v.toNat
  | _ => 0
theorem boxN_of {bx : Nat} {w : World} {t : TypeId} {y : BitVec 32} (h : Boxed w bx t (.int .u32 (wN y))) : boxN bx w = y.toNat := by
  unfold boxN
  rw [h.cell]
  show (wN y).toNat = y.toNat
  unfold wN
  omega

set_option maxRecDepth 100000 in
set_option maxHeartbeats 2000000 in
theorem Each1_seq (n bx : Nat) (x : BitVec 32) (hb0 : 0 < bx) : SeqE n Tryd.prog 18 bx 37 (.int .u32 (wN x)) (bitsL x) := by
  intro l J Jx W hbox htab hst hY h0
  refine callsIn_of_wp Tryd.func18 rfl trivial ?_ rfl
  simp only [Tryd.ntmps18, List.size_toArray, List.length_cons, List.length_nil, Nat.reduceAdd, Nat.reduceSub, Array.replicate_succ, Array.replicate_zero, List.push_toArray, List.append_toArray, List.nil_append, List.cons_append]
  have HY := Lib.hid hY
  have HST := Lib.hid hst
  clear hY hst
  gi_wp2
  gi_loopw [3] (fun _ wr => ∃ (pre : List Nat) (y : BitVec 32), pre ++ bitsL y = bitsL x ∧ Boxed wr bx 37 (.int .u32 (wN y)) ∧ TabOk wr ∧ J pre wr) (fun _ wr => boxN bx wr)
  case atStart => exact ⟨[], x, rfl, hbox, htab, h0⟩
  case round =>
    clear hbox htab h0
    rename World => wr
    obtain ⟨pre, y, hpre, hbox, htab, hJ⟩ := hrel
    have HPRE := Lib.hid hpre
    have HJ := Lib.hid hJ
    have HBX := Lib.hid hbox
    have HTB := Lib.hid htab
    have c0 := hbox.cell
    clear hpre hJ hbox htab
    by_cases hy0 : y = w0
    · subst hy0
      have hd : pre = bitsL x := by have := HPRE.out; rw [bitsL_0, List.append_nil] at this; exact this
      have HD := Lib.hid hd
      have hw0 : (w0 != w0) = false := by simp
      clear hd
      gi_wp2
      go_end0
      exact ⟨⟨_, rfl⟩, .inl (by rw [← HD.out]; exact HJ.out)⟩
    · have hyn : (y != w0) = true := by simpa using hy0
      have hcons := bitsL_cons hy0
      have hpfx : pre ++ [tz y] ++ bitsL (wAnd y (wSub y w1)) = bitsL x := by
        have := HPRE.out
        rw [hcons] at this
        rw [← this]
        simp
      have HPF := Lib.hid hpfx
      obtain ⟨fn, tmps, assign, body, hy, hR⟩ := HY.out pre (tz y) wr HJ.out ⟨_, hpfx⟩
      have HR := Lib.hid hR
      have HTZ := Lib.hid (TrailingZeros32_ne y wr hy0 HTB.out)
      have HLT := Lib.hid (drop_low_lt hy0)
      obtain ⟨k, hk⟩ : ∃ k, k = tz y := ⟨_, rfl⟩
      rw [← hk] at hy HTZ
      have HK := Lib.hid hk
      clear hcons hpfx hR hk hy0
      gi_wp2_with fail
      refine wide_call (HTZ.out.mono ?_)
      clear HTZ
      rintro e w' ⟨rfl, rfl⟩
      gi_wp2_with fail
      refine ⟨(fun h => by cases h), HR.out.mono ?_⟩
      clear HR hy
      rintro e W3 (⟨rfl, hJ3, hk3⟩ | ⟨rfl, hJx3⟩)
      · have hbox3 := hk3.1 _ HBX.out
        have htab3 := hk3.2 HTB.out
        have hbox4 := hbox3.set (.int .u32 (wN (wAnd y (wSub y w1))))
        have htab4 : TabOk (W3.setCell ⟨bx, 0, none⟩ (.int .u32 (wN (wAnd y (wSub y w1))))) := htab3.block (by simp) (Below.heap_setCell W3 ⟨bx, 0, none⟩ _ 0 (show 0 ≠ bx by omega))
        have HJ4 := Lib.hid (HST.out _ _ (.int .u32 (wN (wAnd y (wSub y w1)))) hJ3)
        have HB3 := Lib.hid hbox3
        have HB4 := Lib.hid hbox4
        have HT4 := Lib.hid htab4
        have c3 := hbox3.cell
        have f3 := hbox3.frozen
        clear hJ3 hk3 hbox3 htab3 hbox4 htab4
        gi_wp2_with fail
        go_roundw
        case rel => exact ⟨pre ++ [tz y], wAnd y (wSub y w1), HPF.out, HB4.out, HT4.out, HJ4.out⟩
        case measure => rw [boxN_of HB4.out, boxN_of HBX.out]; exact HLT.out
      · have HJX := Lib.hid hJx3
        clear hJx3
        gi_wp2_with fail
        refine bodyPost_ret (results_none rfl _ _ _) rfl ?_
        exact ⟨⟨_, rfl⟩, .inr ⟨pre ++ [tz y], ⟨_, HPF.out⟩, HJX.out⟩⟩
theorem graph_Each (x : BitVec 32) (w : World) :
    Calls Tryd.prog 12 #[.int .u32 (wN x)] w fun e w' => e = .returned (.func (.func 18) #[] #[.pointer (some ⟨w.heap.size, 0, none⟩)]) ∧ w.alloc (.cells #[.int .u32 (wN x)] 37) = w' := by
  go_enter Tryd.func12, Tryd.ntmps12
  go_wp2_with fail
  go_ret
  exact ⟨rfl, rfl⟩
end Go.Proofs.YtbbdiondhnmnaaaDoor
