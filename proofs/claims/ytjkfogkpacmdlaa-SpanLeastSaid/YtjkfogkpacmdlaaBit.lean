/- What Bit, Size and OnesCount32 compute of a word. Conditions: none. -/
import Derived.Test.YtjkfogkpacmdlaaProg
import Derived.Test.YtjkfogkpacmdlaaWords
namespace Go.Proofs.Ytjkfogkpacmdlaa
open Go.RowKit
attribute [local go_sem ↓] w_and w_or w_xor w_andNot w_and1 w_and255 w_xor1 w_or0 w_shl w_shl1 w_shr w_sub w_add w_sub1 w_add1
attribute [local go_sem] w_eq0 w_ne0 w_eq1 w_eq w_ne

theorem Bit_any (x : BitVec 32) (i : Int) (w : World) :
    Calls Try.prog 26 #[.int .u32 (wN x), .int .i64 i] w fun e w' => e = .returned (.bool (bitB x i)) ∧ w = w' := by
  by_cases h0 : 0 ≤ i
  · by_cases h1 : i < 32
    · obtain ⟨n, rfl⟩ := Int.eq_ofNat_of_zero_le h0
      go_enter Try.func26, Try.ntmps26
      go_wp2
      go_ret
      refine ⟨ret_bool ?_, rfl⟩
      rw [bitB_nat]
      exact and_shl_ne x n
    · go_enter Try.func26, Try.ntmps26
      go_wp2
      go_ret
      refine ⟨ret_bool ?_, rfl⟩
      have : bitB x i = false := by
        unfold bitB
        rw [BitVec.getLsbD_of_ge _ _ (by omega)]
        simp
      rw [this]
  · go_enter Try.func26, Try.ntmps26
    go_wp2
    go_ret
    refine ⟨ret_bool ?_, rfl⟩
    have : bitB x i = false := by
      unfold bitB
      rw [decide_eq_false (by omega)]; rfl
    rw [this]

/-- How many of the first k bits are set; of all. -/
def popTo (x : BitVec 32) (k : Nat) : Nat := (List.range k).countP fun i => x.getLsbD i
def pop (x : BitVec 32) : Nat := popTo x 32
theorem popTo_succ (x : BitVec 32) (k : Nat) : popTo x (k + 1) = popTo x k + if bitB x k = true then 1 else 0 := by
  unfold popTo
  rw [List.range_succ, List.countP_append, bitB_nat]
  simp [List.countP_cons]
theorem popTo_le (x : BitVec 32) (k : Nat) : popTo x k ≤ k := by
  have := List.countP_le_length (p := fun i => x.getLsbD i) (l := List.range k)
  simpa [popTo] using this

theorem Size_any (x : BitVec 32) (w : World) :
    Calls Try.prog 10 #[.int .u32 (wN x)] w fun e w' => e = .returned (.int .i64 (pop x)) ∧ w = w' := by
  go_enter Try.func10, Try.ntmps10
  go_wp2_with fail
  go_loop [3, 4] (fun n i => ∃ k : Nat, k ≤ 32 ∧ i = .int .i64 k ∧ n = .int .i64 (popTo x k)) (fun _ i => 32 - (intOf i).toNat)
  case atStart => exact ⟨0, by omega, rfl, rfl⟩
  case round =>
    obtain ⟨k, hk, rfl, rfl⟩ := hrel
    have hp := popTo_le x k
    have HS := Lib.hid (popTo_succ x k)
    by_cases hlt : k < 32
    · go_wp2_with (go_at_call 26; refine (Bit_any x k _).mono ?_; rintro e w' ⟨rfl, rfl⟩)
      all_goals
        go_round
        case rel => exact ⟨k + 1, by omega, by go_num, by rw [HS.out]; first | (rw [if_pos ‹_›]; go_num) | (rw [if_neg (by simp [‹_›])]; go_num)⟩
        case measure => simp [intOf]; omega
    · obtain rfl : k = 32 := by omega
      go_wp2_with fail
      go_ret
      exact ⟨rfl, rfl⟩

def PopTab (s : ByteArray) : Prop := s.size = 256 ∧ ∀ i : Fin 256, (s.data[i.val]?.getD 0).toNat = pop (BitVec.ofNat 32 i.val)
theorem popTab_lit : PopTab ⟨#[0, 1, 1, 2, 1, 2, 2, 3, 1, 2, 2, 3, 2, 3, 3, 4, 1, 2, 2, 3, 2, 3, 3, 4, 2, 3, 3, 4, 3, 4, 4, 5, 1, 2, 2, 3, 2, 3, 3, 4, 2, 3, 3, 4, 3, 4, 4, 5, 2, 3, 3, 4, 3, 4, 4, 5, 3, 4, 4, 5, 4, 5, 5, 6, 1, 2, 2, 3, 2, 3, 3, 4, 2, 3, 3, 4, 3, 4, 4, 5, 2, 3, 3, 4, 3, 4, 4, 5, 3, 4, 4, 5, 4, 5, 5, 6, 2, 3, 3, 4, 3, 4, 4, 5, 3, 4, 4, 5, 4, 5, 5, 6, 3, 4, 4, 5, 4, 5, 5, 6, 4, 5, 5, 6, 5, 6, 6, 7, 1, 2, 2, 3, 2, 3, 3, 4, 2, 3, 3, 4, 3, 4, 4, 5, 2, 3, 3, 4, 3, 4, 4, 5, 3, 4, 4, 5, 4, 5, 5, 6, 2, 3, 3, 4, 3, 4, 4, 5, 3, 4, 4, 5, 4, 5, 5, 6, 3, 4, 4, 5, 4, 5, 5, 6, 4, 5, 5, 6, 5, 6, 6, 7, 2, 3, 3, 4, 3, 4, 4, 5, 3, 4, 4, 5, 4, 5, 5, 6, 3, 4, 4, 5, 4, 5, 5, 6, 4, 5, 5, 6, 5, 6, 6, 7, 3, 4, 4, 5, 4, 5, 5, 6, 4, 5, 5, 6, 5, 6, 6, 7, 4, 5, 5, 6, 5, 6, 6, 7, 5, 6, 6, 7, 6, 7, 7, 8]⟩ := ⟨by decide +kernel, by decide +kernel⟩
theorem pop_index {P : Program} (t : TypeId) (s : ByteArray) (y : BitVec 32) (w : World) (ht : P.underlying t = some .string) (hs : PopTab s) (hy : y.toNat < 256) :
    (Instr.index t (.string s) (.int .u32 (wN y))).run P w = .ok (.int .u8 (pop y)) w := by
  have hz := hs.1
  have hy' : wN y < 256 := by show (y.toNat : Int) < 256; omega
  have hb : 0 ≤ wN y ∧ wN y < s.size := ⟨wN_nonneg y, by rw [hz]; exact hy'⟩
  rw [run_index_string w t s .u32 _ ht, dif_pos hb]
  congr 2
  have h := hs.2 ⟨y.toNat, hy⟩
  have e : (wN y).toNat = y.toNat := by unfold wN; omega
  have hlt : y.toNat < s.data.size := by have h1 : s.data.size = 256 := hz; omega
  simp only [Array.getElem?_eq_getElem hlt, Option.getD_some, BitVec.ofNat_toNat, BitVec.setWidth_eq] at h
  rw [← h]
  simp only [e]
  rfl
theorem byte_lt (x : BitVec 32) : (wAnd x w255).toNat < 256 := by
  unfold wAnd w255
  rw [BitVec.toNat_and]
  exact Nat.lt_of_le_of_lt Nat.and_le_right (by decide)
theorem top_lt (x : BitVec 32) : (wShr x 24).toNat < 256 := by
  unfold wShr
  rw [BitVec.toNat_ushiftRight, Nat.shiftRight_eq_div_pow]
  have := x.isLt
  omega
theorem w255_bit (i : Nat) : w255.getLsbD i = decide (i < 8) := Nat.testBit_two_pow_sub_one 8 i
theorem byte_bit (x : BitVec 32) (s i : Nat) : (wAnd (wShr x s) w255).getLsbD i = (x.getLsbD (s + i) && decide (i < 8)) := by
  unfold wAnd wShr
  rw [BitVec.getLsbD_and, BitVec.getLsbD_ushiftRight, w255_bit]
theorem pop_byte (x : BitVec 32) (s : Nat) : pop (wAnd (wShr x s) w255) = (List.range 8).countP fun i => x.getLsbD (s + i) := by
  show (List.range (8 + 24)).countP _ = _
  rw [List.range_add, List.countP_append, List.countP_map]
  rw [show (List.countP ((fun i => (wAnd (wShr x s) w255).getLsbD i) ∘ fun x => 8 + x) (List.range 24)) = 0 from by
    rw [List.countP_eq_zero]
    intro a _
    simp [byte_bit]]
  rw [Nat.add_zero]
  refine List.countP_congr fun i hi => ?_
  have : i < 8 := List.mem_range.1 hi
  simp [byte_bit, this]
theorem pop_low (x : BitVec 32) : pop (wAnd x w255) = (List.range 8).countP fun i => x.getLsbD i := by
  have h := pop_byte x 0
  have e : wShr x 0 = x := by unfold wShr; simp
  rw [e] at h
  simpa using h
theorem pop_top (x : BitVec 32) : pop (wShr x 24) = (List.range 8).countP fun i => x.getLsbD (24 + i) := by
  show (List.range (8 + 24)).countP _ = _
  rw [List.range_add, List.countP_append, List.countP_map]
  rw [show (List.countP ((fun i => (wShr x 24).getLsbD i) ∘ fun x => 8 + x) (List.range 24)) = 0 from by
    rw [List.countP_eq_zero]
    intro a _
    simp only [Function.comp, wShr, BitVec.getLsbD_ushiftRight]
    rw [BitVec.getLsbD_of_ge _ _ (by omega)]
    simp]
  rw [Nat.add_zero]
  refine List.countP_congr fun i hi => ?_
  simp only [wShr, BitVec.getLsbD_ushiftRight]
theorem pop_split (x : BitVec 32) : pop x = pop (wShr x 24) + pop (wAnd (wShr x 16) w255) + pop (wAnd (wShr x 8) w255) + pop (wAnd x w255) := by
  rw [pop_top, pop_byte, pop_byte, pop_low]
  show (List.range (8 + (8 + (8 + 8)))).countP _ = _
  rw [List.range_add, List.countP_append, List.countP_map, List.range_add, List.countP_append, List.countP_map, List.range_add, List.countP_append, List.countP_map]
  simp only [Function.comp_def, ← Nat.add_assoc, Nat.reduceAdd]
  show List.countP (fun i => x.getLsbD i) (List.range 8) + _ + _ + _ = _
  omega
theorem pop_le (x : BitVec 32) : pop x ≤ 32 := popTo_le x 32

end Go.Proofs.Ytjkfogkpacmdlaa
