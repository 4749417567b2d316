/- The lowest bit of a word: math/bits.TrailingZeros32. Conditions: its table lies in block 0 as its initialiser lays it. -/
import Derived.Test.YtbbdiondhnmnaaaDoorSpanMany2
import Derived.Test.YtbbdiondhnmnaaaDoorProg
import Derived.Laws.Bits64b
import Derived.Lib.TrailingZeros
import Derived.Test.YtbbdiondhnmnaaaDoorRows
import Derived.Test.YtbbdiondhnmnaaaDoorTie
import Derived.ProofKit
import Derived.LaidMore
import Derived.OpenShut
import Derived.Stop.Joined
namespace Go.Proofs.YtbbdiondhnmnaaaDoor
open Go.RowKit

/-- The table lies where it was laid. -/
def TabOk (w : World) : Prop := 0 < w.heap.size ∧ ∀ j, j < 32 → w.cell? ⟨0, j, none⟩ = some (.int .u8 (Lib.deBruijn32tab.getD j 0))
theorem TabOk.below {w w' : World} {B : Nat} (h : TabOk w) (hb : Below B w w') (hB : 0 < B) : TabOk w' :=
  ⟨Nat.lt_of_lt_of_le h.1 hb.size, fun j hj => (hb.cell (p := ⟨0, j, none⟩) hB).trans (h.2 j hj)⟩
theorem TabOk.drewN {w : World} (h : TabOk w) (n : Nat) : TabOk (w.drewN n) := h
def tz (x : BitVec 32) : Nat := Lib.ctz 32 x.toNat
theorem toNat_ne {x : BitVec 32} (h : x ≠ w0) : x.toNat ≠ 0 := fun he => h (BitVec.eq_of_toNat_eq (by rw [he]; rfl))
theorem tz_lt {x : BitVec 32} (h : x ≠ w0) : tz x < 32 := (Lib.lowest_bit 32 x.toNat (toNat_ne h) x.isLt).2
theorem low_eq {x : BitVec 32} (h : x ≠ w0) : x.toNat &&& (4294967296 - x.toNat) = 2 ^ tz x := (Lib.lowest_bit 32 x.toNat (toNat_ne h) x.isLt).1
theorem tz_odd {x : BitVec 32} (h : x ≠ w0) : ∃ m, x.toNat = 2 ^ tz x * (2 * m + 1) := by
  have h0 := toNat_ne h
  obtain ⟨m, hm, _⟩ := Lib.ctzFrom_spec 32 x.toNat (by omega) x.isLt
  refine ⟨m, ?_⟩
  have e : tz x = Lib.ctzFrom 32 x.toNat := by unfold tz Lib.ctz; rw [if_neg h0]
  rw [e]
  exact hm
theorem tz_bit {x : BitVec 32} (h : x ≠ w0) : x.getLsbD (tz x) = true := by
  obtain ⟨m, hm⟩ := tz_odd h
  rw [BitVec.getLsbD, hm, Nat.mul_comm, Nat.testBit_mul_two_pow]
  simp [Nat.testBit_zero]
theorem tz_low {x : BitVec 32} (h : x ≠ w0) {j : Nat} (hj : j < tz x) : x.getLsbD j = false := by
  obtain ⟨m, hm⟩ := tz_odd h
  rw [BitVec.getLsbD, hm, Nat.mul_comm, Nat.testBit_mul_two_pow]
  have : ¬ tz x ≤ j := by omega
  simp [this]
/-- 'x & (x - 1)': the lowest bit is gone. -/
theorem drop_low {x : BitVec 32} (h : x ≠ w0) (j : Nat) : (wAnd x (wSub x w1)).getLsbD j = (x.getLsbD j && !decide (j = tz x)) := by
  obtain ⟨m, hm⟩ := tz_odd h
  have hlt := x.isLt
  have h0 := toNat_ne h
  have hs : (wSub x w1).toNat = x.toNat - 1 := by
    unfold wSub w1
    rw [BitVec.toNat_sub]
    have : (1#32).toNat = 1 := rfl
    rw [this]
    omega
  have hp : 0 < 2 ^ tz x := Nat.two_pow_pos _
  have e2 : x.toNat - 1 = 2 ^ tz x * (2 * m) + (2 ^ tz x - 1) := by
    rw [hm, Nat.mul_add, Nat.mul_one]
    omega
  rw [b_and]
  have hb : ∀ j, (wSub x w1).getLsbD j = if j < tz x then true else if j = tz x then false else x.getLsbD j := by
    intro j
    rw [BitVec.getLsbD, hs, e2, Nat.testBit_two_pow_mul_add _ (by omega)]
    by_cases h1 : j < tz x
    · rw [if_pos h1, if_pos h1, Nat.testBit_two_pow_sub_one]
      simp [h1]
    · rw [if_neg h1, if_neg h1]
      by_cases h2 : j = tz x
      · subst h2
        simp [Nat.testBit_zero]
      · rw [if_neg h2, BitVec.getLsbD, hm, Nat.mul_comm (2 ^ tz x), Nat.testBit_mul_two_pow]
        obtain ⟨d, hd⟩ : ∃ d, j - tz x = d + 1 := ⟨j - tz x - 1, by omega⟩
        rw [hd, Nat.testBit_succ, Nat.testBit_succ]
        have e3 : 2 * m / 2 = m := by omega
        have e4 : (2 * m + 1) / 2 = m := by omega
        have : tz x ≤ j := by omega
        simp [e3, e4, this]
  rw [hb]
  by_cases h1 : j < tz x
  · rw [if_pos h1, tz_low h h1]
    simp
  · rw [if_neg h1]
    by_cases h2 : j = tz x
    · simp [h2]
    · simp [h2]
theorem bits_and_nat (a b : Nat) (ha : a < 4294967296) (hb : b < 4294967296) : bits .and .u32 (a : Int) (b : Int) = ((a &&& b : Nat) : Int) := by
  have hx : a &&& b < 2 ^ 32 := Nat.and_lt_two_pow _ (by omega)
  have h1 : (BitVec.ofInt 32 (a : Int)).toNat = a := by
    rw [BitVec.ofInt_natCast, BitVec.toNat_ofNat]; exact Nat.mod_eq_of_lt (by omega)
  have h2 : (BitVec.ofInt 32 (b : Int)).toNat = b := by
    rw [BitVec.ofInt_natCast, BitVec.toNat_ofNat]; exact Nat.mod_eq_of_lt (by omega)
  show IntKind.u32.wrap ((BitVec.ofInt 32 (a : Int) &&& BitVec.ofInt 32 (b : Int)).toNat : Int) = _
  rw [BitVec.toNat_and, h1, h2, IntKind.wrap_u32']
  omega
theorem tz_key {x : BitVec 32} (h : x ≠ w0) :
    bits BinOp.and IntKind.u32 (x.toNat : Int) (-(x.toNat : Int) % 4294967296) * 125613361 % 4294967296 / 134217728 = ((2 ^ tz x * 125613361 % 4294967296 / 134217728 : Nat) : Int) := by
  have h0 := toNat_ne h
  have hlt := x.isLt
  have e1 : -(x.toNat : Int) % 4294967296 = ((4294967296 - x.toNat : Nat) : Int) := by omega
  rw [e1, bits_and_nat x.toNat _ hlt (by omega), low_eq h]
  omega

set_option maxHeartbeats 1000000 in
theorem tz_core (x k idx : Nat) (w : World) (hx0 : ((x : Int) == 0) = false)
    (key : bits BinOp.and IntKind.u32 (x : Int) (-(x : Int) % 4294967296) * 125613361 % 4294967296 / 134217728 = (idx : Int))
    (hi : idx < 32) (hk : k < 32) (hcell : w.cell? ⟨0, idx, none⟩ = some (.int .u8 k)) :
    Calls Tryd.prog 19 #[.int .u32 x] w fun e w' => e = .returned (.int .i64 k) ∧ w = w' := by
  have g0 : (Tryd.prog.globals[0]?).map (·.type) = some 58 := by kernel_rfl
  go_enter Tryd.func19, Tryd.ntmps19
  go_wp2_with (simp only [key])
  go_ret
  exact ⟨rfl, rfl⟩
theorem TrailingZeros32_ne (x : BitVec 32) (w : World) (h : x ≠ w0) (hT : TabOk w) :
    Calls Tryd.prog 19 #[.int .u32 (wN x)] w fun e w' => e = .returned (.int .i64 (tz x)) ∧ w = w' := by
  obtain ⟨hi, htab⟩ := Lib.deBruijn32_at _ (tz_lt h)
  have hcell := hT.2 _ hi
  rw [htab] at hcell
  have h0 := toNat_ne h
  exact tz_core x.toNat (tz x) _ w (by simp; omega) (tz_key h) hi (tz_lt h) hcell
theorem TrailingZeros32_0 (w : World) :
    Calls Tryd.prog 19 #[.int .u32 0] w fun e w' => e = .returned (.int .i64 32) ∧ w = w' := by
  go_enter Tryd.func19, Tryd.ntmps19
  go_wp2
  go_ret
  exact ⟨rfl, rfl⟩
end Go.Proofs.YtbbdiondhnmnaaaDoor

/- The one listed variable, math/bits.deBruijn32tab: what the row's condition gives the walk. Conditions: none. -/
namespace Go.Proofs.YtbbdiondhnmnaaaDoor
open Go.ChangeShapes Go.WideShapes Go.ChangeAt Go.WideMaps Go.WideElems Go.RowKit

def tabD {H : Type} : DataW H := .agg (Lib.deBruijn32tab.map fun (n : Nat) => .lit (.int .u8 n))
theorem tab_eq {H : Type} : (Rows.laid_math_bits_deBruijn32tab : DataW H) = tabD := rfl
abbrev laid1 : List (String × DataW Unit) := [("math/bits.deBruijn32tab", Rows.laid_math_bits_deBruijn32tab)]
theorem gTab : Tryd.prog.globalNamed "math/bits.deBruijn32tab" = some 0 := by kernel_rfl
theorem tTab : (Tryd.prog.globals[0]?).map (·.type) = some 58 := by kernel_rfl
/-- The door's own heap meets the condition. -/
theorem door_met (os : Os) (args : Array Value) : laidMetH Tryd.prog laid1 ((World.doorLaid Tryd.prog 14 os).forCall (fun _ _ => 0) ⟨#[], args, []⟩).memory :=
  laidMetH_of_parts3 (fuel := 8) (laidMet_of_run' 8 (by kernel_rfl) (by kernel_rfl)) (by kernel_rfl) (by kernel_rfl)
theorem tab_of_laid {W : World} (h : laidMetH Tryd.prog laid1 W) : TabOk W := by
  rw [MakeChecks.laidMetH_plain _ _ _ (by kernel_rfl)] at h
  obtain ⟨ps, ⟨g0, t0, cs0, f0, p0, q0, hg0, ht0, hv0, hd0, _⟩, _, _⟩ := h
  obtain rfl := Option.some.inj (gTab.symm.trans hg0)
  obtain rfl := Option.some.inj (tTab.symm.trans ht0)
  rw [tab_eq] at hd0
  obtain ⟨xs, m, rfl, hx, hlen, hn, hel⟩ := DataW.trod_array Tryd.underlying58 hd0
  have c5 : Tryd.prog.cellsOf 5 = 1 := by kernel_rfl
  have c95 : Tryd.prog.cellsOf 58 = 32 := by kernel_rfl
  rw [c95] at hlen
  injection hx with hx1 hx2
  unfold tabD at hx1
  injection hx1 with hx1
  have cell : ∀ j, j < 32 → W.cell? ⟨0, j, none⟩ = some (.int .u8 (Lib.deBruijn32tab.getD j 0)) := by
    intro j hj
    have h1 := hel j hj
    rw [c5, Nat.mul_one] at h1
    have hjx : j < xs.length := by omega
    rw [List.getElem?_eq_getElem hjx] at h1
    obtain ⟨k, e1, e2, _⟩ := DataW.trod_int Tryd.underlying5 h1
    have hjt : j < Lib.deBruijn32tab.length := hj
    have hk : k = (Lib.deBruijn32tab.getD j 0 : Nat) := by
      have h3 : (xs.map (·.1))[j]? = some (.lit (.int .u8 k)) := by
        rw [List.getElem?_map, List.getElem?_eq_getElem hjx]
        simp [e2]
      rw [← hx1, List.getElem?_map, List.getElem?_eq_getElem hjt] at h3
      simp at h3
      rw [getD_at _ _ hjt]
      exact h3.symm
    subst hk
    rw [World.var?_cell hg0 hv0 j]
    have hjc : j < cs0.size := by rw [← Array.length_toList, hlen]; exact hj
    have h2 := congrArg (fun l => l[0]?) e1
    simp only [List.getElem?_take, List.getElem?_drop, Nat.add_zero] at h2
    simpa [hjc] using h2
  exact ⟨block_lt_of_cell (cell 0 (by omega)), cell⟩
end Go.Proofs.YtbbdiondhnmnaaaDoor
