/- What words are told to be wrong; the rank of a set; the largest common set: the program's functions. Conditions: the words read as a list; the table. -/
import Derived.Test.YtnpcbbdfpbnakaaDoorLotsA
import Derived.Test.YtnpcbbdfpbnakaaDoorIdx
import Derived.Test.YtnpcbbdfpbnakaaDoorBit
import Derived.Test.YtnpcbbdfpbnakaaDoorCount
namespace Go.Proofs.YtnpcbbdfpbnakaaDoor
open Go.RowKit Go.Shelf
attribute [local go_sem ↓] w_and w_or w_xor w_andNot w_and1 w_and255 w_xor1 w_or0 w_shl w_shl1 w_shr w_sub w_add w_sub1 w_add1
attribute [local go_sem] w_eq0 w_ne0 w_eq1 w_eq w_ne

def lotBad (x : BitVec 32) : Bool := wShr x 10 != w0
def lotsCheck (l : List (BitVec 32)) : Int := if 10 < l.length then 1 else if l.any lotBad then 4 else 0
theorem ent_lot : Ent Tryd.prog 94 := ent_of Tryd.func94 (by kernel_rfl) rfl
theorem lot1_calls (x : BitVec 32) (w : World) : Calls Tryd.prog 94 #[.int .u32 (wN x)] w fun e w' => e = .returned (.bool (lotBad x)) ∧ Below w.heap.size w w' := by
  go_enter Tryd.func94, Tryd.ntmps94
  go_wp2_with fail
  go_ret
  exact ⟨rfl, Below.refl _ _⟩
set_option maxRecDepth 100000 in
theorem lots_check (A : Option Addr) (n c : Nat) (l : List (BitVec 32)) (w : World) (hl : l.length = n) (hn : n ≤ maxLen) (hr : Els w w.heap.size 1 wcell A l) :
    Calls Tryd.prog 62 #[.slice A n c] w fun e w' => e = .returned (.int .i64 (lotsCheck l)) ∧ Below w.heap.size w w' := by
  have HI := Lib.hid (ContainsFunc_words 94 ent_lot #[] lotBad A n c l w hl hn hr (fun a wx _ hb => (lot1_calls a wx).mono fun e w' h => ⟨h.1, h.2.mono hb.size⟩))
  have HN : Hid (lotsCheck l = if 10 < n then 1 else if l.any lotBad then 4 else 0) := by subst hl; rfl
  unfold maxLen at hn
  clear hl hr
  by_cases h10 : 10 < n
  · go_enter Tryd.func62, Tryd.ntmps62
    go_wp2_with fail
    go_ret
    exact ⟨ret_i64 (by rw [HN.out, if_pos h10]), Below.refl _ _⟩
  · go_enter Tryd.func62, Tryd.ntmps62
    go_wp2_with fail
    refine HI.out.mono ?_
    clear HI
    rintro e w' ⟨rfl, hb⟩
    have HB := Lib.hid hb
    clear hb
    cases hany : l.any lotBad with
    | true =>
      have HA := Lib.hid hany
      clear hany
      go_wp2_with fail
      go_ret
      exact ⟨ret_i64 (by rw [HN.out, if_neg h10, if_pos HA.out]), HB.out⟩
    | false =>
      have HA := Lib.hid hany
      clear hany
      go_wp2_with fail
      go_ret
      exact ⟨ret_i64 (by rw [HN.out, if_neg h10, if_neg (by rw [HA.out]; simp)]), HB.out⟩
theorem lotsCheck_n {l : List (BitVec 32)} (h : lotsCheck l = 0) : l.length ≤ 10 := by
  unfold lotsCheck at h
  split at h
  · cases h
  · omega
/-- What the program tells of a set: its rank and what is wrong. -/
noncomputable def rankR (l : List (BitVec 32)) (x : BitVec 32) : Int × Int :=
  if lotsCheck l ≠ 0 then (0, lotsCheck l) else if 2 ^ l.length ≤ x.toNat then (0, 2) else ((rk ((bitsL x).map (lw l)).reverse : Int), 0)
set_option maxRecDepth 100000 in
theorem lots_Rank (A : Option Addr) (n c : Nat) (l : List (BitVec 32)) (x : BitVec 32) (w : World) (hl : l.length = n) (hn : n ≤ maxLen) (hr : Els w w.heap.size 1 wcell A l) (htab : TabOk w) :
    Calls Tryd.prog 27 #[.slice A n c, .int .u32 (wN x)] w fun e w' => ∃ v er : Int, e = .returned (.tuple #[.int .i64 v, .int .i64 er]) ∧ (v, er) = rankR l x ∧ Below w.heap.size w w' := by
  have HC := Lib.hid (lots_check A n c l w hl hn hr)
  have HN : Hid (rankR l x = if lotsCheck l ≠ 0 then (0, lotsCheck l) else if 2 ^ n ≤ x.toNat then (0, 2) else ((rk ((bitsL x).map (lw l)).reverse : Int), 0)) := by subst hl; rfl
  have HL := Lib.hid hl
  have HR := Lib.hid hr
  have hsh := shr_zero_iff x n
  clear hl hr
  go_enter Tryd.func27, Tryd.ntmps27
  go_wp2_with fail
  refine HC.out.mono ?_
  clear HC
  rintro e v1 ⟨rfl, hb1⟩
  have HB1 := Lib.hid hb1
  by_cases h0 : lotsCheck l = 0
  · have h10 := lotsCheck_n h0
    rw [HL.out] at h10
    have H0 := Lib.hid h0
    rw [h0]
    clear h0 hb1
    unfold maxLen at hn
    by_cases hx : 2 ^ n ≤ x.toNat
    · rw [decide_eq_true hx] at hsh
      have HX := Lib.hid hx
      clear hx
      go_wp2_with fail
      refine bodyPost_ret (v := .tuple #[.int .i64 0, .int .i64 2]) (by simp [results, Tryd.results27, go_sem]) rfl ?_
      exact ⟨0, 2, rfl, by rw [HN.out, if_neg (by simp [H0.out]), if_pos HX.out], HB1.out⟩
    · have HK := Lib.hid (lots_rank A n c l x v1 HL.out (by omega) ((HR.out.below HB1.out).more HB1.out.size) (htab.below HB1.out htab.1) (bits_below (by omega)))
      rw [decide_eq_false hx] at hsh
      have HX := Lib.hid hx
      clear hx
      go_wp2_with fail
      refine HK.out.mono ?_
      clear HK
      rintro e v2 ⟨rfl, hb2⟩
      have HB2 := Lib.hid (HB1.out.trans (hb2.mono HB1.out.size))
      clear hb2
      go_wp2_with fail
      refine bodyPost_ret (v := .tuple #[.int .i64 (rk ((bitsL x).map (lw l)).reverse), .int .i64 0]) (by simp [results, Tryd.results27, go_sem]) rfl ?_
      exact ⟨_, _, rfl, by rw [HN.out, if_neg (by simp [H0.out]), if_neg HX.out], HB2.out⟩
  · have h1 : (lotsCheck l != 0) = true := by simpa using h0
    have H0 := Lib.hid h0
    obtain ⟨y, hy⟩ : ∃ y, y = lotsCheck l := ⟨_, rfl⟩
    rw [← hy] at h1 ⊢
    have HY := Lib.hid hy
    clear h0 hy hb1
    go_wp2_with fail
    refine bodyPost_ret (v := .tuple #[.int .i64 0, .int .i64 y]) (by simp [results, Tryd.results27, go_sem]) rfl ?_
    exact ⟨0, y, rfl, by rw [HN.out, if_pos H0.out, HY.out], HB1.out⟩
end Go.Proofs.YtnpcbbdfpbnakaaDoor
