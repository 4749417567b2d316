/- What is wrong with a graph, or with two nodes; does each way meet a set. Conditions: the edges read as a list. -/
import Derived.Test.YtjkfogkpacmdlaaLanesApart37
import Derived.Test.YtjkfogkpacmdlaaLanesApart40
import Derived.Test.YtjkfogkpacmdlaaLanesApart41
import Derived.Test.YtjkfogkpacmdlaaLanesApart20
namespace Go.Proofs.Ytjkfogkpacmdlaa
open Go.RowKit
attribute [local go_sem ↓] w_and w_or w_xor w_andNot w_and1 w_and255 w_xor1 w_or0 w_shl w_shl1 w_shr w_sub w_add w_sub1 w_add1
attribute [local go_sem] w_eq0 w_ne0 w_eq1 w_eq w_ne

def endsBad (N a b : Int) : Prop := a < 0 ∨ N ≤ a ∨ b < 0 ∨ N ≤ b ∨ a = b
def waysCheck (N : Int) (l : List Ed) (a b : Int) : Int :=
  if graphCheck N l ≠ 0 then graphCheck N l else if a < 0 ∨ N ≤ a ∨ b < 0 ∨ N ≤ b ∨ a = b then 2 else if adj l a.toNat b.toNat = true then 3 else 0
theorem ways_bad {N : Int} {l : List Ed} {a b : Int} (h : graphCheck N l ≠ 0) : waysCheck N l a b = graphCheck N l := by unfold waysCheck; rw [if_pos h]
theorem ways_ends {N : Int} {l : List Ed} {a b : Int} (h : graphCheck N l = 0) (h2 : a < 0 ∨ N ≤ a ∨ b < 0 ∨ N ≤ b ∨ a = b) : waysCheck N l a b = 2 := by unfold waysCheck; rw [if_neg (by simp [h]), if_pos h2]
theorem ways_adj {N : Int} {l : List Ed} {a b : Nat} (h : graphCheck N l = 0) (h2 : ¬ ((a : Int) < 0 ∨ N ≤ a ∨ (b : Int) < 0 ∨ N ≤ b ∨ (a : Int) = b)) : waysCheck N l a b = if adj l a b = true then 3 else 0 := by unfold waysCheck; rw [if_neg (by simp [h]), if_neg h2]; rfl
theorem ways_ok {N : Int} {l : List Ed} {a b : Int} (h : waysCheck N l a b = 0) : graphCheck N l = 0 ∧ ∃ i j : Nat, a = i ∧ b = j ∧ (i : Int) < N ∧ (j : Int) < N ∧ i ≠ j ∧ adj l i j = false := by
  unfold waysCheck at h
  split at h
  · rename_i h0; exact absurd h h0
  · rename_i h0
    split at h
    · omega
    · rename_i h1
      split at h
      · omega
      · rename_i h2
        refine ⟨by omega, a.toNat, b.toNat, by omega, by omega, by omega, by omega, by omega, by simpa using h2⟩

set_option maxRecDepth 100000 in
set_option maxHeartbeats 1000000 in
theorem lanes_wrong (N a b : Int) (A : Option Addr) (n c : Nat) (l : List Ed) (w : World) (hl : l.length = n) (hn : n ≤ maxLen) (hr : Els w w.heap.size 3 Ed.cells A l) :
    Calls Try.prog 22 #[.agg #[.int .i64 N, .slice A n c], .int .i64 a, .int .i64 b] w fun e w' => e = .returned (.int .i64 (waysCheck N l a b)) ∧ Below w.heap.size w w' := by
  have hb0 := (Below.refl w.heap.size w).alloc (Nat.le_refl _) (.cells #[.int .i64 N, .slice A n c] 24)
  have hB0 := Blk.new w 24 #[.int .i64 N, .slice A n c]
  have HW := Lib.hid (graph_Check N A n c l (w.alloc (.cells #[.int .i64 N, .slice A n c] 24)) hl hn ((hr.alloc (Nat.le_refl _) _).more (by rw [size_alloc']; omega)))
  have HL := Lib.hid hl
  have HR := Lib.hid hr
  have HB0 := Lib.hid hb0
  have HK0 := Lib.hid hB0
  have c0 := hB0.cell 0
  have c1 := hB0.cell 1
  clear hr hb0 hB0 hl
  go_enter Try.func22, Try.ntmps22
  go_wp2_with fail
  refine HW.out.mono ?_
  clear HW
  rintro e v1 ⟨rfl, hb1⟩
  have hk1 := HK0.out.below hb1 (by rw [size_alloc']; omega)
  have hb1' := HB0.out.trans (hb1.mono (by rw [size_alloc']; omega))
  have hz1 := hb1'.size
  have HB1 := Lib.hid hb1'
  clear c0 c1 hb1 hb1'
  have c0 := hk1.cell 0
  have c1 := hk1.cell 1
  clear hk1
  by_cases h0 : graphCheck N l = 0
  · obtain ⟨m, rfl, hg⟩ := graph_good h0
    have hm := hg.n10
    have HG := Lib.hid hg
    by_cases hbad : a < 0 ∨ (m : Int) ≤ a ∨ b < 0 ∨ (m : Int) ≤ b ∨ a = b
    · have HE := Lib.hid (ways_ends h0 hbad)
      rw [h0]
      clear h0 hg
      have hx : ¬ (0 ≤ a ∧ a < m ∧ 0 ≤ b ∧ b < m ∧ a ≠ b) := by omega
      have HX := Lib.hid hx
      clear hbad hx
      go_wp2_with fail
      all_goals first
        | (
          exfalso
          have hx := HX.out
          simp only [beq_iff_eq, beq_eq_false_iff_ne, ne_eq, Bool.not_eq_true', Bool.not_eq_false', decide_eq_true_eq, decide_eq_false_iff_not] at *
          omega)
        | (
          go_ret
          exact ⟨ret_i64 HE.out.symm, HB1.out⟩)
    · obtain ⟨i, rfl⟩ := Int.eq_ofNat_of_zero_le (show 0 ≤ a by omega)
      obtain ⟨j, rfl⟩ := Int.eq_ofNat_of_zero_le (show 0 ≤ b by omega)
      have hi : i < m := by omega
      have hj : j < m := by omega
      have HE := Lib.hid (ways_adj h0 hbad)
      have HN := Lib.hid (graph_Near m A n c l v1 HL.out hg ((HR.out.below HB1.out).more hz1))
      have HBI := Lib.hid (near_bit hg hi j)
      have hij : ((i : Int) == (j : Int)) = false := by simp; omega
      rw [h0]
      clear h0 hg hbad
      obtain ⟨ad, had⟩ : ∃ ad, ad = adj l i j := ⟨_, rfl⟩
      rw [← had] at HE HBI
      clear had
      go_wp2_with fail
      all_goals
        refine HN.out.mono ?_
        clear HN
        rintro e v2 ⟨A1, rfl, hb2, hown2⟩
        have HB2 := Lib.hid (HB1.out.trans (hb2.mono hz1))
        have hil : i < (nearL m l).length := by rw [nearL_length]; exact hi
        obtain ⟨b', off', rfl, _, g1⟩ := hown2.els.at1 hil
        rw [← lw_at _ i hil] at g1
        have HX := Lib.hid (shr_and1 (lw (nearL m l) i) j)
        obtain ⟨y, hy⟩ : ∃ y, y = lw (nearL m l) i := ⟨_, rfl⟩
        rw [← hy] at g1 HBI HX
        have hx := HX.out
        rw [HBI.out] at hx
        clear hb2 hown2 hil hy HX
        cases ad with
        | true =>
          go_wp2_with fail
          go_ret
          exact ⟨ret_i64 HE.out.symm, HB2.out⟩
        | false =>
          go_wp2_with fail
          go_ret
          exact ⟨ret_i64 HE.out.symm, HB2.out⟩
  · have HE := Lib.hid (ways_bad (a := a) (b := b) h0)
    have h1 : (graphCheck N l != 0) = true := by simpa using h0
    obtain ⟨x, hx⟩ : ∃ x, x = graphCheck N l := ⟨_, rfl⟩
    rw [← hx] at h1 HE ⊢
    clear h0 hx
    go_wp2_with fail
    go_ret
    exact ⟨ret_i64 HE.out.symm, HB1.out⟩
end Go.Proofs.Ytjkfogkpacmdlaa
