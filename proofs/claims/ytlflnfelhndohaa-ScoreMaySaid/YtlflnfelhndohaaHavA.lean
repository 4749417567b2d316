/- The nodes of a score: how they are ordered. Conditions: none. -/
import Derived.Test.YtlflnfelhndohaaCmpI
import Derived.Test.YtlflnfelhndohaaRegC
import Derived.Test.YtlflnfelhndohaaSnoc
import Derived.Test.YtlflnfelhndohaaSortP
namespace Go.Proofs.Ytlflnfelhndohaa
open Go.RowKit Go.Shelf

structure Nd where
  i : Int
  d : Int
abbrev Nd.cells (a : Nd) : List Value := [.int .i64 a.i, .int .i64 a.d]
abbrev Nd.agg (a : Nd) : Value := .agg #[.int .i64 a.i, .int .i64 a.d]
def ordN (a b : Nd) : Int := orI (cmpI b.d a.d) (cmpI a.i b.i)
theorem ordN_neg (a b : Nd) : ordN a b < 0 ↔ b.d < a.d ∨ (a.d = b.d ∧ a.i < b.i) := by
  unfold ordN orI cmpI
  by_cases h1 : b.d < a.d
  · rw [if_pos h1]; simp [h1]
  · rw [if_neg h1]
    by_cases h2 : a.d < b.d
    · rw [if_pos h2]; simp; omega
    · rw [if_neg h2, if_pos rfl]
      by_cases h3 : a.i < b.i
      · rw [if_pos h3]; omega
      · rw [if_neg h3]
        split <;> omega
def NdC (S : Nat) (a b : Nd) (w : World) : Prop := Blk w S 96 #[.int .i64 a.i, .int .i64 a.d] ∧ Blk w (S + 1) 96 #[.int .i64 b.i, .int .i64 b.d]
set_option maxRecDepth 100000 in
set_option maxHeartbeats 1000000 in
theorem node_order (a b : Nd) (w : World) : Calls Try.prog 46 #[a.agg, b.agg] w fun e w' => e = .returned (.int .i64 (ordN a b)) ∧ Below w.heap.size w w' := by
  obtain ⟨S, hS⟩ : ∃ S, S = w.heap.size := ⟨_, rfl⟩
  obtain ⟨W1, hW1⟩ : ∃ W1, W1 = (w.alloc (.cells #[.int .i64 a.i, .int .i64 a.d] 96)).alloc (.cells #[.int .i64 b.i, .int .i64 b.d] 96) := ⟨_, rfl⟩
  have hz1 : W1.heap.size = S + 2 := by rw [hW1, size_alloc', size_alloc', hS]
  have hb1 : Below S w W1 := by rw [hW1, hS]; exact ((Below.refl _ w).alloc (Nat.le_refl _) _).alloc (by simp) _
  have hC : NdC S a b W1 := ⟨by rw [hW1, hS]; exact (Blk.new w _ _).alloc _, by
    have := Blk.new (w.alloc (.cells #[.int .i64 a.i, .int .i64 a.d] 96)) 96 #[.int .i64 b.i, .int .i64 b.d]
    rw [size_alloc'] at this
    rw [hW1, hS]
    exact this⟩
  obtain ⟨v, hv⟩ : ∃ v, v = ordN a b := ⟨_, rfl⟩
  have hor : orI (cmpI b.d a.d) (cmpI a.i b.i) = v := hv.symm
  obtain ⟨x, hx⟩ : ∃ x, x = cmpI b.d a.d := ⟨_, rfl⟩
  obtain ⟨y, hy⟩ : ∃ y, y = cmpI a.i b.i := ⟨_, rfl⟩
  rw [← hx, ← hy] at hor
  have HX := Lib.hid (fun w => compare_int b.d a.d w)
  have HY := Lib.hid (fun w => compare_int a.i b.i w)
  rw [← hx] at HX
  rw [← hy] at HY
  have HV := Lib.hid hv
  have HO := Lib.hid hor
  have HC := Lib.hid hC
  have HB1 := Lib.hid hb1
  have HW1 := Lib.hid hW1
  have HS := Lib.hid hS
  have HZ := Lib.hid hz1
  rw [← hv]
  clear hx hy hor hC hb1 hW1 hS hz1 hv
  go_enter Try.func46, Try.ntmps46
  go_wp2_with fail
  rw [← HW1.out, ← HS.out]
  refine region_plain 12 13 (fun w' => NdC S a b w') (by kernel_rfl) rfl ?_
  refine anyC_reads (by kernel_rfl) [0, 1, 2, 3, 5, 6, 7, 8] ?opc ?ohc 5 _ _ _ (by kernel_rfl) ?okc
  case ohc => (simp only [List.filterMap_cons, List.filterMap_nil, List.getElem?_toArray, List.getElem?_cons_zero, List.getElem?_cons_succ]; try rfl)
  repeat (
    refine readC_step (v := ?_) rfl (fun w' hw' => ?_) ?_
    rotate_left
    focus (obtain ⟨q1, q2⟩ := hw'; have n1 := q1.cell 0; have n2 := q1.cell 1; have n3 := q2.cell 0; have n4 := q2.cell 1; clear q1 q2; go_simp; try with_reducible rfl)
    go_simp)
  refine readC_nil ?_
  refine anyC_one (i := 4) (by kernel_rfl) rfl rfl (.inr HC.out) ?_
  go_simp
  refine (HX.out _).mono ?_
  rintro e v1 ⟨rfl, rfl⟩
  go_simp
  refine anyC_one (i := 9) (by kernel_rfl) rfl rfl (.inr HC.out) ?_
  go_simp
  refine (HY.out _).mono ?_
  rintro e v1 ⟨rfl, rfl⟩
  go_simp
  refine anyC_one (i := 10) (by kernel_rfl) rfl rfl (.inr HC.out) ?_
  go_simp
  obtain ⟨V, hV⟩ : ∃ V, V = (W1.alloc (.cells #[.int .i64 x, .int .i64 y] 3)).drew := ⟨_, rfl⟩
  have hC2 : NdC S a b V := by rw [hV]; exact ⟨(HC.out.1.alloc _).drew, (HC.out.2.alloc _).drew⟩
  have hbv : Below w.heap.size w V := by
    rw [hV]
    have h := (HB1.out.alloc (show S ≤ W1.heap.size by have := HZ.out; omega) (.cells #[.int .i64 x, .int .i64 y] 3)).drew
    rw [HS.out] at h
    exact h
  have HOR := Lib.hid (or_two x y W1.heap.size V (by rw [hV]; exact (Blk.new W1 _ _).drew))
  rw [← hV]
  rw [HO.out] at HOR
  have HC2 := Lib.hid hC2
  have HBV := Lib.hid hbv
  clear hV hC2 hbv
  refine anyC_one (i := 11) (by kernel_rfl) rfl rfl (.inr HC2.out) ?_
  go_simp
  refine HOR.out.mono ?_
  rintro e v2 ⟨rfl, rfl⟩
  go_simp
  refine anyC_one (i := 12) (by kernel_rfl) rfl rfl (.inr HC2.out) ?_
  go_simp
  refine anyC_end (by kernel_rfl) (.inl (by kernel_rfl)) ?_
  go_wp2_with fail
  go_ret
  exact ⟨rfl, HBV.out⟩
end Go.Proofs.Ytlflnfelhndohaa
