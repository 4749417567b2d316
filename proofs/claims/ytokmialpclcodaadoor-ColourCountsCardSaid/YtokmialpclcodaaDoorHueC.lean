/- A painter to begin with, and the fewest colours. Conditions: the edges read as a list; the table. -/
import Derived.Test.YtokmialpclcodaaDoorHueA
import Derived.Test.YtokmialpclcodaaDoorRepeat
import Derived.Test.YtokmialpclcodaaDoorGraphB
import Derived.Test.YtokmialpclcodaaDoorNear
namespace Go.Proofs.YtokmialpclcodaaDoor
open Go.RowKit Go.Shelf
attribute [local go_sem] Oper.semAt_some

section
variable {P : Program} {md : Region.Mode} {ops : Array Oper} {z : Nat} {C : World → Prop} {Q : Act → World → Prop}
theorem anyC_two {i j : Nat} {oi oj : Oper} {fuel : Nat} {listed : Array Bool} {a : Act} {w : World} (hr : Region.ready md ops listed = [i, j]) (hi : ops[i]? = some oi) (hj : ops[j]? = some oj) (hwi : Region.wanted oi (yielded ops a.tmps) = true) (hwj : Region.wanted oj (yielded ops a.tmps) = true) (hC : listed.getD z false = true ∨ C w)
    (h1 : oi.wp P a w (anyC P md ops z C Q fuel (listed.setIfInBounds i true)) noP) (h2 : oj.wp P a w (anyC P md ops z C Q fuel (listed.setIfInBounds j true)) noP) : anyC P md ops z C Q (fuel + 1) listed a w :=
  ⟨hC, fun h0 => (by rw [hr] at h0; cases h0), fun k hk => by
    rw [hr] at hk
    simp only [List.mem_cons, List.not_mem_nil, or_false] at hk
    rcases hk with rfl | rfl
    · exact ⟨oi, hi, .inl ⟨hwi, h1⟩⟩
    · exact ⟨oj, hj, .inl ⟨hwj, h2⟩⟩⟩
end

set_option maxRecDepth 100000 in
set_option maxHeartbeats 4000000 in
theorem col_fresh (N : Nat) (A : Option Addr) (n c : Nat) (es : List Ed) (w : World) (hl : es.length = n) (hg : GoodG N es) (hr : Els w w.heap.size 3 Ed.cells A es) :
    Calls Tryd.prog 41 #[.agg #[.int .i64 N, .slice A n c]] w fun e w' => ∃ (Q g B : Nat) (A1 : Option Addr), e = .returned (.pointer (some ⟨Q, 0, none⟩)) ∧ Below w.heap.size w w' ∧ w.heap.size ≤ B ∧ B ≤ Q ∧ Blk w' Q 73 #[.slice A1 N N, .slice (some ⟨g, 0, none⟩) N N] ∧ Els w' B 1 wcell A1 (nearL N es) ∧ Own w' B 3 1 icell (some ⟨g, 0, none⟩) N (List.replicate N (-1)) := by
  have hN := hg.n10
  obtain ⟨S, hS⟩ : ∃ S, S = w.heap.size := ⟨_, rfl⟩
  obtain ⟨W1, hW1⟩ : ∃ W1, W1 = w.alloc (.cells #[.int .i64 N, .slice A n c] 33) := ⟨_, rfl⟩
  have hb1 : Below S w W1 := by rw [hW1, hS]; exact (Below.refl _ w).alloc (Nat.le_refl _) _
  have hk1 : Blk W1 S 33 #[.int .i64 N, .slice A n c] := by rw [hW1, hS]; exact Blk.new w _ _
  have hz1 : W1.heap.size = S + 1 := by rw [hW1, hS]; exact size_alloc' _ _
  have hr1 : Els W1 S 3 Ed.cells A es := by rw [← hS] at hr; exact hr.below hb1
  have HNEAR : Hid (∀ V : World, Below (S + 1) W1 V → Calls Tryd.prog 37 #[.agg #[.int .i64 N, .slice A n c]] V fun e w' => ∃ A', e = .returned (.slice A' N N) ∧ Below V.heap.size V w' ∧ Own w' (V.heap.size + 1) 51 1 wcell A' N (nearL N es)) := Lib.hid (fun V hV =>
    graph_Near N A n c es V hl hg ((hr1.below (hV.mono (by omega))).more (by have := hV.size; omega)))
  have HS := Lib.hid hS
  have HW1 := Lib.hid hW1
  have HB1 := Lib.hid hb1
  have HK1 := Lib.hid hk1
  have HZ1 := Lib.hid hz1
  have hbD : Below (S + 1) W1 W1.drew := (Below.refl _ W1).drew
  have HBD := Lib.hid hbD
  clear hS hW1 hb1 hk1 hz1 hr1 hl hg hr hbD
  go_enter Tryd.func41, Tryd.ntmps41
  go_wp2_with fail
  rw [← HW1.out, ← HS.out]
  refine region_plain 99 9 (fun w' => Below (S + 1) W1 w') (by kernel_rfl) rfl ?_
  refine anyC_reads (by kernel_rfl) [0, 3, 4] ?opg ?ohg 6 _ _ _ (by kernel_rfl) ?okg
  case ohg => (simp only [List.filterMap_cons, List.filterMap_nil, List.getElem?_toArray, List.getElem?_cons_zero, List.getElem?_cons_succ]; try rfl)
  repeat (
    refine readC_step (v := ?_) rfl (fun w' hw' => ?_) ?_
    rotate_left
    focus (have p0 := (HK1.out.below hw' (by omega)).cell 0; have p1 := (HK1.out.below hw' (by omega)).cell 1; go_simp; try with_reducible rfl)
    go_simp)
  refine readC_nil ?_
  refine anyC_two (i := 1) (j := 2) (by kernel_rfl) rfl rfl rfl rfl (.inr HBD.out) ?_ ?_
  · go_simp
    refine (HNEAR.out _ HBD.out).mono ?_
    clear HNEAR
    rintro e v2 ⟨A1, rfl, hb2, ho2⟩
    have hS1 : S + 1 ≤ W1.drew.heap.size := by show S + 1 ≤ W1.heap.size; rw [HZ1.out]; exact Nat.le_refl _
    have hb2' : Below (S + 1) W1 v2 := HBD.out.trans (hb2.mono hS1)
    have hsz2 : S + 1 ≤ v2.heap.size := Nat.le_trans hS1 hb2.size
    have hb3 : Below (S + 1) W1 (v2.alloc (.cells #[.int .i64 (-1)] 3)) := hb2'.alloc hsz2 _
    have hE3 : Els (v2.alloc (.cells #[.int .i64 (-1)] 3)) (v2.heap.size + 1) 1 icell (some ⟨v2.heap.size, 0, none⟩) [(-1 : Int)] := by
      have := els_of_blk (Blk.new v2 3 #[.int .i64 (-1)]) 1 icell (fun _ => rfl) [(-1 : Int)] rfl
      rwa [size_alloc'] at this
    have HREP := Lib.hid (Repeat_ints (-1) (some ⟨v2.heap.size, 0, none⟩) 1 N (v2.heap.size + 1) (v2.alloc (.cells #[.int .i64 (-1)] 3)) (by omega) hE3)
    have HN2 := Lib.hid (ho2.els.below ((Below.refl v2.heap.size v2).alloc (Nat.le_refl _) (.cells #[.int .i64 (-1)] 3)))
    have HBB2 := Lib.hid hb2'
    have HBB3 := Lib.hid hb3
    clear hb2 ho2 hb2' hb3 hE3
    go_simp
    refine anyC_one (i := 2) (by kernel_rfl) rfl rfl (.inr HBB2.out) ?_
    go_simp
    refine anyC_one (i := 5) (by kernel_rfl) rfl rfl (.inr HBB3.out) ?_
    go_simp
    refine HREP.out.mono ?_
    clear HREP
    rintro e v4 ⟨rfl, hb4, ho4⟩
    rw [size_alloc'] at hb4 ho4 ⊢
    have hb4' : Below (S + 1) W1 v4 := HBB3.out.trans (hb4.mono (by omega))
    have HBB4 := Lib.hid hb4'
    have HO4 := Lib.hid ho4
    have HN4 := Lib.hid (HN2.out.below (hb4.mono (Nat.le_succ _)))
    have hsz4 : v2.heap.size + 1 ≤ v4.heap.size := by have := hb4.size; rwa [size_alloc'] at this
    clear hb4 ho4 hb4'
    go_simp
    refine anyC_one (i := 6) (by kernel_rfl) rfl rfl (.inr HBB4.out) ?_
    go_simp
    refine anyC_one (i := 7) (by kernel_rfl) rfl rfl (.inr HBB4.out) ?_
    go_simp
    have hb5 : Below (S + 1) W1 (v4.alloc (.cells #[.slice A1 N N, .slice (some ⟨v2.heap.size + 1, 0, none⟩) N N] 73)) := HBB4.out.alloc (by omega) _
    have HB5 := Lib.hid hb5
    clear hb5
    refine anyC_one (i := 8) (by kernel_rfl) rfl rfl (.inr HB5.out) ?_
    go_simp
    refine anyC_end (by kernel_rfl) (.inr HB5.out) ?_
    go_wp2_with fail
    go_ret
    rw [← HS.out]
    exact ⟨v4.heap.size, v2.heap.size + 1, v2.heap.size + 1, A1, rfl, HB1.out.trans (HB5.out.mono (Nat.le_succ _)), by omega, hsz4, Blk.new _ _ _, (HN4.out.more (Nat.le_succ _)).below ((Below.refl _ v4).alloc hsz4 _), HO4.out.alloc _⟩
  · go_simp
    have hb2' : Below (S + 1) W1 (W1.alloc (.cells #[.int .i64 (-1)] 3)).drew := ((Below.refl _ W1).alloc (by have := HZ1.out; omega) _).drew
    have hE3 : Els (W1.alloc (.cells #[.int .i64 (-1)] 3)).drew (W1.heap.size + 1) 1 icell (some ⟨W1.heap.size, 0, none⟩) [(-1 : Int)] := by
      have := els_of_blk ((Blk.new W1 3 #[.int .i64 (-1)]).drew) 1 icell (fun _ => rfl) [(-1 : Int)] rfl
      rw [show (W1.alloc (.cells #[.int .i64 (-1)] 3)).drew.heap.size = W1.heap.size + 1 from size_alloc' _ _] at this
      exact this
    obtain ⟨V, hV⟩ : ∃ V, V = (W1.alloc (.cells #[.int .i64 (-1)] 3)).drew := ⟨_, rfl⟩
    have hzV : V.heap.size = W1.heap.size + 1 := by rw [hV]; exact size_alloc' _ _
    rw [← hV] at hb2' hE3 ⊢
    have HBB2 := Lib.hid hb2'
    have HE3 := Lib.hid hE3
    have HNC := Lib.hid (HNEAR.out _ hb2')
    have HZV := Lib.hid hzV
    clear hb2' hE3 hV HNEAR hzV
    refine anyC_one (i := 1) (by kernel_rfl) rfl rfl (.inr HBB2.out) ?_
    go_simp
    refine HNC.out.mono ?_
    clear HNC
    rintro e v2 ⟨A1, rfl, hb2, ho2⟩
    have hsz2 := hb2.size
    have hb3 : Below (S + 1) W1 v2 := HBB2.out.trans (hb2.mono (by have := HZ1.out; have := HZV.out; omega))
    have HBB3 := Lib.hid hb3
    have HREP := Lib.hid (Repeat_ints (-1) (some ⟨W1.heap.size, 0, none⟩) 1 N (W1.heap.size + 1) v2 (by have := HZ1.out; have := HZV.out; omega) (HE3.out.below (hb2.mono (by have := HZ1.out; have := HZV.out; omega))))
    have HN2 := Lib.hid ho2.els
    clear hb2 ho2 hb3
    go_simp
    refine anyC_one (i := 5) (by kernel_rfl) rfl rfl (.inr HBB3.out) ?_
    go_simp
    refine HREP.out.mono ?_
    clear HREP
    rintro e v4 ⟨rfl, hb4, ho4⟩
    have hb4' : Below (S + 1) W1 v4 := HBB3.out.trans (hb4.mono (by have := HZ1.out; have := HZV.out; omega))
    have HBB4 := Lib.hid hb4'
    have HO4 := Lib.hid ho4
    have HN4 := Lib.hid (HN2.out.below hb4)
    have hsz4 : v2.heap.size ≤ v4.heap.size := hb4.size
    clear hb4 ho4 hb4'
    go_simp
    refine anyC_one (i := 6) (by kernel_rfl) rfl rfl (.inr HBB4.out) ?_
    go_simp
    refine anyC_one (i := 7) (by kernel_rfl) rfl rfl (.inr HBB4.out) ?_
    go_simp
    have hb5 : Below (S + 1) W1 (v4.alloc (.cells #[.slice A1 N N, .slice (some ⟨v2.heap.size, 0, none⟩) N N] 73)) := HBB4.out.alloc (by have := HZ1.out; have := HZV.out; omega) _
    have HB5 := Lib.hid hb5
    clear hb5
    refine anyC_one (i := 8) (by kernel_rfl) rfl rfl (.inr HB5.out) ?_
    go_simp
    refine anyC_end (by kernel_rfl) (.inr HB5.out) ?_
    go_wp2_with fail
    go_ret
    rw [← HS.out]
    exact ⟨v4.heap.size, v2.heap.size, v2.heap.size, A1, rfl, HB1.out.trans (HB5.out.mono (Nat.le_succ _)), by have := HZ1.out; have := HZV.out; omega, hsz4, Blk.new _ _ _, HN4.out.below ((Below.refl _ v4).alloc hsz4 _), HO4.out.alloc _⟩
end Go.Proofs.YtokmialpclcodaaDoor
