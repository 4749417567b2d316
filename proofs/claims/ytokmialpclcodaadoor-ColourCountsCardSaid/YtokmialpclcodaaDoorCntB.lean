/- The colourings by so many colours: the program's count. Conditions: the graph is one, 0 to 12 colours; the table. -/
import Derived.Test.YtokmialpclcodaaDoorCntA
import Derived.Test.YtokmialpclcodaaDoorHueC
import Derived.Test.YtokmialpclcodaaDoorGraphB
namespace Go.Proofs.YtokmialpclcodaaDoor
open Go.RowKit Go.Shelf
attribute [local go_sem] Oper.semAt_some

set_option maxRecDepth 100000 in
set_option maxHeartbeats 2000000 in
theorem col_Count (N n c k : Nat) (A : Option Addr) (es : List Ed) (w : World) (hk : k ≤ 12) (hl : es.length = n) (hg : GoodG N es) (he : graphCheck N es = 0) (hr : Els w w.heap.size 3 Ed.cells A es) (ht : TabOk w) :
    Calls Tryd.prog 18 #[.agg #[.int .i64 N, .slice A n c], .int .i64 k] w fun e w' => e = .returned (.tuple #[.int .i64 (PW N (looseB es) (maskW N) k), .int .i64 0]) ∧ Below w.heap.size w w' := by
  have hn45 : n ≤ 45 := by rw [← hl]; exact hg.m45
  have h0w := ht.1
  obtain ⟨S, hS⟩ : ∃ S, S = w.heap.size := ⟨_, rfl⟩
  obtain ⟨W1, hW1⟩ : ∃ W1, W1 = (w.alloc (.cells #[.int .i64 N, .slice A n c] 33)).alloc (.cells #[.int .i64 k] 3) := ⟨_, rfl⟩
  have hb1 : Below S w W1 := by rw [hW1, hS]; exact ((Below.refl _ w).alloc (Nat.le_refl _) _).alloc (by simp) _
  have hz1 : W1.heap.size = S + 2 := by rw [hW1, size_alloc', size_alloc', hS]
  have hk0 : Blk W1 S 33 #[.int .i64 N, .slice A n c] := by rw [hW1, hS]; exact (Blk.new w _ _).alloc _
  have hk1 : Blk W1 (S + 1) 3 #[.int .i64 k] := by rw [hW1, hS]; exact Blk.new_at (by simp)
  rw [← hS] at hr
  have hc0 := graph_Check N A n c es W1 hl (by unfold maxLen; omega) ((hr.below hb1).more (by omega))
  rw [he, hW1] at hc0
  have c0 := hk0.cell 0
  have c1 := hk0.cell 1
  rw [hW1] at c0 c1
  rw [hS] at c0 c1
  have HC := Lib.hid hc0
  have HR := Lib.hid hr
  have HT := Lib.hid ht
  have HK0 := Lib.hid hk0
  have HK1 := Lib.hid hk1
  have HB1 := Lib.hid hb1
  have HL := Lib.hid hl
  have HG := Lib.hid hg
  have HW1 := Lib.hid hW1
  have HS := Lib.hid hS
  have hS0 : 0 < S := by omega
  have hk0' : ¬ (k : Int) < 0 := by omega
  have hk12 : ¬ (12 : Int) < (k : Int) := by omega
  clear hc0 hr ht hk0 hk1 hb1 hl hW1 he hS
  go_enter Tryd.func18, Tryd.ntmps18
  go_wp2_with fail
  refine HC.out.mono ?_
  clear HC
  rintro e v1 ⟨rfl, hbv⟩
  rw [← HW1.out, hz1] at hbv
  have hz2 : S + 2 ≤ v1.heap.size := by have := hbv.size; omega
  have hb2 := HB1.out.trans (hbv.mono (by omega))
  have hk2 := HK0.out.below hbv (by omega)
  have hk3 := HK1.out.below hbv (by omega)
  have HF := Lib.hid (col_fresh N A n c es v1 HL.out HG.out ((HR.out.below hb2).more (by omega)))
  have HT2 : Hid (TabOk v1) := Lib.hid (HT.out.below hb2 (by omega))
  have c0 := hk2.cell 0
  have c1 := hk2.cell 1
  have d0 := hk3.cell 0
  have HK2 := Lib.hid hk2
  have HK3 := Lib.hid hk3
  have HB2 := Lib.hid hb2
  clear hbv hb2 hk2 hk3 HB1 HK0 HK1
  rw [← HS.out]
  go_wp2_with fail
  refine HF.out.mono ?_
  clear HF
  rintro e v2 ⟨Q, g, B, A1, rfl, hb3, hB1, hBQ, hq, hrt, hown⟩
  have hz3 := hb3.size
  have hql := hq.lt
  have hgl := hown.lt g rfl
  have hb3' := HB2.out.trans (hb3.mono (by omega))
  have hk2 := HK2.out.below hb3 (by omega)
  have hk3 := HK3.out.below hb3 (by omega)
  have ht3 := HT2.out.below hb3 (by omega)
  obtain ⟨Y, hY⟩ : ∃ Y, Y = v2.heap.size := ⟨_, rfl⟩
  have HY := Lib.hid hY
  have HQ := Lib.hid hq
  have HRT := Lib.hid hrt
  have HOWN := Lib.hid hown
  have HB3 := Lib.hid hb3'
  have HK2' := Lib.hid hk2
  have HK3' := Lib.hid hk3
  have HT3 := Lib.hid ht3
  clear hb3 hq hrt hown hb3' hk2 hk3 ht3 hY c0 c1 d0 HK2 HK3 HT2 HB2
  go_wp2_with fail
  rw [← HY.out]
  obtain ⟨W5, hW5⟩ : ∃ W5, W5 = (v2.alloc (.cells #[.pointer (some ⟨Q, 0, none⟩)] 68)).alloc (.cells #[.func (.func 42) #[] #[.pointer (some ⟨S, 0, none⟩), .pointer (some ⟨Y, 0, none⟩), .pointer (some ⟨S + 1, 0, none⟩), .pointer (some ⟨Y + 1, 0, none⟩)]] 70) := ⟨_, rfl⟩
  rw [← hW5]
  have hb25 : Below Y v2 W5 := by
    rw [hW5, HY.out]
    exact ((Below.refl _ v2).alloc (Nat.le_refl _) _).alloc (by rw [size_alloc']; omega) _
  have kl5 : Blk W5 Y 68 #[.pointer (some ⟨Q, 0, none⟩)] := by
    rw [hW5, HY.out]
    exact (Blk.new v2 _ _).alloc _
  have ko5 : Blk W5 (Y + 1) 70 #[.func (.func 42) #[] #[.pointer (some ⟨S, 0, none⟩), .pointer (some ⟨Y, 0, none⟩), .pointer (some ⟨S + 1, 0, none⟩), .pointer (some ⟨Y + 1, 0, none⟩)]] := by
    rw [hW5, HY.out]
    exact Blk.new_at (by rw [size_alloc'])
  have hYv := HY.out
  have hb5 := HB3.out.trans (hb25.mono (by omega))
  have hcall := col_count N es HG.out A1 N N B Q g k S Y (S + 1) (Y + 1) A n c hk (by omega) (by omega) N [] 0 0 W5 rfl (by omega) (by omega) (HRT.out.below (hb25.mono (by omega))) (HQ.out.below hb25 (by omega)) (by rw [hueL_nil]; exact HOWN.out.below hb25 (by omega)) (HT3.out.below hb25 (by omega)) (HK2'.out.below hb25 (by omega)) kl5 (HK3'.out.below hb25 (by omega)) ko5
  rw [cnt_PW HG.out, show ((0 : Nat) : Int) = 0 from rfl] at hcall
  have hz5 : S ≤ W5.heap.size := by have := hb25.size; omega
  have HCALL := Lib.hid hcall
  have HB5 := Lib.hid hb5
  clear hcall hb5 hb25 kl5 ko5 hW5 hYv
  refine HCALL.out.mono ?_
  clear HCALL
  rintro e W8 ⟨rfl, hh8, _⟩
  have HB8 := Lib.hid (HB5.out.trans (hh8.to (B := S) hz5 (by simp; omega)))
  clear hh8
  go_wp2_with fail
  go_ret2
  exact ⟨rfl, by rw [← HS.out]; exact HB8.out⟩
end Go.Proofs.YtokmialpclcodaaDoor
