/- The law of the least forest. Conditions: the edges read as a list. -/
import Derived.Test.YtjkfogkpacmdlaaSpanB
import Derived.Test.YtjkfogkpacmdlaaSpanS
import Derived.Test.YtjkfogkpacmdlaaGraphB
namespace Go.Proofs.Ytjkfogkpacmdlaa
open Go.RowKit

set_option maxRecDepth 100000 in
set_option maxHeartbeats 1000000 in
theorem law_SpanLeast (N : Int) (A : Option Addr) (n c : Nat) (l : List Ed) (w : World) (hl : l.length = n) (hn : n ≤ maxLen) (hc : n ≤ c) (hr : Els w w.heap.size 3 Ed.cells A l) :
    Calls Try.prog 5 #[.agg #[.int .i64 N, .slice A n c]] w fun e w' => e = .returned (.bool true) ∧ Below w.heap.size w w' := by
  have hb0 := (Below.refl w.heap.size w).alloc (Nat.le_refl _) (.cells #[.int .i64 N, .slice A n c] 24)
  have hB0 := Blk.new w 24 #[.int .i64 N, .slice A n c]
  have HW := Lib.hid (span_Least N A n c l (w.alloc (.cells #[.int .i64 N, .slice A n c] 24)) hl hn ((hr.alloc (Nat.le_refl _) _).more (by rw [size_alloc']; omega)))
  have HL := Lib.hid hl
  have HR := Lib.hid hr
  have HM := Lib.hid hn
  have HC := Lib.hid hc
  have HB0 := Lib.hid hb0
  have HK0 := Lib.hid hB0
  have c0 := hB0.cell 0
  have c1 := hB0.cell 1
  clear hr hb0 hB0 hl hn hc
  go_enter Try.func5, Try.ntmps5
  go_wp2_with fail
  refine HW.out.mono ?_
  clear HW
  rintro e v1 ⟨A1, k, cp1, rfl, hb1, hbad, hgood⟩
  have hk1 := HK0.out.below hb1 (by rw [size_alloc']; omega)
  have hb1' := HB0.out.trans (hb1.mono (by rw [size_alloc']; omega))
  have hz1 := hb1'.size
  have hlt1 := hk1.lt
  have HB1 := Lib.hid hb1'
  have HK1 := Lib.hid hk1
  have HBAD := Lib.hid hbad
  have HGOOD := Lib.hid hgood
  clear c0 c1 hb1 hb1' hbad hgood
  have c0 := hk1.cell 0
  have c1 := hk1.cell 1
  clear hk1
  have HGC := Lib.hid (ref_GraphCheck N A n c l v1 HL.out HM.out HC.out ((HR.out.below HB1.out).more hz1))
  go_wp2_with fail
  refine HGC.out.mono ?_
  clear HGC
  rintro e v2 ⟨rfl, hb2⟩
  have hk2 := HK1.out.below hb2 hlt1
  have hb2' := HB1.out.trans (hb2.mono hz1)
  have hz2 := hb2'.size
  have HB2 := Lib.hid hb2'
  by_cases h0 : graphCheck N l = 0
  · obtain ⟨m, rfl, hg⟩ := graph_good h0
    obtain ⟨hkl, ho1⟩ := HGOOD.out h0
    have ho2 := ho1.els.below hb2
    have HGD := Lib.hid (ref_Least m A n c l v2 HL.out hg ((HR.out.below HB2.out).more hz2))
    have HO2 := Lib.hid ho2
    have HKL := Lib.hid hkl
    have hk45 : k ≤ 45 := by
      rw [← hkl]
      have := leastL_le l n n
      have h2 := hg.m45
      rw [HL.out] at h2
      omega
    rw [h0]
    clear c0 c1
    have c0 := hk2.cell 0
    have c1 := hk2.cell 1
    have hz12 : v1.heap.size ≤ v2.heap.size := hb2.size
    clear h0 hg HBAD HGOOD hk2 hkl ho1 ho2 hb2 hb2'
    go_wp2_with fail
    refine HGD.out.mono ?_
    clear HGD
    rintro e v3 ⟨A3, k3, cp3, rfl, hk3, hb3, ho3⟩
    rw [HKL.out] at hk3
    subst hk3
    have HB3 := Lib.hid (HB2.out.trans (hb3.mono hz2))
    have HIN := Lib.hid (ref_Ints (leastL l n n) A1 A3 k cp1 cp3 v3.heap.size v3 HKL.out (by unfold maxLen; omega) ((HO2.out.below (hb3.mono hz12)).more (by have := hb3.size; omega)) ho3.els)
    clear hb3 ho3
    go_wp2_with fail
    refine HIN.out.mono ?_
    clear HIN
    rintro e v4 ⟨rfl, q, rfl⟩
    go_wp2_with fail
    go_ret
    exact ⟨rfl, below_drewN HB3.out _⟩
  · have hr0 := HBAD.out h0
    subst hr0
    have h1 : (graphCheck N l != 0) = true := by simpa using h0
    have h2 : (graphCheck N l == graphCheck N l) = true := by simp
    clear HBAD HGOOD hk2 hb2 hb2' c0 c1
    generalize graphCheck N l = x at h1 h2
    clear h0
    go_wp2_with fail
    go_ret
    exact ⟨rfl, HB2.out⟩
theorem SpanLeast_row (N : Int) (s : Sls (Int × Int × Int)) (w : World) (_hN : OkI N) (h : s.Good w w.heap.size 3 (fun p => [.int .i64 p.1, .int .i64 p.2.1, .int .i64 p.2.2]) (fun p => OkI p.1 ∧ OkI p.2.1 ∧ OkI p.2.2)) :
    Calls Try.prog 5 #[.agg #[.int .i64 N, s.val]] w fun e w' => e = .returned (.bool true) ∧ Below w.heap.size w w' :=
  law_SpanLeast N s.A s.l.length s.c (s.l.map Ed.of) w (by simp) h.1 h.2.1 (h.2.2.1.map_ Ed.of fun _ _ => rfl)
end Go.Proofs.Ytjkfogkpacmdlaa
