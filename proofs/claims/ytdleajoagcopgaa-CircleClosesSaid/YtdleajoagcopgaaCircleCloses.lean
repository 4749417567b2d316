/- The statement CircleCloses: the walk of its law. Conditions: the edges read as a list. -/
import Derived.Test.YtdleajoagcopgaaCloseB
import Derived.Test.YtdleajoagcopgaaEdgesEq
import Derived.Test.YtdleajoagcopgaaOpen
namespace Go.Proofs.Ytdleajoagcopgaa
open Go.RowKit

set_option maxRecDepth 100000 in
set_option maxHeartbeats 1000000 in
theorem law_CircleCloses (N : Int) (A : Option Addr) (n c : Nat) (l : List Ed) (w : World) (hl : l.length = n) (hn : n ≤ maxLen) (hc : n ≤ c) (hr : Els w w.heap.size 3 Ed.cells A l) :
    Calls Try.prog 3 #[.agg #[.int .i64 N, .slice A n c]] w fun e w' => e = .returned (.bool true) ∧ Below w.heap.size w w' := by
  have hb0 := (Below.refl w.heap.size w).alloc (Nat.le_refl _) (.cells #[.int .i64 N, .slice A n c] 24)
  have hB0 := Blk.new w 24 #[.int .i64 N, .slice A n c]
  have HW := Lib.hid (circle_Close N A n c l (w.alloc (.cells #[.int .i64 N, .slice A n c] 24)) hl hn ((hr.alloc (Nat.le_refl _) _).more (by rw [size_alloc']; omega)))
  have HL := Lib.hid hl
  have HR := Lib.hid hr
  have HM := Lib.hid hn
  have HC := Lib.hid hc
  have HB0 := Lib.hid hb0
  have HK0 := Lib.hid hB0
  have c0 := hB0.cell 0
  have c1 := hB0.cell 1
  clear hr hb0 hB0 hl hn hc
  go_enter Try.func3, Try.ntmps3
  go_wp2_with fail
  refine HW.out.mono ?_
  clear HW c0 c1
  rintro e v1 ⟨N2, A2, n2, c2, rfl, hb1, hbad, hgood⟩
  have hk1 := HK0.out.below hb1 (by rw [size_alloc']; omega)
  have hb1' := HB0.out.trans (hb1.mono (by rw [size_alloc']; omega))
  have hz1 := hb1'.size
  have hlt1 := hk1.lt
  obtain ⟨V, hV⟩ : ∃ V, V = v1.alloc (.cells #[.int .i64 N2, .slice A2 n2 c2] 24) := ⟨_, rfl⟩
  have hbV : Below w.heap.size w V := by rw [hV]; exact hb1'.alloc hz1 _
  have hkV : Blk V w.heap.size 24 #[.int .i64 N, .slice A n c] := by rw [hV]; exact hk1.alloc _
  have hhV : Blk V v1.heap.size 24 #[.int .i64 N2, .slice A2 n2 c2] := by rw [hV]; exact Blk.new _ _ _
  have hv1V : Below v1.heap.size v1 V := by rw [hV]; exact (Below.refl _ _).alloc (Nat.le_refl _) _
  have c0 := hkV.cell 0
  have c1 := hkV.cell 1
  have HCK := Lib.hid (ref_GraphCheck N A n c l V HL.out HM.out HC.out ((HR.out.below hbV).more hbV.size))
  have HBV := Lib.hid hbV
  have HKV := Lib.hid hkV
  have HHV := Lib.hid hhV
  have HV1 := Lib.hid hv1V
  have HBAD := Lib.hid hbad
  have HGOOD := Lib.hid hgood
  clear HK0 HB0 hk1 hb1 hb1' hbad hgood hbV hkV hhV hv1V
  subst hV
  go_wp2_with fail
  refine HCK.out.mono ?_
  clear HCK c0 c1
  rintro e v2 ⟨rfl, hb2⟩
  have hzV := HBV.out.size
  have hlV := HHV.out.lt
  have hb2' := HBV.out.trans (hb2.mono hzV)
  have hz2 := hb2.size
  have hk2 := HKV.out.below hb2 HKV.out.lt
  have hh2 := HHV.out.below hb2 hlV
  have c0 := hk2.cell 0
  have c1 := hk2.cell 1
  have d0 := hh2.cell 0
  have d1 := hh2.cell 1
  have HB2 := Lib.hid hb2'
  have HV2 := Lib.hid (HV1.out.trans (hb2.mono (by have := HV1.out.size; omega)))
  have HH2 := Lib.hid hh2
  clear hb2 hb2' hk2 hh2 HKV HHV HV1
  by_cases h0 : graphCheck N l = 0
  · obtain ⟨rfl, R, hcl, hRl, hR45, hRe⟩ := HGOOD.out h0
    obtain ⟨m, rfl, hg⟩ := graph_good h0
    have HRF := Lib.hid (ref_Close m A n c l v2 HL.out hg ((HR.out.below HB2.out).more HB2.out.size))
    have HCL : Hid (Closes m l R) := Lib.hid (by simpa using hcl)
    have HRL := Lib.hid hRl
    have HRE := Lib.hid hRe
    rw [h0]
    clear h0 hg hcl hRl hRe HBAD HGOOD
    go_wp2_with fail
    refine HRF.out.mono ?_
    clear HRF
    rintro e v3 ⟨A3, n3, c3, R', rfl, hb3, hcl', hRl', hR45', hRe'⟩
    obtain rfl := hcl'.same HCL.out
    obtain rfl : n3 = n2 := by rw [← hRl', ← HRL.out]
    have hz3 := hb3.size
    have hh3 := HH2.out.below hb3 HH2.out.lt
    have hl3 := hh3.lt
    have hv3 := HV2.out.trans (hb3.mono HV2.out.size)
    obtain ⟨W, hW⟩ : ∃ W, W = v3.alloc (.cells #[.int .i64 m, .slice A3 n3 c3] 24) := ⟨_, rfl⟩
    have hhW : Blk W v1.heap.size 24 #[.int .i64 m, .slice A2 n3 c2] := by rw [hW]; exact hh3.alloc _
    have hkW : Blk W v3.heap.size 24 #[.int .i64 m, .slice A3 n3 c3] := by rw [hW]; exact Blk.new _ _ _
    have hv3W : Below v3.heap.size v3 W := by rw [hW]; exact (Below.refl _ _).alloc (Nat.le_refl _) _
    have hbW : Below w.heap.size w W := (HB2.out.trans (hb3.mono (by omega))).trans (hv3W.mono (by omega))
    have HES := Lib.hid (Edges_same A2 A3 n3 c2 c3 R' v1.heap.size v3.heap.size W hRl' (by unfold maxLen; omega) (HRE.out.below (hv3.trans (hv3W.mono hv3.size))) (hRe'.below hv3W))
    have HBW := Lib.hid hbW
    have d0 := hhW.cell 0
    have d1 := hhW.cell 1
    have e0 := hkW.cell 0
    have e1 := hkW.cell 1
    clear hh3 hv3 hhW hkW hv3W hbW hb3 hcl' hRl' hRe' c0 c1 HH2 HV2 HB2 HRE HRL HCL
    subst hW
    go_wp2_with fail
    refine HES.out.mono ?_
    clear HES
    rintro e v4 ⟨rfl, q, rfl⟩
    go_wp2_with fail
    go_ret
    exact ⟨rfl, below_drewN HBW.out q⟩
  · obtain ⟨rfl, rfl⟩ := HBAD.out h0
    have h1 : (graphCheck N l != 0) = true := by simpa using h0
    generalize graphCheck N l = x at h0 h1
    clear h0
    go_wp2_with fail
    go_ret
    exact ⟨rfl, HB2.out⟩
theorem CircleCloses_row (N : Int) (s : Sls (Int × Int × Int)) (w : World) (_hN : OkI N) (h : s.Good w w.heap.size 3 (fun p => [.int .i64 p.1, .int .i64 p.2.1, .int .i64 p.2.2]) (fun p => OkI p.1 ∧ OkI p.2.1 ∧ OkI p.2.2)) :
    Calls Try.prog 3 #[.agg #[.int .i64 N, s.val]] w fun e w' => e = .returned (.bool true) ∧ Below w.heap.size w w' :=
  law_CircleCloses N s.A s.l.length s.c (s.l.map Ed.of) w (by simp) h.1 h.2.1 (h.2.2.1.map_ Ed.of fun _ _ => rfl)
end Go.Proofs.Ytdleajoagcopgaa
