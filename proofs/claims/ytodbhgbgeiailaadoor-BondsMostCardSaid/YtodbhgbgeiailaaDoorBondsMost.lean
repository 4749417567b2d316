/- The statement BondsMost: its law's walk. Conditions: the edges read as a list; the table. -/
import Derived.Test.YtodbhgbgeiailaaDoorBondN
import Derived.Test.YtodbhgbgeiailaaDoorGraphB
import Derived.Test.YtodbhgbgeiailaaDoorEq
namespace Go.Proofs.YtodbhgbgeiailaaDoor
open Go.RowKit

set_option maxRecDepth 100000 in
set_option maxHeartbeats 1000000 in
theorem law_BondsMost (N : Int) (A : Option Addr) (n c : Nat) (l : List Ed) (w : World) (htab : TabOk w) (hl : l.length = n) (hn : n ≤ maxLen) (hc : n ≤ c) (hr : Els w w.heap.size 3 Ed.cells A l) :
    Calls Tryd.prog 3 #[.agg #[.int .i64 N, .slice A n c]] w fun e w' => e = .returned (.bool true) ∧ Below w.heap.size w w' := by
  have h0w : 0 < w.heap.size := Nat.lt_of_le_of_lt (Nat.zero_le _) htab.1
  have hb0 := (Below.refl w.heap.size w).alloc (Nat.le_refl _) (.cells #[.int .i64 N, .slice A n c] 24)
  have hB0 := Blk.new w 24 #[.int .i64 N, .slice A n c]
  have HW : Hid (Calls Tryd.prog 7 #[.agg #[.int .i64 N, .slice A n c]] (w.alloc (.cells #[.int .i64 N, .slice A n c] 24)) fun e w' => ∃ A1 k cap er, e = .returned (.tuple #[.slice A1 k cap, .int .i64 er]) ∧ Below (w.alloc (.cells #[.int .i64 N, .slice A n c] 24)).heap.size (w.alloc (.cells #[.int .i64 N, .slice A n c] 24)) w' ∧
      (graphCheck N l ≠ 0 → k = 0 ∧ er = graphCheck N l) ∧ (graphCheck N l = 0 → er = 0 ∧ ∃ m : Nat, N = m ∧ k = (bondL l 0 (fun j : Int => bitB (maskW m) j)).length ∧ k ≤ 45 ∧ Els w' w'.heap.size 1 icell A1 (intsOf (bondL l 0 (fun j : Int => bitB (maskW m) j))))) := by
    have hr1 : Els (w.alloc (.cells #[.int .i64 N, .slice A n c] 24)) (w.alloc (.cells #[.int .i64 N, .slice A n c] 24)).heap.size 3 Ed.cells A l := (hr.alloc (Nat.le_refl _) _).more (by rw [size_alloc']; omega)
    by_cases h0 : graphCheck N l = 0
    · obtain ⟨m, rfl, hg⟩ := graph_good h0
      refine Lib.hid ((bonds_Most m n c A l _ hl hg h0 hc hr1 (htab.below hb0 h0w)).mono ?_)
      rintro e w' ⟨A', cap, rfl, hb, how⟩
      exact ⟨A', _, cap, 0, rfl, hb, fun h => absurd h0 h, fun _ => ⟨rfl, m, rfl, rfl, Nat.le_trans (bondL_lt _ _ _) hg.m45, how.els⟩⟩
    · refine Lib.hid ((bonds_Most_bad N A n c l _ hl hn h0 hr1).mono ?_)
      rintro e w' ⟨rfl, hb⟩
      exact ⟨none, 0, 0, _, rfl, hb, fun _ => ⟨rfl, rfl⟩, fun h => absurd h h0⟩
  have HL := Lib.hid hl
  have HR := Lib.hid hr
  have HM := Lib.hid hn
  have HC := Lib.hid hc
  have HB0 := Lib.hid hb0
  have HK0 := Lib.hid hB0
  have c0 := hB0.cell 0
  have c1 := hB0.cell 1
  clear hr hb0 hB0 hl hn hc htab
  go_enter Tryd.func3, Tryd.ntmps3
  go_wp2_with fail
  refine HW.out.mono ?_
  clear HW
  rintro e v1 ⟨A1, k, cap1, er, rfl, hb1, hbad, hgood⟩
  have hk1 := HK0.out.below hb1 (by rw [size_alloc']; omega)
  have hb1' := HB0.out.trans (hb1.mono (by rw [size_alloc']; omega))
  have hz1 := hb1'.size
  have hlt1 := hk1.lt
  have HB1 := Lib.hid hb1'
  have HK1 := Lib.hid hk1
  have HBAD := Lib.hid hbad
  have HGOOD := Lib.hid hgood
  clear c0 c1 hb1 hb1' hbad hgood
  have c0 := hk1.cell 0
  have c1 := hk1.cell 1
  clear hk1
  have HGC := Lib.hid (ref_GraphCheck N A n c l v1 HL.out HM.out HC.out ((HR.out.below HB1.out).more hz1))
  go_wp2_with fail
  refine HGC.out.mono ?_
  clear HGC
  rintro e v2 ⟨rfl, hb2⟩
  have hk2 := HK1.out.below hb2 hlt1
  have hb2' := HB1.out.trans (hb2.mono hz1)
  have hz2 := hb2'.size
  have hz12 := hb2.size
  have HB2 := Lib.hid hb2'
  have HB12 := Lib.hid hb2
  clear c0 c1 hb2 hb2'
  have c0 := hk2.cell 0
  have c1 := hk2.cell 1
  clear hk2
  by_cases h0 : graphCheck N l = 0
  · obtain ⟨rfl, m, rfl, hkk, hk45, hels1⟩ := HGOOD.out h0
    obtain ⟨m', hm', hg⟩ := graph_good h0
    obtain rfl : m = m' := by omega
    have HS := Lib.hid (ref_Bond m n c A l v2 HL.out hg ((HR.out.below HB2.out).more hz2))
    have HE1 := Lib.hid hels1
    rw [h0]
    obtain ⟨out, hout⟩ : ∃ out, out = bondL l 0 (fun j : Int => bitB (maskW m) j) := ⟨_, rfl⟩
    rw [← hout] at HS HE1 hkk
    have HKK := Lib.hid hkk
    clear h0 hm' hg HBAD HGOOD hels1 hout hkk
    go_wp2_with fail
    refine HS.out.mono ?_
    clear HS
    rintro e v3 ⟨A3, c3, rfl, hb3, how3⟩
    have HB3 := Lib.hid (HB2.out.trans (hb3.mono hz2))
    have HB23 := Lib.hid (hb3.mono hz12)
    have HI := Lib.hid (Ints_same A1 A3 out.length cap1 c3 (intsOf out) v1.heap.size v3.heap.size v3 (by rw [intsOf, List.length_map]) (by unfold maxLen; have := HKK.out; omega) ((HE1.out.below HB12.out).below HB23.out) how3.els)
    rw [HKK.out]
    clear hb3 how3 HE1 HKK hk45
    go_wp2_with fail
    refine HI.out.mono ?_
    clear HI
    rintro e v4 ⟨rfl, q, rfl⟩
    go_wp2_with fail
    go_ret
    exact ⟨rfl, below_drewN HB3.out q⟩
  · obtain ⟨rfl, rfl⟩ := HBAD.out h0
    have h1 : (graphCheck N l != 0) = true := by simpa using h0
    have h2 : (graphCheck N l == graphCheck N l) = true := by simp
    clear HBAD HGOOD
    generalize graphCheck N l = x at h0 h1 h2
    clear h0
    go_wp2_with fail
    go_ret
    exact ⟨rfl, HB2.out⟩
theorem BondsMost_row (N : Int) (s : Sls (Int × Int × Int)) (w : World) (htab : TabOk w) (_hN : OkI N) (h : s.Good w w.heap.size 3 (fun p => [.int .i64 p.1, .int .i64 p.2.1, .int .i64 p.2.2]) (fun p => OkI p.1 ∧ OkI p.2.1 ∧ OkI p.2.2)) :
    Calls Tryd.prog 3 #[.agg #[.int .i64 N, s.val]] w fun e w' => e = .returned (.bool true) ∧ Below w.heap.size w w' :=
  law_BondsMost N s.A s.l.length s.c (s.l.map Ed.of) w htab (by simp) h.1 h.2.1 (h.2.2.1.map_ Ed.of fun _ _ => rfl)
end Go.Proofs.YtodbhgbgeiailaaDoor
