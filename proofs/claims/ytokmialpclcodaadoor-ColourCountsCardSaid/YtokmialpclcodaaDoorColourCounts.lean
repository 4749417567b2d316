/- The statement ColourCounts: its law's walk. Conditions: the edges read as a list; the table. -/
import Derived.Test.YtokmialpclcodaaDoorCntB
import Derived.Test.YtokmialpclcodaaDoorSortB
import Derived.Test.YtokmialpclcodaaDoorOpen
namespace Go.Proofs.YtokmialpclcodaaDoor
open Go.RowKit

set_option maxRecDepth 100000 in
set_option maxHeartbeats 1000000 in
theorem col_Count_bad (N : Int) (A : Option Addr) (n c : Nat) (K : Int) (l : List Ed) (w : World) (hl : l.length = n) (hn : n ≤ maxLen) (he : graphCheck N l ≠ 0) (hr : Els w w.heap.size 3 Ed.cells A l) :
    Calls Tryd.prog 18 #[.agg #[.int .i64 N, .slice A n c], .int .i64 K] w fun e w' => e = .returned (.tuple #[.int .i64 0, .int .i64 (graphCheck N l)]) ∧ Below w.heap.size w w' := by
  have HE := Lib.hid (graph_Check N A n c l ((w.alloc (.cells #[.int .i64 N, .slice A n c] 33)).alloc (.cells #[.int .i64 K] 3)) hl hn (((hr.alloc (Nat.le_refl _) _).alloc (by rw [size_alloc']; omega) _).more (by rw [size_alloc', size_alloc']; omega)))
  have HB0 := Lib.hid (((Below.refl w.heap.size w).alloc (Nat.le_refl _) (.cells #[.int .i64 N, .slice A n c] 33)).alloc (by rw [size_alloc']; omega) (.cells #[.int .i64 K] 3))
  have h1 : (graphCheck N l != 0) = true := by simpa using he
  have c0 := ((Blk.new w 33 #[.int .i64 N, .slice A n c]).alloc (.cells #[.int .i64 K] 3)).cell 0
  have c1 := ((Blk.new w 33 #[.int .i64 N, .slice A n c]).alloc (.cells #[.int .i64 K] 3)).cell 1
  generalize graphCheck N l = x at HE h1
  clear hl hn hr he
  go_enter Tryd.func18, Tryd.ntmps18
  go_wp2_with fail
  refine HE.out.mono ?_
  clear HE
  rintro e v1 ⟨rfl, hb1⟩
  rw [size_alloc', size_alloc'] at hb1
  have HB1 := Lib.hid (HB0.out.trans (hb1.mono (by omega)))
  clear hb1 HB0
  go_wp2_with fail
  go_ret2
  exact ⟨rfl, HB1.out⟩
set_option maxRecDepth 100000 in
set_option maxHeartbeats 1000000 in
theorem col_Count_far (N : Nat) (A : Option Addr) (n c : Nat) (K : Int) (l : List Ed) (w : World) (hl : l.length = n) (hn : n ≤ maxLen) (he : graphCheck N l = 0) (hK : K < 0 ∨ 12 < K) (hr : Els w w.heap.size 3 Ed.cells A l) :
    Calls Tryd.prog 18 #[.agg #[.int .i64 N, .slice A n c], .int .i64 K] w fun e w' => e = .returned (.tuple #[.int .i64 0, .int .i64 4]) ∧ Below w.heap.size w w' := by
  have hc0 := graph_Check N A n c l ((w.alloc (.cells #[.int .i64 N, .slice A n c] 33)).alloc (.cells #[.int .i64 K] 3)) hl hn (((hr.alloc (Nat.le_refl _) _).alloc (by rw [size_alloc']; omega) _).more (by rw [size_alloc', size_alloc']; omega))
  rw [he] at hc0
  have HE := Lib.hid hc0
  have HB0 := Lib.hid (((Below.refl w.heap.size w).alloc (Nat.le_refl _) (.cells #[.int .i64 N, .slice A n c] 33)).alloc (by rw [size_alloc']; omega) (.cells #[.int .i64 K] 3))
  have c0 := ((Blk.new w 33 #[.int .i64 N, .slice A n c]).alloc (.cells #[.int .i64 K] 3)).cell 0
  have c1 := ((Blk.new w 33 #[.int .i64 N, .slice A n c]).alloc (.cells #[.int .i64 K] 3)).cell 1
  have HK1 := Lib.hid (Blk.new (w.alloc (.cells #[.int .i64 N, .slice A n c] 33)) 3 #[.int .i64 K])
  clear hl hn hr he hc0
  go_enter Tryd.func18, Tryd.ntmps18
  go_wp2_with fail
  refine HE.out.mono ?_
  clear HE
  rintro e v1 ⟨rfl, hb1⟩
  rw [size_alloc', size_alloc'] at hb1
  have hk1 := HK1.out.below hb1 (by rw [size_alloc']; omega)
  rw [size_alloc'] at hk1
  have d0 := hk1.cell 0
  have HB1 := Lib.hid (HB0.out.trans (hb1.mono (by omega)))
  clear hb1 HB0 hk1 HK1
  rcases hK with hK | hK
  · go_wp2_with fail
    go_ret2
    exact ⟨rfl, HB1.out⟩
  · have h0 : ¬ K < 0 := by omega
    go_wp2_with fail
    go_ret2
    exact ⟨rfl, HB1.out⟩
set_option maxRecDepth 100000 in
set_option maxHeartbeats 1000000 in
theorem law_ColourCounts (N : Int) (A : Option Addr) (n c : Nat) (K : Int) (l : List Ed) (w : World) (htab : TabOk w) (hl : l.length = n) (hn : n ≤ maxLen) (hc : n ≤ c) (hr : Els w w.heap.size 3 Ed.cells A l) :
    Calls Tryd.prog 5 #[.agg #[.int .i64 N, .slice A n c], .int .i64 K] w fun e w' => e = .returned (.bool true) ∧ Below w.heap.size w w' := by
  have h0w : 0 < w.heap.size := Nat.lt_of_le_of_lt (Nat.zero_le _) htab.1
  have hb0 := (Below.refl w.heap.size w).alloc (Nat.le_refl _) (.cells #[.int .i64 N, .slice A n c] 33)
  have hB0 := Blk.new w 33 #[.int .i64 N, .slice A n c]
  have HW : Hid (Calls Tryd.prog 18 #[.agg #[.int .i64 N, .slice A n c], .int .i64 K] (w.alloc (.cells #[.int .i64 N, .slice A n c] 33)) fun e w' => ∃ (k er : Int), e = .returned (.tuple #[.int .i64 k, .int .i64 er]) ∧ Below (w.alloc (.cells #[.int .i64 N, .slice A n c] 33)).heap.size (w.alloc (.cells #[.int .i64 N, .slice A n c] 33)) w' ∧
      (graphCheck N l ≠ 0 → k = 0 ∧ er = graphCheck N l) ∧ (graphCheck N l = 0 → (K < 0 ∨ 12 < K) → k = 0 ∧ er = 4) ∧ (graphCheck N l = 0 → ¬ (K < 0 ∨ 12 < K) → er = 0 ∧ ∃ m : Nat, N = m ∧ k = PW m (looseB l) (maskW m) K)) := by
    have hr1 : Els (w.alloc (.cells #[.int .i64 N, .slice A n c] 33)) (w.alloc (.cells #[.int .i64 N, .slice A n c] 33)).heap.size 3 Ed.cells A l := (hr.alloc (Nat.le_refl _) _).more (by rw [size_alloc']; omega)
    by_cases h0 : graphCheck N l = 0
    · obtain ⟨m, rfl, hg⟩ := graph_good h0
      by_cases hK : K < 0 ∨ 12 < K
      · refine Lib.hid ((col_Count_far m A n c K l _ hl hn h0 hK hr1).mono ?_)
        rintro e w' ⟨rfl, hb⟩
        exact ⟨0, 4, rfl, hb, fun h => absurd h0 h, fun _ _ => ⟨rfl, rfl⟩, fun _ h => absurd hK h⟩
      · obtain ⟨k, rfl⟩ : ∃ k : Nat, K = k := ⟨K.toNat, by omega⟩
        refine Lib.hid ((col_Count m n c k A l _ (by omega) hl hg h0 hr1 (htab.below hb0 h0w)).mono ?_)
        rintro e w' ⟨rfl, hb⟩
        exact ⟨_, 0, rfl, hb, fun h => absurd h0 h, fun _ h => absurd h hK, fun _ _ => ⟨rfl, m, rfl, rfl⟩⟩
    · refine Lib.hid ((col_Count_bad N A n c K l _ hl hn h0 hr1).mono ?_)
      rintro e w' ⟨rfl, hb⟩
      exact ⟨0, _, rfl, hb, fun _ => ⟨rfl, rfl⟩, fun h => absurd h h0, fun h => absurd h h0⟩
  have HL := Lib.hid hl
  have HR := Lib.hid hr
  have HM := Lib.hid hn
  have HC := Lib.hid hc
  have HB0 := Lib.hid hb0
  have HK0 := Lib.hid hB0
  have c0 := hB0.cell 0
  have c1 := hB0.cell 1
  clear hr hb0 hB0 hl hn hc htab
  go_enter Tryd.func5, Tryd.ntmps5
  go_wp2_with fail
  refine HW.out.mono ?_
  clear HW
  rintro e v1 ⟨k, er, rfl, hb1, hbad, hfar, hgood⟩
  have hk1 := HK0.out.below hb1 (by rw [size_alloc']; omega)
  have hb1' := HB0.out.trans (hb1.mono (by rw [size_alloc']; omega))
  have hz1 := hb1'.size
  have hlt1 := hk1.lt
  have HB1 := Lib.hid hb1'
  have HK1 := Lib.hid hk1
  have HBAD := Lib.hid hbad
  have HFAR := Lib.hid hfar
  have HGOOD := Lib.hid hgood
  clear c0 c1 hb1 hb1' hbad hgood hfar
  have c0 := hk1.cell 0
  have c1 := hk1.cell 1
  clear hk1
  have HGC := Lib.hid (ref_GraphCheck N A n c l v1 HL.out HM.out HC.out ((HR.out.below HB1.out).more hz1))
  go_wp2_with fail
  refine HGC.out.mono ?_
  clear HGC
  rintro e v2 ⟨rfl, hb2⟩
  have hk2 := HK1.out.below hb2 hlt1
  have hb2' := HB1.out.trans (hb2.mono hz1)
  have hz2 := hb2'.size
  have HB2 := Lib.hid hb2'
  clear c0 c1 hb2 hb2'
  have c0 := hk2.cell 0
  have c1 := hk2.cell 1
  clear hk2
  by_cases h0 : graphCheck N l = 0
  · rcases Classical.em (K < 0 ∨ 12 < K) with hK | hK
    · obtain ⟨rfl, rfl⟩ := HFAR.out h0 hK
      rw [h0]
      clear h0 HBAD HGOOD HFAR
      rcases hK with hK | hK
      · go_wp2_with fail
        go_ret
        exact ⟨rfl, HB2.out⟩
      · have hK0 : ¬ K < 0 := by omega
        go_wp2_with fail
        go_ret
        exact ⟨rfl, HB2.out⟩
    · obtain ⟨rfl, m, rfl, rfl⟩ := HGOOD.out h0 hK
      obtain ⟨m', hm', hg⟩ := graph_good h0
      obtain rfl : m = m' := by omega
      have HS := Lib.hid (ref_Count m n c A l K (by omega) (by omega) v2 HL.out hg ((HR.out.below HB2.out).more hz2) (by omega))
      rw [h0]
      obtain ⟨p, hp⟩ : ∃ p, p = PW m (looseB l) (maskW m) K := ⟨_, rfl⟩
      rw [← hp] at HS ⊢
      have hK0 : ¬ K < 0 := by omega
      have hK1 : ¬ 12 < K := by omega
      clear h0 hm' hg HBAD HGOOD HFAR hp hK
      go_wp2_with fail
      refine HS.out.mono ?_
      clear HS
      rintro e v3 ⟨rfl, hb3⟩
      have HB3 := Lib.hid (HB2.out.trans (hb3.mono hz2))
      clear hb3
      go_wp2_with fail
      go_ret
      exact ⟨rfl, HB3.out⟩
  · obtain ⟨rfl, rfl⟩ := HBAD.out h0
    have h1 : (graphCheck N l != 0) = true := by simpa using h0
    have h2 : (graphCheck N l == graphCheck N l) = true := by simp
    have h3 : (graphCheck N l == 0) = false := by simpa using h0
    clear HBAD HGOOD HFAR
    generalize graphCheck N l = x at h0 h1 h2 h3
    clear h0
    go_wp2_with fail
    go_ret
    exact ⟨rfl, HB2.out⟩
theorem ColourCounts_row (N : Int) (s : Sls (Int × Int × Int)) (K : Int) (w : World) (htab : TabOk w) (_hN : OkI N) (h : s.Good w w.heap.size 3 (fun p => [.int .i64 p.1, .int .i64 p.2.1, .int .i64 p.2.2]) (fun p => OkI p.1 ∧ OkI p.2.1 ∧ OkI p.2.2)) (_hK : OkI K) :
    Calls Tryd.prog 5 #[.agg #[.int .i64 N, s.val], .int .i64 K] w fun e w' => e = .returned (.bool true) ∧ Below w.heap.size w w' :=
  law_ColourCounts N s.A s.l.length s.c K (s.l.map Ed.of) w htab (by simp) h.1 h.2.1 (h.2.2.1.map_ Ed.of fun _ _ => rfl)
end Go.Proofs.YtokmialpclcodaaDoor
